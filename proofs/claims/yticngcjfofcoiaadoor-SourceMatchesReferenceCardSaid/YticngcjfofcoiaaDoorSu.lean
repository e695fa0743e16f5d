/- The contracts of support, Support and Named. -/
import Derived.Test.YticngcjfofcoiaaDoorSpn
import Derived.Test.YticngcjfofcoiaaDoorLe
import Derived.Test.YticngcjfofcoiaaDoorFi
namespace Go.Proofs.YticngcjfofcoiaaDoor
open Go.RowKit Go.Rg Go.Proofs.YticngcjfofcoiaaDoorW.PrintWords
set_option linter.unusedVariables false
set_option linter.unusedSimpArgs false
set_option maxRecDepth 100000
def webOf (l : List Src) (xs : List Int) (wo : Nat) : Flow.Web := netOf (nxL l) (sdL xs) (ogL l) wo
def givenB (l : List Src) (xs : List Int) : Bool := validS l && asrt l xs
noncomputable def cntS (l : List Src) (xs : List Int) (wo : Nat) : Nat := if givenB l xs = true then Flow.mc (webOf l xs wo) else 0
noncomputable def waysS (l : List Src) (xs : List Int) (wo : Nat) : List (List Nat) := if givenB l xs = true then Flow.leastF (webOf l xs wo) (Flow.mc (webOf l xs wo)) (bitsOf 0) else []
noncomputable def cutS (l : List Src) (xs : List Int) (wo : Nat) : List Nat := if givenB l xs = true then Flow.firstL (webOf l xs wo) else []
def errS (l : List Src) (xs : List Int) : Int := if givenB l xs = true then 0 else 70
def toI (p : List (List Nat)) : List (List Int) := p.map fun q => q.map Int.ofNat
def SupPost (l : List Src) (xs : List Int) (wo : Nat) (w : World) (e : Ending) (w' : World) : Prop :=
 ∃ wv cv, e = .returned (.tuple #[.agg #[.int .i64 (cntS l xs wo : Nat), wv, cv], .int .i64 (errS l xs)]) ∧ kW.R 26 w' w.heap.size (fun k => w.heap.size ≤ k) wv (toI (waysS l xs wo)) ∧ (Kd.int .i64).R 3 w' w.heap.size (fun k => w.heap.size ≤ k) cv ((cutS l xs wo).map Int.ofNat) ∧ Below w.heap.size w w'
theorem kW_only {q : Nat} (h : q ∈ (26 : Nat) :: kW.E) : q ≠ 30 := by rcases kW_E h with rfl | rfl <;> decide
theorem kI_30 {q : Nat} (h : q ∈ (3 : Nat) :: (Kd.int .i64).E) : q ≠ 30 := by rw [kI_only h]; decide
theorem given_len {l : List Src} {xs : List Int} {wo : Nat} (h : givenB l xs = true) : (waysS l xs wo).length = cntS l xs wo ∧ (cutS l xs wo).length = cntS l xs wo := by
 unfold waysS cutS cntS
 rw [if_pos h, if_pos h, if_pos h]
 unfold givenB at h
 rw [Bool.and_eq_true] at h
 have hf := (valid_nx h.1).fit (sdL xs) (ogL l) wo
 refine ⟨(Flow.leastF_spec (w := webOf l xs wo) hf _ (bitsOf 0) ?_).1, Flow.firstL_len hf⟩
 have : Flow.sub (webOf l xs wo) (webOf l xs wo).org (bitsOf 0) = webOf l xs wo := by
  unfold Flow.sub webOf netOf bitsOf
  congr 1
  funext i
  simp
 rw [this]
 exact Nat.le_refl _
set_option maxHeartbeats 4000000 in
theorem support_no (A : Option Addr) (c : Nat) (l : List Src) (B : Option Addr) (d : Nat) (xs : List Int) (wo : Nat) (w : World) (hr : Kd.C kS w A l.length l) (hl : ∀ s ∈ l, s.frm.length ≤ 1000) (hx : (Kd.int .i64).C w B xs.length xs) (hg : givenB l xs = false) :
  Calls Tryd.prog 35 #[.slice A l.length c, .slice B xs.length d, .int .u16 (wo : Int)] w (SupPost l xs wo w) := by
 have e1 : cntS l xs wo = 0 := by unfold cntS; rw [hg]; rfl
 have e2 : waysS l xs wo = [] := by unfold waysS; rw [hg]; rfl
 have e3 : cutS l xs wo = [] := by unfold cutS; rw [hg]; rfl
 have e4 : errS l xs = 70 := by unfold errS; rw [hg]; rfl
 unfold SupPost
 rw [e1, e2, e3, e4]
 clear e1 e2 e3 e4
 have hb6 := (Below.refl w.heap.size w).alloc (Nat.le_refl _) (.cells #[.int .i64 0, .slice none 0 0, .slice none 0 0] 30)
 have hv := valid_any A c l _ (Kd.C_below hr hb6) hl
 have HR := Lib.hid (And.intro (Kd.C_below hr hb6) (And.intro hl (And.intro (Kd.C_below hx hb6) hb6))); clear hr hl hx
 have h6 : (w.alloc (.cells #[.int .i64 0, .slice none 0 0, .slice none 0 0] 30)).heap[w.heap.size]? = some (.cells #[.int .i64 0, .slice none 0 0, .slice none 0 0] 30) := heap_new rfl
 have H6 := Lib.hid h6; clear h6 hb6
 unfold givenB at hg
 cases hv1 : validS l with
 |false =>
  rw [hv1] at hv
  have HV := Lib.hid hv; clear hv hg hv1
  go_enter Tryd.func35, Tryd.ntmps35
  go_wp2_with fail
  refine HV.out.mono ?_
  rintro e w1 ⟨rfl, hb1⟩
  have h6 := (hb1.block _ (by simp)).trans H6.out
  have c0 : w1.cell? ⟨w.heap.size, 0, none⟩ = some (.int .i64 0) := cell_of h6 rfl
  have c1 : w1.cell? ⟨w.heap.size, 1, none⟩ = some (.slice none 0 0) := cell_of h6 rfl
  have c2 : w1.cell? ⟨w.heap.size, 2, none⟩ = some (.slice none 0 0) := cell_of h6 rfl
  have f0 := fun o => frozen_of (o := o) h6
  have HH := Lib.hid (And.intro h6 (HR.out.2.2.2.trans (hb1.mono (by simp)))); clear h6 hb1
  go_wp2_with fail
  have hs3 := set3 (y0 := .int .i64 0) (y1 := .slice none 0 0) (y2 := .slice none 0 0) HH.out.1
  refine bodyPost_ret (v := .tuple #[.agg #[.int .i64 0, .slice none 0 0, .slice none 0 0], .int .i64 70]) ?_ rfl ⟨.slice none 0 0, .slice none 0 0, rfl, Kd.R_nil _ _ _ _ _, Kd.R_nil _ _ _ _ _, ((HH.out.2.setCell (by simp) _).setCell (by simp) _).setCell (by simp) _⟩
  have e0 := cell_of (o := 0) hs3 rfl
  have e1 := cell_of (o := 1) hs3 rfl
  have e2 := cell_of (o := 2) hs3 rfl
  simp [results, Tryd.results35, go_sem, e0, e1, e2]
 |true =>
  rw [hv1] at hv
  have ha : asrt l xs = false := by rw [hv1] at hg; simpa using hg
  have HV := Lib.hid hv
  have HAS := Lib.hid ha; clear hv hg hv1 ha
  go_enter Tryd.func35, Tryd.ntmps35
  go_wp2_with fail
  refine HV.out.mono ?_
  rintro e w0 ⟨rfl, hb0⟩
  have has := asrt_any A c l B d xs w0 (Kd.C_below HR.out.1 hb0) HR.out.2.1 (Kd.C_below HR.out.2.2.1 hb0)
  rw [HAS.out] at has
  have HA := Lib.hid has
  have HB0 := Lib.hid hb0; clear has hb0 HV
  go_wp2_with fail
  refine HA.out.mono ?_
  rintro e w1 ⟨rfl, hb1'⟩
  have hb1 := HB0.out.trans (hb1'.mono HB0.out.size)
  clear hb1' HA
  have h6 := (hb1.block _ (by simp)).trans H6.out
  have c0 : w1.cell? ⟨w.heap.size, 0, none⟩ = some (.int .i64 0) := cell_of h6 rfl
  have c1 : w1.cell? ⟨w.heap.size, 1, none⟩ = some (.slice none 0 0) := cell_of h6 rfl
  have c2 : w1.cell? ⟨w.heap.size, 2, none⟩ = some (.slice none 0 0) := cell_of h6 rfl
  have f0 := fun o => frozen_of (o := o) h6
  have HH := Lib.hid (And.intro h6 (HR.out.2.2.2.trans (hb1.mono (by simp)))); clear h6 hb1
  go_wp2_with fail
  have hs3 := set3 (y0 := .int .i64 0) (y1 := .slice none 0 0) (y2 := .slice none 0 0) HH.out.1
  refine bodyPost_ret (v := .tuple #[.agg #[.int .i64 0, .slice none 0 0, .slice none 0 0], .int .i64 70]) ?_ rfl ⟨.slice none 0 0, .slice none 0 0, rfl, Kd.R_nil _ _ _ _ _, Kd.R_nil _ _ _ _ _, ((HH.out.2.setCell (by simp) _).setCell (by simp) _).setCell (by simp) _⟩
  have e0 := cell_of (o := 0) hs3 rfl
  have e1 := cell_of (o := 1) hs3 rfl
  have e2 := cell_of (o := 2) hs3 rfl
  simp [results, Tryd.results35, go_sem, e0, e1, e2]
set_option maxHeartbeats 4000000 in
theorem support_yes (A : Option Addr) (c : Nat) (l : List Src) (B : Option Addr) (d : Nat) (xs : List Int) (wo : Nat) (w : World) (hr : Kd.C kS w A l.length l) (hl : ∀ s ∈ l, s.frm.length ≤ 1000) (hx : (Kd.int .i64).C w B xs.length xs) (hT : Tab w) (hwo : wo < 4096) (hg : givenB l xs = true) :
  Calls Tryd.prog 35 #[.slice A l.length c, .slice B xs.length d, .int .u16 (wo : Int)] w (SupPost l xs wo w) := by
 have hlen := given_len (wo := wo) hg
 have e1 : cntS l xs wo = Flow.mc (webOf l xs wo) := by unfold cntS; rw [if_pos hg]
 have e2 : waysS l xs wo = Flow.leastF (webOf l xs wo) (Flow.mc (webOf l xs wo)) (bitsOf 0) := by unfold waysS; rw [if_pos hg]
 have e3 : cutS l xs wo = Flow.firstL (webOf l xs wo) := by unfold cutS; rw [if_pos hg]
 have e4 : errS l xs = 0 := by unfold errS; rw [if_pos hg]
 have hg' := hg
 unfold givenB at hg'
 rw [Bool.and_eq_true] at hg'
 obtain ⟨hv1, ha1⟩ := hg'
 unfold SupPost
 rw [e4]
 rw [← e1] at e2
 clear e4 hg
 have hb6 := (Below.refl w.heap.size w).alloc (Nat.le_refl _) (.cells #[.int .i64 0, .slice none 0 0, .slice none 0 0] 30)
 have hv := valid_any A c l _ (Kd.C_below hr hb6) hl
 rw [hv1] at hv
 have hm12 : cntS l xs wo ≤ 12 := by rw [e1]; exact mc_twelve _ (valid_nx hv1) _ _ _
 have HR := Lib.hid (And.intro (Kd.C_below hr hb6) (And.intro hl (And.intro (Kd.C_below hx hb6) (And.intro hb6 hT)))); clear hr hl hx hT
 have h6 : (w.alloc (.cells #[.int .i64 0, .slice none 0 0, .slice none 0 0] 30)).heap[w.heap.size]? = some (.cells #[.int .i64 0, .slice none 0 0, .slice none 0 0] 30) := heap_new rfl
 have H6 := Lib.hid h6; clear h6 hb6
 have HV := Lib.hid hv; clear hv
 have HP := Lib.hid (And.intro hv1 (And.intro ha1 hwo)); clear hv1 ha1 hwo
 have HE := Lib.hid (And.intro e1 (And.intro e2 (And.intro e3 (And.intro hlen hm12)))); clear e1 e2 e3 hlen hm12
 go_enter Tryd.func35, Tryd.ntmps35
 go_wp2_with fail
 refine HV.out.mono ?_
 rintro e w0 ⟨rfl, hb0⟩
 have has := asrt_any A c l B d xs w0 (Kd.C_below HR.out.1 hb0) HR.out.2.1 (Kd.C_below HR.out.2.2.1 hb0)
 rw [HP.out.2.1] at has
 have HA := Lib.hid has
 have HB0 := Lib.hid hb0; clear has hb0 HV
 go_wp2_with fail
 refine HA.out.mono ?_
 rintro e w1 ⟨rfl, hb1'⟩
 have hb1 := HB0.out.trans (hb1'.mono HB0.out.size)
 have hsp := spin_any A c l B d xs w1 (Kd.C_below HR.out.1 hb1) (valid_spin HP.out.1) (valid_len HP.out.1) (Kd.C_below HR.out.2.2.1 hb1) (fun x hx => valid_rng HP.out.1 HP.out.2.1 hx)
 have HSP := Lib.hid hsp
 have HB1 := Lib.hid hb1; clear hsp hb1 hb1' HA HB0
 go_wp2_with fail
 refine HSP.out.mono ?_
 rintro e w2 ⟨nv, rfl, hX, hb2⟩
 have hb := HB1.out.trans (hb2.mono HB1.out.size)
 obtain ⟨WB, hWB⟩ : ∃ b, w1.heap.size = b := ⟨_, rfl⟩
 rw [hWB] at hX ⊢
 have hWw : w.heap.size < WB := by have := HB1.out.size; simp at this; omega
 have cW : w2.cell? ⟨WB, 14, none⟩ = some (.int .u16 0) := cell_of hX.blk rfl
 have fW := frozen_of (o := 14) hX.blk
 have hXP := hX.put (o := 14) (og' := ogL l) (sd' := sdL xs) (wo' := wo) (x := .int .u16 (wo : Int)) rfl
 have hbP := hb.setCell (p := ⟨WB, 14, none⟩) (by show _ ≤ WB; simp; omega) (.int .u16 (wo : Int))
 have HX := Lib.hid (And.intro hXP (And.intro hbP hWw)); clear hXP hbP hX hb hb2 HSP HB1
 go_wp2_with fail
 obtain ⟨w3, hw3⟩ : ∃ w3, w2.setCell ⟨WB, 14, none⟩ (.int .u16 (wo : Int)) = w3 := ⟨_, rfl⟩
 rw [hw3] at HX ⊢
 clear cW fW hw3
 have hT3 : Tab w3 := HR.out.2.2.2.2.next (HR.out.2.2.2.1.trans (HX.out.2.1.mono (by simp))) HR.out.2.2.2.2.pos
 have hle := least_any WB (nxL l) (ogL l) (sdL xs) wo w3 HX.out.1.web (valid_nx HP.out.1) hT3 (valid_og HP.out.1) (valid_sd HP.out.1 HP.out.2.1) HP.out.2.2
 have HLE := Lib.hid hle; clear hle hT3
 refine HLE.out.mono ?_
 rintro e w4 ⟨v, rfl, hRw, hb4⟩
 have hways : (Flow.leastF (netOf (nxL l) (sdL xs) (ogL l) wo) (Flow.mc (netOf (nxL l) (sdL xs) (ogL l) wo)) (bitsOf 0)).map (fun p => p.map Int.ofNat) = toI (waysS l xs wo) := by
  unfold toI
  rw [HE.out.2.1, HE.out.1]
  rfl
 rw [hways] at hRw
 obtain ⟨WA, wc, rfl⟩ := Kd.R_slice hRw
 have hwl : (toI (waysS l xs wo)).length = cntS l xs wo := by unfold toI; rw [List.length_map]; exact HE.out.2.2.2.1.1
 rw [hwl] at hRw ⊢
 have hN12 := HE.out.2.2.2.2
 have hcl := HE.out.2.2.2.1.2
 obtain ⟨b9, hb9⟩ : ∃ b, w4.heap.size = b := ⟨_, rfl⟩
 have hX4 := HX.out.1.fr hb4
 have hbw4 := HX.out.2.1.trans (hb4.mono (by have := HX.out.2.1.size; omega))
 have hz4 := hbw4.size
 simp only [World.size_alloc] at hz4
 obtain ⟨N, hN⟩ : ∃ N, cntS l xs wo = N := ⟨_, rfl⟩
 rw [hN] at hN12 hcl hRw ⊢
 have hb5 := (Below.refl w4.heap.size w4).alloc (Nat.le_refl _) (.cells #[.int .i64 (N : Int), .slice WA N wc, .slice none 0 0] 30)
 have h9 : (w4.alloc (.cells #[.int .i64 (N : Int), .slice WA N wc, .slice none 0 0] 30)).heap[b9]? = some (.cells #[.int .i64 (N : Int), .slice WA N wc, .slice none 0 0] 30) := heap_new hb9
 have h69 : w.heap.size ≠ b9 := by omega
 have h9w : w.heap.size ≤ b9 := by omega
 have hR5 := Kd.R_mono (Kd.R_lower (Kd.R_below hRw hb5) (show w.heap.size ≤ w3.heap.size by have := HX.out.2.1.size; simp at this; omega)) (ok' := fun k => w.heap.size ≤ k) (fun k hk => by have := HX.out.2.1.size; simp at this; omega)
 have hX5 := hX4.fr hb5
 have h65 := (hb5.block _ (by omega)).trans ((hbw4.block _ (by simp)).trans H6.out)
 have hbw5 := HR.out.2.2.2.1.trans ((hbw4.trans (hb5.mono (by simp; omega))).mono (by simp))
 have HNN := Lib.hid hN
 have H7 := Lib.hid (And.intro h9 (And.intro h65 (And.intro hbw5 (And.intro hR5 (And.intro hX5 h9w))))); clear h9 h65 hbw5 hR5 hX5 hX4 hRw hbw4 hb5 hb4 HLE h9w
 have HN12 := Lib.hid hN12; clear hN12 hz4
 have HCL := Lib.hid hcl; clear hcl hwl hways hN
 have H69 := Lib.hid h69; clear h69
 by_cases h0 : N = 0
 ·have hc0 : cutS l xs wo = [] := List.eq_nil_of_length_eq_zero (by rw [HCL.out]; exact h0)
  have hN0 : ¬ 0 < N := by omega
  have HF := Lib.hid (show _ ∧ _ ∧ _ ∧ _ ∧ (Kd.int .i64).R 3 (w4.alloc (.cells #[.int .i64 (N : Int), .slice WA N wc, .slice none 0 0] 30)) w.heap.size (fun k => w.heap.size ≤ k) (.slice none 0 0) ((cutS l xs wo).map Int.ofNat) from ⟨H7.out.1, H7.out.2.1, H7.out.2.2.1, H7.out.2.2.2.1, by rw [hc0]; exact Kd.R_nil _ _ _ _ _⟩)
  clear hc0 h0
  have k0 : (w4.alloc (.cells #[.int .i64 (N : Int), .slice WA N wc, .slice none 0 0] 30)).cell? ⟨b9, 0, none⟩ = some (.int .i64 (N : Int)) := cell_of HF.out.1 rfl
  have k1 : (w4.alloc (.cells #[.int .i64 (N : Int), .slice WA N wc, .slice none 0 0] 30)).cell? ⟨b9, 1, none⟩ = some (.slice WA N wc) := cell_of HF.out.1 rfl
  have k2 : (w4.alloc (.cells #[.int .i64 (N : Int), .slice WA N wc, .slice none 0 0] 30)).cell? ⟨b9, 2, none⟩ = some (.slice none 0 0) := cell_of HF.out.1 rfl
  have q0 : (w4.alloc (.cells #[.int .i64 (N : Int), .slice WA N wc, .slice none 0 0] 30)).cell? ⟨w.heap.size, 0, none⟩ = some (.int .i64 0) := cell_of HF.out.2.1 rfl
  have q1 : (w4.alloc (.cells #[.int .i64 (N : Int), .slice WA N wc, .slice none 0 0] 30)).cell? ⟨w.heap.size, 1, none⟩ = some (.slice none 0 0) := cell_of HF.out.2.1 rfl
  have q2 : (w4.alloc (.cells #[.int .i64 (N : Int), .slice WA N wc, .slice none 0 0] 30)).cell? ⟨w.heap.size, 2, none⟩ = some (.slice none 0 0) := cell_of HF.out.2.1 rfl
  have r0 := fun o => frozen_of (o := o) HF.out.2.1
  go_wp2_with fail
  have hs3 := set3 (y0 := .int .i64 (N : Int)) (y1 := .slice WA N wc) (y2 := .slice none 0 0) HF.out.2.1
  have a1 := heap_set (o := 0) (.int .i64 (N : Int)) HF.out.2.1
  have a2 := heap_set (o := 1) (.slice WA N wc) a1
  refine bodyPost_ret (v := .tuple #[.agg #[.int .i64 (N : Int), .slice WA N wc, .slice none 0 0], .int .i64 0]) ?_ rfl ⟨.slice WA N wc, .slice none 0 0, by rw [HNN.out], ?_, ?_, ((HF.out.2.2.1.setCell (by simp) _).setCell (by simp) _).setCell (by simp) _⟩
  ·have e0 := cell_of (o := 0) hs3 rfl
   have e1 := cell_of (o := 1) hs3 rfl
   have e2 := cell_of (o := 2) hs3 rfl
   simp [results, Tryd.results35, go_sem, e0, e1, e2]
  ·exact Kd.R_set (Kd.R_set (Kd.R_set HF.out.2.2.2.1 HF.out.2.1 (fun q hq => kW_only hq) 0 _) a1 (fun q hq => kW_only hq) 1 _) a2 (fun q hq => kW_only hq) 2 _
  ·exact Kd.R_set (Kd.R_set (Kd.R_set HF.out.2.2.2.2 HF.out.2.1 (fun q hq => kI_30 hq) 0 _) a1 (fun q hq => kI_30 hq) 1 _) a2 (fun q hq => kI_30 hq) 2 _
 ·have hpos : 0 < N := by omega
  clear h0
  go_wp2_with fail
  have hfi := first_any WB (nxL l) (ogL l) (sdL xs) wo _ H7.out.2.2.2.2.1.web (valid_nx HP.out.1) (valid_og HP.out.1) (valid_sd HP.out.1 HP.out.2.1) HP.out.2.2
  have HFI := Lib.hid hfi; clear hfi
  refine HFI.out.mono ?_
  rintro e w6 ⟨v, rfl, hRc, hb6⟩
  rw [show Flow.firstL (netOf (nxL l) (sdL xs) (ogL l) wo) = cutS l xs wo from HE.out.2.2.1.symm] at hRc
  obtain ⟨VA, vc, rfl⟩ := Kd.R_slice hRc
  have hcn : ((cutS l xs wo).map Int.ofNat).length = N := by rw [List.length_map]; exact HCL.out
  rw [hcn] at hRc ⊢
  have h9 := (hb6.block _ (Array.getElem?_eq_some_iff.1 H7.out.1).1).trans H7.out.1
  have h6 := (hb6.block _ (Array.getElem?_eq_some_iff.1 H7.out.2.1).1).trans H7.out.2.1
  have c2 : w6.cell? ⟨b9, 2, none⟩ = some (.slice none 0 0) := cell_of h9 rfl
  have f2 := frozen_of (o := 2) h9
  have hz5 := H7.out.2.2.1.size
  have HF := Lib.hid (show _ ∧ _ ∧ _ ∧ _ ∧ (Kd.int .i64).R 3 (w6.setCell ⟨b9, 2, none⟩ (.slice VA N vc)) w.heap.size (fun k => w.heap.size ≤ k) (.slice VA N vc) ((cutS l xs wo).map Int.ofNat) from
   ⟨heap_set (o := 2) (.slice VA N vc) h9, heap_set_ne (p := ⟨b9, 2, none⟩) (.slice VA N vc) H69.out h6, (H7.out.2.2.1.trans (hb6.mono hz5)).setCell (p := ⟨b9, 2, none⟩) H7.out.2.2.2.2.2 (.slice VA N vc), Kd.R_set (Kd.R_below H7.out.2.2.2.1 hb6) h9 (fun q hq => kW_only hq) 2 (.slice VA N vc), Kd.R_mono (Kd.R_lower (Kd.R_set hRc h9 (fun q hq => kI_30 hq) 2 _) hz5) (fun k hk => by omega)⟩)
  clear hRc h9 h6 hb6 HFI H7
  have k0 : (w6.setCell ⟨b9, 2, none⟩ (.slice VA N vc)).cell? ⟨b9, 0, none⟩ = some (.int .i64 (N : Int)) := cell_of HF.out.1 rfl
  have k1 : (w6.setCell ⟨b9, 2, none⟩ (.slice VA N vc)).cell? ⟨b9, 1, none⟩ = some (.slice WA N wc) := cell_of HF.out.1 rfl
  have k2 : (w6.setCell ⟨b9, 2, none⟩ (.slice VA N vc)).cell? ⟨b9, 2, none⟩ = some (.slice VA N vc) := cell_of HF.out.1 rfl
  have q0 : (w6.setCell ⟨b9, 2, none⟩ (.slice VA N vc)).cell? ⟨w.heap.size, 0, none⟩ = some (.int .i64 0) := cell_of HF.out.2.1 rfl
  have q1 : (w6.setCell ⟨b9, 2, none⟩ (.slice VA N vc)).cell? ⟨w.heap.size, 1, none⟩ = some (.slice none 0 0) := cell_of HF.out.2.1 rfl
  have q2 : (w6.setCell ⟨b9, 2, none⟩ (.slice VA N vc)).cell? ⟨w.heap.size, 2, none⟩ = some (.slice none 0 0) := cell_of HF.out.2.1 rfl
  have r0 := fun o => frozen_of (o := o) HF.out.2.1
  go_wp2_with fail
  have hs3 := set3 (y0 := .int .i64 (N : Int)) (y1 := .slice WA N wc) (y2 := .slice VA N vc) HF.out.2.1
  have a1 := heap_set (o := 0) (.int .i64 (N : Int)) HF.out.2.1
  have a2 := heap_set (o := 1) (.slice WA N wc) a1
  refine bodyPost_ret (v := .tuple #[.agg #[.int .i64 (N : Int), .slice WA N wc, .slice VA N vc], .int .i64 0]) ?_ rfl ⟨.slice WA N wc, .slice VA N vc, by rw [HNN.out], ?_, ?_, ((HF.out.2.2.1.setCell (by simp) _).setCell (by simp) _).setCell (by simp) _⟩
  ·have e0 := cell_of (o := 0) hs3 rfl
   have e1 := cell_of (o := 1) hs3 rfl
   have e2 := cell_of (o := 2) hs3 rfl
   simp [results, Tryd.results35, go_sem, e0, e1, e2]
  ·exact Kd.R_set (Kd.R_set (Kd.R_set HF.out.2.2.2.1 HF.out.2.1 (fun q hq => kW_only hq) 0 _) a1 (fun q hq => kW_only hq) 1 _) a2 (fun q hq => kW_only hq) 2 _
  ·exact Kd.R_set (Kd.R_set (Kd.R_set HF.out.2.2.2.2 HF.out.2.1 (fun q hq => kI_30 hq) 0 _) a1 (fun q hq => kI_30 hq) 1 _) a2 (fun q hq => kI_30 hq) 2 _
theorem support_any (A : Option Addr) (c : Nat) (l : List Src) (B : Option Addr) (d : Nat) (xs : List Int) (wo : Nat) (w : World) (hr : Kd.C kS w A l.length l) (hl : ∀ s ∈ l, s.frm.length ≤ 1000) (hx : (Kd.int .i64).C w B xs.length xs) (hT : Tab w) (hwo : wo < 4096) :
  Calls Tryd.prog 35 #[.slice A l.length c, .slice B xs.length d, .int .u16 (wo : Int)] w (SupPost l xs wo w) := by
 cases h : givenB l xs with
 |false => exact support_no A c l B d xs wo w hr hl hx h
 |true => exact support_yes A c l B d xs wo w hr hl hx hT hwo h
theorem sup_fill {W : World} {b lo : Nat} {l : List Src} {xs : List Int} {wo : Nat} {x0 x1 x2 wv cv n : Value} (h : W.heap[b]? = some (.cells #[x0, x1, x2] 30)) (hw : kW.R 26 W lo (fun k => lo ≤ k) wv (toI (waysS l xs wo))) (hc : (Kd.int .i64).R 3 W lo (fun k => lo ≤ k) cv ((cutS l xs wo).map Int.ofNat)) :
  kW.R 26 (((W.setCell ⟨b, 0, none⟩ n).setCell ⟨b, 1, none⟩ wv).setCell ⟨b, 2, none⟩ cv) lo (fun k => lo ≤ k) wv (toI (waysS l xs wo)) ∧ (Kd.int .i64).R 3 (((W.setCell ⟨b, 0, none⟩ n).setCell ⟨b, 1, none⟩ wv).setCell ⟨b, 2, none⟩ cv) lo (fun k => lo ≤ k) cv ((cutS l xs wo).map Int.ofNat) := by
 have a1 := heap_set (o := 0) n h
 have a2 := heap_set (o := 1) wv a1
 exact ⟨Kd.R_set (Kd.R_set (Kd.R_set hw h (fun q hq => kW_only hq) 0 _) a1 (fun q hq => kW_only hq) 1 _) a2 (fun q hq => kW_only hq) 2 _, Kd.R_set (Kd.R_set (Kd.R_set hc h (fun q hq => kI_30 hq) 0 _) a1 (fun q hq => kI_30 hq) 1 _) a2 (fun q hq => kI_30 hq) 2 _⟩
set_option maxHeartbeats 2000000 in
theorem Support_any (A : Option Addr) (c : Nat) (l : List Src) (B : Option Addr) (d : Nat) (xs : List Int) (w : World) (hr : Kd.C kS w A l.length l) (hl : ∀ s ∈ l, s.frm.length ≤ 1000) (hx : (Kd.int .i64).C w B xs.length xs) (hT : Tab w) :
  Calls Tryd.prog 13 #[.slice A l.length c, .slice B xs.length d] w (SupPost l xs 0 w) := by
 have hb6 := (Below.refl w.heap.size w).alloc (Nat.le_refl _) (.cells #[.int .i64 0, .slice none 0 0, .slice none 0 0] 30)
 have hC := support_any A c l B d xs 0 _ (Kd.C_below hr hb6) hl (Kd.C_below hx hb6) (hT.next hb6 hT.pos) (by decide)
 have h6 : (w.alloc (.cells #[.int .i64 0, .slice none 0 0, .slice none 0 0] 30)).heap[w.heap.size]? = some (.cells #[.int .i64 0, .slice none 0 0, .slice none 0 0] 30) := heap_new rfl
 have HC := Lib.hid hC
 have H6 := Lib.hid (And.intro h6 hb6); clear h6 hb6 hC hr hl hx hT
 unfold SupPost
 go_enter Tryd.func13, Tryd.ntmps13
 go_wp2_with fail
 refine HC.out.mono ?_
 rintro e w1 ⟨wv, cv, rfl, hRw, hRc, hb1⟩
 obtain ⟨WA, wc, rfl⟩ := Kd.R_slice hRw
 obtain ⟨VA, vc, rfl⟩ := Kd.R_slice hRc
 have h6 := (hb1.block _ (by simp)).trans H6.out.1
 have c0 : w1.cell? ⟨w.heap.size, 0, none⟩ = some (.int .i64 0) := cell_of h6 rfl
 have c1 : w1.cell? ⟨w.heap.size, 1, none⟩ = some (.slice none 0 0) := cell_of h6 rfl
 have c2 : w1.cell? ⟨w.heap.size, 2, none⟩ = some (.slice none 0 0) := cell_of h6 rfl
 have f0 := fun o => frozen_of (o := o) h6
 have hRw' := Kd.R_mono (Kd.R_lower hRw (show w.heap.size ≤ _ by simp)) (ok' := fun k => w.heap.size ≤ k) (fun k hk => by simp at hk; omega)
 have hRc' := Kd.R_mono (Kd.R_lower hRc (show w.heap.size ≤ _ by simp)) (ok' := fun k => w.heap.size ≤ k) (fun k hk => by simp at hk; omega)
 have HF := Lib.hid (And.intro h6 (And.intro (H6.out.2.trans (hb1.mono (by simp))) (And.intro hRw' hRc'))); clear h6 hb1 hRw hRc hRw' hRc' HC
 generalize (toI (waysS l xs 0)).length = n1 at *
 generalize ((cutS l xs 0).map Int.ofNat).length = n2 at *
 go_wp2_with fail
 have hs3 := set3 (y0 := .int .i64 (cntS l xs 0 : Nat)) (y1 := .slice WA n1 wc) (y2 := .slice VA n2 vc) HF.out.1
 have hf := sup_fill (n := .int .i64 (cntS l xs 0 : Nat)) HF.out.1 HF.out.2.2.1 HF.out.2.2.2
 refine bodyPost_ret (v := .tuple #[.agg #[.int .i64 (cntS l xs 0 : Nat), .slice WA n1 wc, .slice VA n2 vc], .int .i64 (errS l xs)]) ?_ rfl ⟨_, _, rfl, hf.1, hf.2, ((HF.out.2.1.setCell (by simp) _).setCell (by simp) _).setCell (by simp) _⟩
 have e0 := cell_of (o := 0) hs3 rfl
 have e1 := cell_of (o := 1) hs3 rfl
 have e2 := cell_of (o := 2) hs3 rfl
 simp [results, Tryd.results13, go_sem, e0, e1, e2]
end Go.Proofs.YticngcjfofcoiaaDoor
