/- The contract of reached: all sources to which there are ways. -/
import Derived.Test.YticngcjfofcoiaaDoorEa
import Derived.Test.YticngcjfofcoiaaDoorRy
namespace Go.Proofs.YticngcjfofcoiaaDoor
open Go.RowKit Go.Rg Go.Proofs.YticngcjfofcoiaaDoorW.PrintWords
set_option linter.unusedVariables false
set_option linter.unusedSimpArgs false
attribute [local go_sem] Oper.semAt_some
structure RL (WB : Nat) (w : World) (bs : List Nat) (W : World) : Prop where
 below : Below w.heap.size w W
 box : W.heap[w.heap.size]? = some (.cells #[.pointer (some ⟨WB, 0, none⟩)] 64)
 marks : Marks w.heap.size bs W
theorem RL.size {WB : Nat} {w : World} {bs : List Nat} {W : World} (h : RL WB w bs W) : w.heap.size < W.heap.size := (Array.getElem?_eq_some_iff.1 h.box).1
theorem RL.fr {WB : Nat} {w : World} {bs : List Nat} {W W' : World} {S : Nat → Prop} (h : RL WB w bs W) (hf : Fr S W W') (hS : ∀ k, k ≤ w.heap.size ∨ k ∈ bs → ¬ S k) : RL WB w bs W' :=
 ⟨h.below.trans (hf.below (fun k hk => hS k (.inl (by omega))) h.below.size), (hf.block _ h.size (hS _ (.inl (Nat.le_refl _)))).trans h.box, h.marks.fr hf fun b hb => hS b (.inr hb)⟩
structure RX (WB : Nat) (w : World) (bs : List Nat) (n1 v : Nat) (W : World) : Prop where
 base : RL WB w bs W
 lt : ∀ b ∈ bs, b < n1
 wlt : w.heap.size < n1
 next : W.heap[n1]? = some (.cells #[.int .u16 (v : Int)] 60)
theorem RX.fr {WB : Nat} {w : World} {bs : List Nat} {n1 v : Nat} {W W' : World} {S : Nat → Prop} (h : RX WB w bs n1 v W) (hf : Fr S W W') (hS : ∀ k, k ≤ n1 → ¬ S k) : RX WB w bs n1 v W' :=
 ⟨h.base.fr hf (fun k hk => hS k (by rcases hk with hk | hk; have := h.wlt; omega; have := h.lt k hk; omega)), h.lt, h.wlt, (hf.block _ (Array.getElem?_eq_some_iff.1 h.next).1 (hS _ (Nat.le_refl _))).trans h.next⟩
set_option maxRecDepth 100000 in
theorem reached_any (WB : Nat) (nx : Nat → List Nat) (og sd wo u : Nat) (w : World) (hW : WebX WB nx og sd wo w) (hnx : NxOk nx) (hT : Tab w) (hog : og < 4096) (hwo : wo < 4096) (hu : u < 4096) :
  Calls Tryd.prog 41 #[.pointer (some ⟨WB, 0, none⟩), .int .u16 (u : Int)] w fun e w' => ∃ R : Nat, R < 4096 ∧ (∀ i, R.testBit i = true ↔ Flow.Reach (netOf nx sd og (u ||| wo)) (fun _ => false) i ∧ (u ||| wo).testBit i = false) ∧ e = .returned (.int .u16 (R : Int)) ∧ Below w.heap.size w w' := by
 have hX : u ||| wo < 4096 := Nat.or_lt_two_pow (n := 12) hu hwo
 have hW1 := hW.below ((Below.refl w.heap.size w).alloc (Nat.le_refl _) (.cells #[.pointer (some ⟨WB, 0, none⟩)] 64))
 have hO := hW1.org
 have hWo := hW1.wo
 clear hW1
 have HOR := Lib.hid (or_u16 u wo (by omega) (by omega))
 have HAN := Lib.hid (andNot16 (a := og) (b := u ||| wo) (by omega) (by omega))
 obtain ⟨X, hXe⟩ : ∃ X, u ||| wo = X := ⟨_, rfl⟩
 have hOR := HOR.out
 have hAN := HAN.out
 rw [hXe] at hOR hAN hX ⊢
 clear HOR HAN
 have HI0 := Lib.hid (RI.start (nx := nx) (sd := sd) hog hX)
 obtain ⟨T0, hT0⟩ : ∃ T, dif og X = T := ⟨_, rfl⟩
 rw [hT0] at hAN HI0
 have HB := Lib.hid (And.intro hog (And.intro hwo hu)); clear hog hwo hu
 have HX := Lib.hid hX; clear hX
 have HW := Lib.hid hW; clear hW
 have HN := Lib.hid hnx; clear hnx
 have HT := Lib.hid hT; clear hT
 refine calls_of_wp_marks Tryd.func41 rfl ?_
 simp only [Tryd.ntmps41, List.size_toArray, List.length_cons, List.length_nil, Nat.reduceAdd, Nat.reduceSub, Array.replicate_succ, Array.replicate_zero, List.push_toArray, List.append_toArray, List.nil_append, List.cons_append]
 go_wp2_with fail
 refine wp_loop (fun a W => ∃ (out todo : Nat) (bs : List Nat) (u3 u4 u7 u8 u9 u10 u11 u12 u13 u14 u15 u16 u17 u18 u19 u20 u21 u22 u23 u24 u25 u26 u27 u28 u29 u30 u31 u32 u33 u34 u35 u36 u37 u38 u39 u40 u41 u42 u43 u44 u45 u46 u47 u48 u49 u50 u51 u52 u53 : Value), (RI nx sd og X out todo ∧ RL WB w bs W) ∧ a = { tmps := #[.pointer (some ⟨WB, 0, none⟩), .int .u16 (X : Int), .pointer (some ⟨w.heap.size, 0, none⟩), u3, u4, .int .u16 (out : Int), .int .u16 (todo : Int), u7, u8, u9, u10, u11, u12, u13, u14, u15, u16, u17, u18, u19, u20, u21, u22, u23, u24, u25, u26, u27, u28, u29, u30, u31, u32, u33, u34, u35, u36, u37, u38, u39, u40, u41, u42, u43, u44, u45, u46, u47, u48, u49, u50, u51, u52, u53], defers := marks bs }) (fun a W => rmeas (intOf (a.tmps.getD 5 undef)).toNat (intOf (a.tmps.getD 6 undef)).toNat) ?_ ?_
 ·refine ⟨T0, T0, [], _, _, _, _, _, _, _, _, _, _, _, _, _, _, _, _, _, _, _, _, _, _, _, _, _, _, _, _, _, _, _, _, _, _, _, _, _, _, _, _, _, _, _, _, _, _, _, _, _, ⟨HI0.out, ?_⟩, rfl⟩
  exact ⟨(Below.refl w.heap.size w).alloc (Nat.le_refl _) _, heap_new rfl, Marks.nil _ _⟩
 ·rintro a W ⟨out, todo, bs, u3, u4, u7, u8, u9, u10, u11, u12, u13, u14, u15, u16, u17, u18, u19, u20, u21, u22, u23, u24, u25, u26, u27, u28, u29, u30, u31, u32, u33, u34, u35, u36, u37, u38, u39, u40, u41, u42, u43, u44, u45, u46, u47, u48, u49, u50, u51, u52, u53, ⟨hRI, hRL⟩, rfl⟩
  by_cases h0 : todo = 0
  ·subst h0
   have HR := Lib.hid (And.intro hRI hRL); clear hRI hRL
   go_wp2_with fail
   refine leave_marks HR.out.2.marks (v := .int .u16 (out : Int)) (fun W' hf hbl hs => ⟨by simp [results, Tryd.results41, go_sem], ?_⟩)
   exact ⟨out, HR.out.1.outs, HR.out.1.done HN.out, rfl, HR.out.2.below.trans hbl⟩
  ·have hz : ((todo : Int) != 0) = true := by simp; omega
   have H0 := Lib.hid h0; clear h0
   have HR := Lib.hid (And.intro hRI hRL); clear hRI hRL
   go_wp2_with fail
   refine (each_any todo _).mono ?_
   rintro e w' ⟨rfl, rfl⟩
   go_wp2_with fail
   have hsz := HR.out.2.size
   have hT1 : Tab ((W.alloc (.cells #[.int .u16 0] 60)).alloc (.cells #[.int .u16 (todo : Int)] 60)) := (HT.out.next (HR.out.2.below.trans ((((Below.refl W.heap.size W).alloc (Nat.le_refl _) _).alloc (by simp) _).mono (by omega))) HT.out.pos)
   have hRX0 : RX WB w bs W.heap.size 0 ((W.alloc (.cells #[.int .u16 0] 60)).alloc (.cells #[.int .u16 (todo : Int)] 60)) :=
    ⟨HR.out.2.fr (((Fr.refl (fun _ => False) _).alloc _).alloc _) (fun _ _ h => h), fun b hb => HR.out.2.marks.lt hb, hsz, heap_old (heap_new rfl)⟩
   have hS1 : ((W.alloc (.cells #[.int .u16 0] 60)).alloc (.cells #[.int .u16 (todo : Int)] 60)).heap[W.heap.size + 1]? = some (.cells #[.int .u16 (todo : Int)] 60) := heap_new (by simp)
   have HS := Lib.hid (And.intro hT1 (And.intro hRX0 hS1)); clear hT1 hRX0 hS1
   refine wp_range (α := Nat) (W.heap.size + 2) (by simp) (gf := 57) (lb := #[.pointer (some ⟨W.heap.size + 1, 0, none⟩)]) rfl (fun _ _ => rfl) (each_iter todo (W.heap.size + 1) HR.out.1.todos (by omega)) (fun _ => rfl) (fun k => k = W.heap.size)
    (fun W' hf => ⟨HS.out.1.fr hf (fun h => h), (hf.block _ (Array.getElem?_eq_some_iff.1 HS.out.2.2).1 (fun h => h)).trans HS.out.2.2⟩) ?hlt ?hown
    (fun i s A => i ≤ (elems todo).length ∧ RX WB w bs W.heap.size (nbr nx ((elems todo).take i)) A) (fun _ _ _ => False)
    ?hI (fun _ _ _ _ h _ _ => h) (fun i s A h => Nat.le_trans h.1 (elems_len _)) ?h0
    (fun i s z x a' A => x < 12 ∧ RX WB w bs W.heap.size (nbr nx ((elems todo).take i)) A ∧ a' = { tmps := #[.pointer (some ⟨WB, 0, none⟩), .int .u16 (X : Int), .pointer (some ⟨w.heap.size, 0, none⟩), u3, u4, .int .u16 (out : Int), .int .u16 (todo : Int), .pointer (some ⟨W.heap.size, 0, none⟩), .int .i64 (x : Int), u9, u10, u11, u12, u13, u14, u15, u16, u17, u18, u19, u20, u21, u22, u23, .int .u16 (todo : Int), .bool true, .int .u16 (todo : Int), .func (.func 57) #[] #[.pointer (some ⟨W.heap.size + 1, 0, none⟩)], .int .i64 (x : Int), u29, u30, u31, u32, u33, u34, u35, u36, u37, u38, u39, u40, u41, u42, u43, u44, u45, u46, u47, u48, u49, u50, u51, u52, u53], defers := [] })
    ?hA ?hassign ?hbody ?hdone (fun _ _ _ _ _ h _ _ => h.elim)
   case hlt => rintro k (rfl | rfl | rfl) <;> omega
   case hown => rintro k rfl; exact ⟨by omega, by omega⟩
   case hI => rintro i s A B ⟨h1, h2⟩ hs hf; exact ⟨h1, h2.fr hf (fun k hk h => by omega)⟩
   case h0 => intro W' hf hz'; exact ⟨Nat.zero_le _, HS.out.2.1.fr hf (fun _ _ h => h)⟩
   case hA => rintro i s z x a' A B ⟨h1, h2, rfl⟩ hs hf hz'; exact ⟨h1, h2.fr hf (fun k hk h => by omega), rfl⟩
   case hassign =>
    rintro l i s x A hx ⟨h1, h2⟩ hs hsA
    have hx12 := (elems_mem (List.mem_of_getElem? hx)).1
    gi_wp2
    exact ⟨Fr.refl _ _, hx12, h2, trivial⟩
   case hbody =>
    rintro l i s z x a' A hx ⟨hx12, hRX, rfl⟩ hs hsz' hzA
    have cB : A.cell? ⟨w.heap.size, 0, none⟩ = some (.pointer (some ⟨WB, 0, none⟩)) := cell_of hRX.base.box rfl
    obtain ⟨NA, nc, cN0, hNC⟩ := HW.out.next x hx12
    have cN := pw_cell_below hRX.base.below cN0
    clear cN0
    have hxI : (x : Int) < 12 := by omega
    have hH := Lib.hid (And.intro hx (And.intro hRX hNC)); clear hx hRX hNC
    gi_wp2_with fail
    have HB2 := Lib.hid cB; clear cB cN
    have hnm : (nx x).length ≤ 9223372036854775807 := by have := hH.out.2.2.2.1; exact this
    have hNlt := nbr_lt HN.out ((elems todo).take i) (fun y hy => (elems_mem (List.mem_of_mem_take hy)).1)
    obtain ⟨NV, hNV⟩ : ∃ NV, nbr nx ((elems todo).take i) = NV := ⟨_, rfl⟩
    rw [hNV] at hNlt hH
    gi_loopw [36] (fun jv wr => ∃ j : Nat, j ≤ (nx x).length ∧ jv = .int .i64 j ∧ Hid (Fr (fun k => k = W.heap.size) A wr ∧ RX WB w bs W.heap.size (orL NV ((nx x).take j)) wr)) (fun jv wr => (nx x).length - (intOf jv).toNat)
    case atStart => exact ⟨0, Nat.zero_le _, rfl, Lib.hid ⟨Fr.refl _ _, hH.out.2.1⟩⟩
    case round =>
     obtain ⟨j, hj, rfl, HJ⟩ := hrel
     by_cases hjl : j < (nx x).length
     ·have hjI : (j : Int) < ((nx x).length : Int) := by omega
      have hCw := Kd.C_below hH.out.2.2 HJ.out.2.base.below
      obtain ⟨yd, e, hy⟩ := Kd.at_int (xs := (nx x).map Int.ofNat) (n := (nx x).length) hCw (j : Int) (by omega) hjI
      cases e
      simp only [Int.toNat_natCast] at hy
      rw [rd_nat hjl] at hy
      have hv12 := HN.out.lt x hx12 _ (List.getElem_mem hjl)
      have ho4 := orL_lt (u := NV) (l := (nx x).take j) hNlt (fun v hv => HN.out.lt x hx12 v (List.mem_of_mem_take hv))
      obtain ⟨v, hv⟩ : ∃ v, (nx x)[j] = v := ⟨_, rfl⟩
      rw [hv] at hy hv12
      have HSS := Lib.hid (orL_step hjl hv hv12 ho4)
      clear hv ho4 hCw
      obtain ⟨OV, hOV⟩ : ∃ OV, orL NV ((nx x).take j) = OV := ⟨_, rfl⟩
      rw [hOV] at HSS HJ
      have hTX := cell_ext (cell_of (o := 0) HJ.out.2.next rfl)
      gi_wp2_with fail
      refine region_tail_round [0, 1, 2, 3] [4] (by kernel_rfl) (by kernel_rfl) (by kernel_rfl) (fun ⟨_, _, h⟩ => h) ?_
      simp only [pick_cons, pick_nil, nthO_succ, nthO_zero]
      repeat (go_big_quiet_step (fail))
      refine wpQuiet_nil ?_
      rintro W' ⟨X', rfl⟩
      have hTX2 := block_ext HJ.out.2.next X'
      have gT := cell_of (o := 0) hTX2 rfl
      have fT := frozen_of (o := 0) hTX2
      rw [HSS.out]
      have HT3 := Lib.hid hTX2; clear hTX2 hTX
      go_wp2_with fail
      gi_wp2_with fail
      go_roundw
      case rel =>
       have hF2 : Fr (fun k => k = W.heap.size) X'.val (X'.val.setCell ⟨W.heap.size, 0, none⟩ (.int .u16 ((orL NV ((nx x).take (j + 1)) : Nat) : Int))) := (Fr.refl _ _).setCell _ _ (fun _ => rfl)
       have hR2 : RL WB w bs X'.val := HJ.out.2.base.fr X'.2 (fun _ _ h => h)
       refine ⟨j + 1, by omega, by go_num, Lib.hid ⟨(HJ.out.1.trans (X'.2.mono fun _ _ h => h.elim)).trans hF2, hR2.fr hF2 (fun k hk h => ?_), HJ.out.2.lt, HJ.out.2.wlt, heap_set (o := 0) _ HT3.out⟩⟩
       have hlt := HJ.out.2.lt
       have hwl := HJ.out.2.wlt
       rcases hk with hk | hk
       ·omega
       ·have := hlt k hk; omega
      case measure => exact meas_up1 hjl
     ·obtain rfl : j = (nx x).length := by omega
      gi_wp2_with fail
      obtain ⟨hx, hRX, hNC⟩ := hH.out
      obtain ⟨hi, hxe⟩ := List.getElem?_eq_some_iff.1 hx
      have hJ := HJ.out
      rw [List.take_length, ← hNV] at hJ
      refine ⟨hJ.1.mono (fun k _ h => .inl h), hi, ?_⟩
      rw [List.take_succ_eq_append_getElem hi, nbr_snoc, hxe]
      exact hJ.2
   case hdone =>
    rintro k s A hx ⟨h1, h2⟩ hs hD
    obtain rfl : k = (elems todo).length := by
     rw [List.getElem?_eq_none_iff] at hx
     omega
    rw [List.take_length] at h2
    have c7 := cell_of (o := 0) h2.next rfl
    have hNlt := nbr_lt HN.out (elems todo) (fun y hy => (elems_mem hy).1)
    have hou := HR.out.1.outs
    have hX4 := HX.out
    have hD1 := andNot16 (a := nbr nx (elems todo)) (b := out) (by omega) (by omega)
    have hD2 := andNot16 (a := dif (nbr nx (elems todo)) out) (b := X) (by have := dif_lt (b := out) hNlt; omega) (by omega)
    have hnx := HR.out.1.next HN.out hX4
    have hms := rmeas_lt HR.out.1 HN.out hX4 H0.out
    have hD3 := or_u16 out (newT nx X out todo) (by omega) (by have := hnx.todos; omega)
    have hTe : dif (dif (nbr nx (elems todo)) out) X = newT nx X out todo := rfl
    rw [hTe] at hD2
    obtain ⟨T', hT'⟩ : ∃ T', newT nx X out todo = T' := ⟨_, rfl⟩
    obtain ⟨O', hO'⟩ : ∃ O', out ||| T' = O' := ⟨_, rfl⟩
    obtain ⟨D', hD'⟩ : ∃ D', dif (nbr nx (elems todo)) out = D' := ⟨_, rfl⟩
    obtain ⟨N', hN'⟩ : ∃ N', nbr nx (elems todo) = N' := ⟨_, rfl⟩
    rw [hT'] at hD2 hD3 hnx hms
    rw [hO'] at hD3 hnx hms
    rw [hD'] at hD1 hD2
    rw [hN'] at hD1 c7 h2
    have HF := Lib.hid (And.intro hnx (And.intro hms (And.intro h2 hD))); clear hnx hms h2 hD
    clear hTe hT' hO' hD' hN' hNlt hou hX4 hx h1
    go_wp2_with fail
    obtain ⟨hnx, hms, h2, hD⟩ := HF.out
    refine ⟨⟨O', T', (W.heap.size + 2) :: bs, _, _, _, _, _, _, _, _, _, _, _, _, _, _, _, _, _, _, _, _, _, _, _, _, _, _, _, _, _, _, _, _, _, _, _, _, _, _, _, _, _, _, _, _, _, _, _, _, _, ⟨hnx, h2.base.below, h2.base.box, h2.base.marks.cons (fun b hb => by have := h2.lt b hb; omega) (by omega) hD⟩, rfl⟩, ?_⟩
    simpa [intOf] using hms
end Go.Proofs.YticngcjfofcoiaaDoor
