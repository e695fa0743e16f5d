/- The contract of spin. -/
import Derived.Test.YticngcjfofcoiaaDoorZb
namespace Go.Proofs.YticngcjfofcoiaaDoor
open Go.RowKit Go.Rg Go.Proofs.YticngcjfofcoiaaDoorW.PrintWords
set_option linter.unusedVariables false
set_option linter.unusedSimpArgs false
set_option maxRecDepth 100000
theorem SX.keep {WB : Nat} {nv : Nat → Value} {nx : Nat → List Nat} {og sd wo v : Nat} {W W2 : World} (h : SX WB nv nx og sd wo W) (hv : v < 12) (hg : W.grownBy W2 (nv v).ownBlock) : W2.heap[WB]? = some (.cells (wcells nv og sd wo) 68) ∧ ∀ k, k < W.heap.size → ∀ o, W.heap[k]? = some o → (∀ cs, o ≠ Obj.cells cs 3 (0, 0)) → W2.heap[k]? = some o := by
 have key : ∀ k, k < W.heap.size → ∀ o, W.heap[k]? = some o → (∀ cs, o ≠ Obj.cells cs 3 (0, 0)) → W2.heap[k]? = some o := fun k hk o ho hn => by
  rw [← ho]
  refine hg.block k hk (fun e => ?_)
  obtain ⟨cs, hc⟩ := Kd.R_typed (h.rows v hv) k e.symm
  rw [ho] at hc
  cases hc
  exact hn _ rfl
 exact ⟨key WB h.size _ h.blk (fun cs e => by cases e), key⟩
theorem SX.app {WB : Nat} {nv : Nat → Value} {nx : Nat → List Nat} {og sd wo v id : Nat} {W W2 : World} {v1 : Value} {ok : Nat → Prop} (h : SX WB nv nx og sd wo W) (hv : v < 12) (hg : W.grownBy W2 (nv v).ownBlock) (hr : (Kd.int .i64).R 3 W2 (WB + 1) ok v1 ((nx v ++ [id]).map Int.ofNat)) (hat : v1.ownBlock = (nv v).ownBlock ∨ ∃ b, v1.ownBlock = some b ∧ W.heap.size ≤ b) : SX WB (updV nv v v1) (upd nx v id) og sd wo (W2.setCell ⟨WB, v, none⟩ v1) := by
 have hk := (h.keep hv hg).1
 have hlt : ∀ j, j < 12 → ∀ k, (nv j).ownBlock = some k → k < W.heap.size := fun j hj k e => by
  obtain ⟨cs, hc⟩ := Kd.R_typed (h.rows j hj) k e
  exact (Array.getElem?_eq_some_iff.1 hc).1
 have hne : ∀ j, j < 12 → j ≠ v → NeRow v1 (nv j) := fun j hj hjv k e1 e2 => by
  rcases hat with e | ⟨b, e, hb⟩
  ·exact h.ne v j hv hj (fun e' => hjv e'.symm) k (e ▸ e1) e2
  ·rw [e] at e1
   cases e1
   have := hlt j hj _ e2
   omega
 refine ⟨by rw [← wcells_put v1 hv]; exact heap_set (o := v) v1 hk, fun i hi => ?_, fun i j hi hj hij => ?_⟩
 ·have h68 : ∀ q, q ∈ (3 : Nat) :: (Kd.int .i64).E → q ≠ 68 := fun q hq => by rw [kI_only hq]; decide
  by_cases e : i = v
  ·subst e
   have e1 : updV nv i v1 i = v1 := by simp [updV]
   have e2 : upd nx i id i = nx i ++ [id] := by simp [upd]
   rw [e1, e2]
   exact Kd.R_set (row_only hr) hk h68 _ _
  ·have e1 : updV nv v v1 i = nv i := by simp [updV, e]
   have e2 : upd nx v id i = nx i := by simp [upd, e]
   rw [e1, e2]
   refine Kd.R_set (Kd.R_step (h.rows i hi) (fun k hk' hl => hg.block k hl (fun e3 => ?_))) hk h68 _ _
   exact h.ne v i hv hi (fun e' => e e'.symm) k e3.symm hk'
 ·unfold updV
  by_cases e1 : i = v
  ·rw [if_pos e1, if_neg (fun e => hij (e1.trans e.symm))]
   exact hne j hj (fun e => hij (e1.trans e.symm))
  ·rw [if_neg e1]
   by_cases e2 : j = v
   ·rw [if_pos e2]
    exact ne_symm (hne i hi e1)
   ·rw [if_neg e2]
    exact h.ne i j hi hj hij
set_option maxHeartbeats 4000000 in
theorem spin_any (A : Option Addr) (c : Nat) (l : List Src) (B : Option Addr) (d : Nat) (xs : List Int) (w : World) (hr : Kd.C kS w A l.length l) (hv : ∀ s ∈ l, 0 ≤ s.id ∧ s.id < 12 ∧ s.frm.length ≤ 3 ∧ ∀ y ∈ s.frm, 0 ≤ y ∧ y < 12) (hl : l.length ≤ 12) (hx : (Kd.int .i64).C w B xs.length xs) (hxv : ∀ x ∈ xs, 0 ≤ x ∧ x < 12) :
  Calls Tryd.prog 39 #[.slice A l.length c, .slice B xs.length d] w fun e w' => ∃ nv, e = .returned (.pointer (some ⟨w.heap.size, 0, none⟩)) ∧ SX w.heap.size nv (nxL l) (ogL l) (sdL xs) 0 w' ∧ Below w.heap.size w w' := by
 have hm := max_len hx
 have hml := max_len hr
 have HR := Lib.hid (And.intro hr (And.intro hv (And.intro hl (And.intro hx hxv)))); clear hr hv hl hx hxv
 go_enter Tryd.func39, Tryd.ntmps39
 go_wp2_with fail
 have hX0 : SX w.heap.size (fun _ => .slice none 0 0) (nxL (l.take 0)) (ogL (l.take 0)) 0 0 (w.alloc (.cells #[.slice none 0 0, .slice none 0 0, .slice none 0 0, .slice none 0 0, .slice none 0 0, .slice none 0 0, .slice none 0 0, .slice none 0 0, .slice none 0 0, .slice none 0 0, .slice none 0 0, .slice none 0 0, .int .u16 0, .int .u16 0, .int .u16 0] 68)) := ⟨heap_new rfl, fun i hi => Kd.R_nil _ _ _ _ _, fun i j _ _ _ => ne_nil _⟩
 have HX0 := Lib.hid (And.intro hX0 ((Below.refl w.heap.size w).alloc (Nat.le_refl _) (.cells #[.slice none 0 0, .slice none 0 0, .slice none 0 0, .slice none 0 0, .slice none 0 0, .slice none 0 0, .slice none 0 0, .slice none 0 0, .slice none 0 0, .slice none 0 0, .slice none 0 0, .slice none 0 0, .int .u16 0, .int .u16 0, .int .u16 0] 68))); clear hX0
 go_loopw [16] (fun iv wr => ∃ k : Nat, k ≤ l.length ∧ iv = .int .i64 k ∧ ∃ nv : Nat → Value, Hid (SX w.heap.size nv (nxL (l.take k)) (ogL (l.take k)) 0 0 wr ∧ Below w.heap.size w wr)) (fun iv wr => l.length - (intOf iv).toNat)
 case atStart => exact ⟨0, Nat.zero_le _, rfl, _, HX0⟩
 case round =>
  obtain ⟨k, hk, rfl, nv, HI⟩ := hrel
  by_cases hlt : k < l.length
  ·have hltI : (k : Int) < (l.length : Int) := by omega
   obtain ⟨s, hs⟩ : ∃ s, l[k]? = some s := ⟨l[k], List.getElem?_eq_getElem hlt⟩
   obtain ⟨ad, FA, fc, e, y0, y1, y2, hfc, hCf0⟩ := at_S HR.out.1 hs
   cases e
   have x0 := pw_cell_below HI.out.2 y0
   have x1 := pw_cell_below HI.out.2 y1
   have x2 := pw_cell_below HI.out.2 y2
   have hCf := Kd.C_below hCf0 HI.out.2
   have HCF := Lib.hid hCf0
   clear y0 y1 y2 hCf0
   obtain ⟨v1, v2, v3, v4⟩ := HR.out.2.1 s (List.mem_of_getElem? hs)
   have htk := take_at hs
   obtain ⟨id, hid⟩ : ∃ id : Nat, s.id = id := ⟨s.id.toNat, by omega⟩
   have hidn : s.id.toNat = id := by omega
   have hn1 : nxL (l.take (k + 1)) = addF (nxL (l.take k)) id s.frm := by rw [htk, nxL_snoc, hidn]
   have ho1 : ogL (l.take (k + 1)) = if s.frm.length = 0 then ogL (l.take k) ||| 2 ^ id else ogL (l.take k) := by rw [htk, ogL_snoc, hidn]
   have hid12 : id < 12 := by omega
   rw [hid] at x0
   obtain ⟨kd, hkd⟩ : ∃ kd, s.kind = kd := ⟨_, rfl⟩
   rw [hkd] at x1
   have ho4 := ogL_lt (l.take k) (fun y hy => ⟨(HR.out.2.1 y (List.mem_of_mem_take hy)).1, (HR.out.2.1 y (List.mem_of_mem_take hy)).2.1⟩)
   have hb0 := (Below.refl wr.heap.size wr).alloc (Nat.le_refl _) (.cells #[.int .i64 (id : Int), .int .i64 kd, .slice FA s.frm.length fc] 35)
   have hh7 : (wr.alloc (.cells #[.int .i64 (id : Int), .int .i64 kd, .slice FA s.frm.length fc] 35)).heap[wr.heap.size]? = some (.cells #[.int .i64 (id : Int), .int .i64 kd, .slice FA s.frm.length fc] 35) := heap_new rfl
   have d0 := cell_of (o := 0) hh7 rfl
   have d2 : (wr.alloc (.cells #[.int .i64 (id : Int), .int .i64 kd, .slice FA s.frm.length fc] 35)).cell? ⟨wr.heap.size, 2, none⟩ = some (.slice FA s.frm.length fc) := cell_of hh7 rfl
   have hX1 := HI.out.1.fr hb0
   have hlen := fun i => nxL_len (l.take k) i (fun y hy => (HR.out.2.1 y (List.mem_of_mem_take hy)).2.2.1)
   have hb7 : w.heap.size < wr.heap.size := HI.out.1.size
   have HH := Lib.hid (And.intro hh7 (And.intro (HI.out.2.trans (hb0.mono HI.out.2.size)) (And.intro (Kd.C_below hCf hb0) (And.intro v3 (And.intro v4 hlen)))))
   have HN := Lib.hid (And.intro hn1 (And.intro ho1 (And.intro hid12 ho4)))
   clear hh7 hb0 hCf hfc v1 v2 v4 htk hn1 ho1 hidn hid hkd hs HI hlen
   have HX1 := Lib.hid hX1; clear hX1
   by_cases hf0 : s.frm.length = 0
   ·have hz : ((s.frm.length : Int) == 0) = true := by simp [hf0]
    have cO := cell_ext (show (wr.alloc (.cells #[.int .i64 (id : Int), .int .i64 kd, .slice FA s.frm.length fc] 35)).cell? ⟨w.heap.size, 12, none⟩ = some (.int .u16 ((ogL (l.take k) : Nat) : Int)) from cell_of HX1.out.blk rfl)
    have d0x := cell_ext d0
    obtain ⟨OG, hOG⟩ : ∃ OG, ogL (l.take k) = OG := ⟨_, rfl⟩
    rw [hOG] at cO HN HX1 ho4
    have HOR := Lib.hid (or16 (a := OG) (v := id) (by omega) (by omega))
    clear hOG
    have HF0 := Lib.hid hf0; clear hf0 v3
    have HO4 := Lib.hid ho4; clear ho4
    go_wp2_with fail
    refine region_late [] [0, 1, 2, 3, 4, 5, 6, 7, 8, 9] [10] (by kernel_rfl) (by kernel_rfl) (fun c a d v w h => by obtain ⟨_, _, h, _⟩ := h; cases h) ?_
    simp only [pick_cons, pick_nil, nthO_succ, nthO_zero]
    refine wpQuiet_nil ?_
    repeat (go_big_quiet_step (fail))
    refine wpQuiet_nil ?_
    rintro W' ⟨X, rfl⟩
    rw [HOR.out]
    clear cO d0x d0 d2 x0 x1 x2
    have hbX := X.2.below (n := (wr.alloc (.cells #[.int .i64 (id : Int), .int .i64 kd, .slice FA s.frm.length fc] 35)).heap.size) (fun _ _ h => h) (Nat.le_refl _)
    have hXX := HX1.out.fr hbX
    have fO := frozen_of (o := 12) hXX.blk
    have cO2 : X.val.cell? ⟨w.heap.size, 12, none⟩ = some (.int .u16 (OG : Int)) := cell_of hXX.blk rfl
    have hXP := hXX.put (o := 12) (og' := OG ||| 2 ^ id) (sd' := 0) (wo' := 0) (x := .int .u16 ((OG ||| 2 ^ id : Nat) : Int)) rfl
    have hh7 := heap_set_ne (p := ⟨w.heap.size, 12, none⟩) (.int .u16 ((OG ||| 2 ^ id : Nat) : Int)) (by show wr.heap.size ≠ w.heap.size; omega) ((hbX.block _ (by simp)).trans HH.out.1)
    have hbw := (HH.out.2.1.trans (hbX.mono HH.out.2.1.size)).setCell (p := ⟨w.heap.size, 12, none⟩) (Nat.le_refl _) (.int .u16 ((OG ||| 2 ^ id : Nat) : Int))
    have d2 : (X.val.setCell ⟨w.heap.size, 12, none⟩ (.int .u16 ((OG ||| 2 ^ id : Nat) : Int))).cell? ⟨wr.heap.size, 2, none⟩ = some (.slice FA s.frm.length fc) := cell_of hh7 rfl
    have HF := Lib.hid (And.intro hXP hbw); clear hXP hbw hXX hbX hh7
    go_wp2_with fail
    refine wp_loop_once ?_
    have hzl : ¬ ((0 : Int) < (s.frm.length : Int)) := by have := HF0.out; omega
    go_wp2_with fail
    go_roundw
    case rel =>
     refine ⟨k + 1, by omega, by go_num, nv, Lib.hid ⟨?_, HF.out.2⟩⟩
     have he : addF (nxL (l.take k)) id s.frm = nxL (l.take k) := by rw [List.eq_nil_of_length_eq_zero HF0.out]; rfl
     rw [HN.out.1, HN.out.2.1, if_pos HF0.out, he]
     exact HF.out.1
    case measure => exact meas_up1 hlt
   ·have hz : ((s.frm.length : Int) == 0) = false := by simp [hf0]
    have HF0 := Lib.hid hf0; clear hf0 v3
    have HX2 := Lib.hid (show SX w.heap.size nv (addF (nxL (l.take k)) id (s.frm.take 0)) (ogL (l.take k)) 0 0 (wr.alloc (.cells #[.int .i64 (id : Int), .int .i64 kd, .slice FA s.frm.length fc] 35)) from HX1.out)
    have hfm : s.frm.length ≤ 9223372036854775807 := by have := HH.out.2.2.2.1; omega
    clear ho4
    go_wp2_with fail
    clear x0 x1 x2
    obtain ⟨wa, rfl⟩ : ∃ wa, wa = wr := ⟨_, rfl⟩
    obtain ⟨b7, hb7e⟩ : ∃ b, wa.heap.size = b := ⟨_, rfl⟩
    rw [hb7e] at hb7 d0 d2 ⊢
    go_loopw [37] (fun jv wr => ∃ j : Nat, j ≤ s.frm.length ∧ jv = .int .i64 j ∧ ∃ nv : Nat → Value, Hid (SX w.heap.size nv (addF (nxL (l.take k)) id (s.frm.take j)) (ogL (l.take k)) 0 0 wr ∧ Below w.heap.size w wr ∧ wr.heap[b7]? = some (.cells #[.int .i64 (id : Int), .int .i64 kd, .slice FA s.frm.length fc] 35))) (fun jv wr => s.frm.length - (intOf jv).toNat)
    case atStart => exact ⟨0, Nat.zero_le _, rfl, nv, Lib.hid ⟨HX2.out, HH.out.2.1, by rw [← hb7e]; exact HH.out.1⟩⟩
    case round =>
     obtain ⟨j, hj, rfl, nv, HJ⟩ := hrel
     by_cases hjl : j < s.frm.length
     ·have hjI : (j : Int) < (s.frm.length : Int) := by omega
      obtain ⟨yd, e, hy⟩ := Kd.at_int (xs := s.frm) (n := s.frm.length) (Kd.C_below HCF.out HJ.out.2.1) (j : Int) (by omega) hjI
      cases e
      simp only [Int.toNat_natCast] at hy
      have hy12 := HH.out.2.2.2.2.1 _ (List.getElem_mem hjl)
      obtain ⟨v, hvv⟩ : ∃ v : Nat, s.frm[j] = (v : Int) := ⟨s.frm[j].toNat, by omega⟩
      have hrd : rd s.frm (j : Int) = (v : Int) := by simp [rd, hjl, hvv]
      rw [hrd] at hy
      rw [hvv] at hy12
      have hv12 : v < 12 := by omega
      have hvI : (v : Int) < 12 := by omega
      have hst : addF (nxL (l.take k)) id (s.frm.take (j + 1)) = upd (addF (nxL (l.take k)) id (s.frm.take j)) v id := by rw [List.take_succ_eq_append_getElem hjl, addF_snoc, hvv, Int.toNat_natCast]
      have hln : (addF (nxL (l.take k)) id (s.frm.take j) v).length ≤ 1000 := by
       have h1 := addF_len (s.frm.take j) (nxL (l.take k)) id _ v (HH.out.2.2.2.2.2 v)
       have h2 := HH.out.2.2.2.1
       have h3 := HR.out.2.2.1
       rw [List.length_take] at h1
       rw [List.length_take] at h1
       omega
      have HST := Lib.hid hst
      have HLN := Lib.hid hln
      obtain ⟨NX, hNX⟩ : ∃ NX, addF (nxL (l.take k)) id (s.frm.take j) = NX := ⟨_, rfl⟩
      rw [hNX] at HST HLN HJ
      clear hst hln hNX hy12 hvv hrd
      have c7 : wr.cell? ⟨b7, 0, none⟩ = some (.int .i64 (id : Int)) := cell_of HJ.out.2.2 rfl
      have n7 : ¬ (b7 = w.heap.size ∨ (nv v).ownBlock = some b7) := by
       rintro (h | h)
       ·omega
       ·obtain ⟨cs, hc⟩ := Kd.R_typed (HJ.out.1.rows v hv12) b7 h
        rw [HJ.out.2.2] at hc
        cases hc
      have q7 := cell_extB (B := fun k => k = w.heap.size ∨ (nv v).ownBlock = some k) c7 n7
      go_wp2_with fail
      refine region_freeS (fun k => k = w.heap.size ∨ (nv v).ownBlock = some k) [0, 1, 2, 3, 4, 5, 6, 8, 9, 12, 13] #[true, true, true, true, true, true, true, false, true, true, false, false, true, true, false, false] 5 (by kernel_rfl) (by kernel_rfl) (fun c a d v w h => by obtain ⟨_, _, h, _⟩ := h; cases h) ?_
      simp only [pick_cons, pick_nil, nthO_succ, nthO_zero]
      repeat (go_big_quiet_step (fail))
      refine wpQuiet_nil ?_
      clear q7 c7 n7
      have HD := Lib.hid (show Below wr.heap.size wr wr.drew from ⟨rfl, rfl, rfl, Nat.le_refl _, fun _ _ => rfl⟩)
      have HS0 := Lib.hid (show Fr (fun k => k = w.heap.size ∨ (nv v).ownBlock = some k) wr wr.drew from (Fr.refl _ _).drew)
      obtain ⟨u0, hu0⟩ : ∃ u0, wr.drew = u0 := ⟨_, rfl⟩
      rw [hu0] at HD HS0 ⊢
      clear hu0
      have cV : u0.cell? ⟨w.heap.size, v, none⟩ = some (nv v) := cell_of (HJ.out.1.fr HD.out).blk (wcells_next hv12)
      have cVA : (u0.alloc (.cells #[.int .i64 (id : Int)] 3)).cell? ⟨w.heap.size, v, none⟩ = some (nv v) := cell_of (heap_old (HJ.out.1.fr HD.out).blk) (wcells_next hv12)
      refine any_stepS [7, 10] (by kernel_rfl) ?_
      simp only [List.forall_mem_cons, List.forall_mem_nil, nthO_succ, nthO_zero]
      have HB9 := Lib.hid (HD.out.alloc HD.out.size (.cells #[.int .i64 (id : Int)] 3))
      have HS9 := Lib.hid (HS0.out.alloc (.cells #[.int .i64 (id : Int)] 3))
      refine ⟨?_, ?_, fun _ h => by cases h⟩
      ·go_wp2_with fail
       refine ⟨⟨⟨_, HS0.out⟩, rfl⟩, ?_⟩
       refine any_stepS [10] (by kernel_rfl) ?_
       simp only [List.forall_mem_cons, List.forall_mem_nil, nthO_succ, nthO_zero]
       refine ⟨?_, fun _ h => by cases h⟩
       go_wp2_with fail
       refine ⟨⟨⟨_, HS9.out⟩, rfl⟩, ?_⟩
       have hXA := HJ.out.1.fr HB9.out
       refine any_stepS [11] (by kernel_rfl) ?_
       simp only [List.forall_mem_cons, List.forall_mem_nil, nthO_succ, nthO_zero]
       refine ⟨?_, fun _ h => by cases h⟩
       have hX0 := HJ.out.1.fr HD.out
       have HR0 := Lib.hid (Kd.R_mono (hX0.rows v hv12) (ok' := fun k => (nv v).ownBlock = some k ∨ u0.heap.size ≤ k) (fun k hk => .inl hk))
       refine Kd.R_append (Kd.int .i64) (w0 := u0) (w.heap.size + 1) rfl (.tmp 48) (.tmp 51) 26 3 (.int .i64 0) 8 rfl Tryd.underlying26 info3 rfl (by decide) (by decide) (nv v) ((NX v).map Int.ofNat) (id : Int) [.int .i64 (id : Int)] (fun k => (nv v).ownBlock = some k ∨ u0.heap.size ≤ k) (fun _ => False) rfl rfl rfl (fun _ h => h.elim) (fun k hk => .inr hk) HR0.out (Below.refl _ _) (by have := hX0.size; omega) (by have := HLN.out; rw [List.length_map]; omega) ?_
       intro v1 w7 h1 h2 h3 h4
       rw [show (NX v).map Int.ofNat ++ [(id : Int)] = (NX v ++ [id]).map Int.ofNat by simp] at h1
       obtain ⟨VA1, vc1, rfl⟩ := Kd.R_slice h1
       have hl1 : ((NX v ++ [id]).map Int.ofNat).length = (NX v).length + 1 := by simp
       rw [hl1] at h1 h4
       have hap := hX0.app hv12 h3 h1 h4
       have h7b := hX0.keep hv12 h3
       have hS7 : Fr (fun k => k = w.heap.size ∨ (nv v).ownBlock = some k) wr w7 := HS0.out.grown h3 (fun k hk _ => .inr hk)
       have H7 := Lib.hid (And.intro hap (And.intro hS7 (And.intro h2 (h7b.2 b7 (by have := (Array.getElem?_eq_some_iff.1 HJ.out.2.2).1; have := HD.out.size; omega) _ (HD.out.block _ (Array.getElem?_eq_some_iff.1 HJ.out.2.2).1 |>.trans HJ.out.2.2) (fun cs e => by cases e)))))
       have hfz := frozen_of (o := v) h7b.1
       have hcz : w7.cell? ⟨w.heap.size, v, none⟩ = some (nv v) := cell_of h7b.1 (wcells_next hv12)
       clear hap hS7 h1 h2 h3 h4 h7b hX0 hXA HR0 HB9
       refine ⟨⟨⟨_, H7.out.2.1⟩, rfl⟩, ?_⟩
       refine any_stepS [14] (by kernel_rfl) ?_
       simp only [List.forall_mem_cons, List.forall_mem_nil, nthO_succ, nthO_zero]
       refine ⟨?_, fun _ h => by cases h⟩
       go_wp2_with fail
       refine ⟨⟨⟨_, H7.out.2.1⟩, rfl⟩, ?_⟩
       refine any_stepS [15] (by kernel_rfl) ?_
       simp only [List.forall_mem_cons, List.forall_mem_nil, nthO_succ, nthO_zero]
       refine ⟨?_, fun _ h => by cases h⟩
       go_wp2_with fail
       refine ⟨⟨⟨_, H7.out.2.1.setCell _ _ (fun _ => .inl rfl)⟩, rfl⟩, wpAnyH_done (by kernel_rfl) ?_ _⟩
       go_wp2_with fail
       go_roundw
       case rel =>
        refine ⟨j + 1, by omega, by go_num, _, Lib.hid ⟨by rw [HST.out]; exact H7.out.1, ?_, ?_⟩⟩
        ·exact (HJ.out.2.1.trans ((HD.out.mono (by have := HJ.out.1.size; omega)).trans (H7.out.2.2.1.mono (by omega)))).setCell (p := ⟨w.heap.size, v, none⟩) (Nat.le_refl _) _
        ·exact heap_set_ne (p := ⟨w.heap.size, v, none⟩) _ (by show b7 ≠ w.heap.size; omega) H7.out.2.2.2
       case measure => exact meas_up1 hjl
      ·go_wp2_with fail
       refine ⟨⟨⟨_, HS9.out⟩, rfl⟩, ?_⟩
       refine any_stepS [7] (by kernel_rfl) ?_
       simp only [List.forall_mem_cons, List.forall_mem_nil, nthO_succ, nthO_zero]
       refine ⟨?_, fun _ h => by cases h⟩
       go_wp2_with fail
       refine ⟨⟨⟨_, HS9.out⟩, rfl⟩, ?_⟩
       have hXA := HJ.out.1.fr HB9.out
       refine any_stepS [11] (by kernel_rfl) ?_
       simp only [List.forall_mem_cons, List.forall_mem_nil, nthO_succ, nthO_zero]
       refine ⟨?_, fun _ h => by cases h⟩
       have hX0 := HJ.out.1.fr HD.out
       have HR0 := Lib.hid (Kd.R_mono (hX0.rows v hv12) (ok' := fun k => (nv v).ownBlock = some k ∨ u0.heap.size ≤ k) (fun k hk => .inl hk))
       refine Kd.R_append (Kd.int .i64) (w0 := u0) (w.heap.size + 1) rfl (.tmp 48) (.tmp 51) 26 3 (.int .i64 0) 8 rfl Tryd.underlying26 info3 rfl (by decide) (by decide) (nv v) ((NX v).map Int.ofNat) (id : Int) [.int .i64 (id : Int)] (fun k => (nv v).ownBlock = some k ∨ u0.heap.size ≤ k) (fun _ => False) rfl rfl rfl (fun _ h => h.elim) (fun k hk => .inr hk) HR0.out (Below.refl _ _) (by have := hX0.size; omega) (by have := HLN.out; rw [List.length_map]; omega) ?_
       intro v1 w7 h1 h2 h3 h4
       rw [show (NX v).map Int.ofNat ++ [(id : Int)] = (NX v ++ [id]).map Int.ofNat by simp] at h1
       obtain ⟨VA1, vc1, rfl⟩ := Kd.R_slice h1
       have hl1 : ((NX v ++ [id]).map Int.ofNat).length = (NX v).length + 1 := by simp
       rw [hl1] at h1 h4
       have hap := hX0.app hv12 h3 h1 h4
       have h7b := hX0.keep hv12 h3
       have hS7 : Fr (fun k => k = w.heap.size ∨ (nv v).ownBlock = some k) wr w7 := HS0.out.grown h3 (fun k hk _ => .inr hk)
       have H7 := Lib.hid (And.intro hap (And.intro hS7 (And.intro h2 (h7b.2 b7 (by have := (Array.getElem?_eq_some_iff.1 HJ.out.2.2).1; have := HD.out.size; omega) _ (HD.out.block _ (Array.getElem?_eq_some_iff.1 HJ.out.2.2).1 |>.trans HJ.out.2.2) (fun cs e => by cases e)))))
       have hfz := frozen_of (o := v) h7b.1
       have hcz : w7.cell? ⟨w.heap.size, v, none⟩ = some (nv v) := cell_of h7b.1 (wcells_next hv12)
       clear hap hS7 h1 h2 h3 h4 h7b hX0 hXA HR0 HB9
       refine ⟨⟨⟨_, H7.out.2.1⟩, rfl⟩, ?_⟩
       refine any_stepS [14] (by kernel_rfl) ?_
       simp only [List.forall_mem_cons, List.forall_mem_nil, nthO_succ, nthO_zero]
       refine ⟨?_, fun _ h => by cases h⟩
       go_wp2_with fail
       refine ⟨⟨⟨_, H7.out.2.1⟩, rfl⟩, ?_⟩
       refine any_stepS [15] (by kernel_rfl) ?_
       simp only [List.forall_mem_cons, List.forall_mem_nil, nthO_succ, nthO_zero]
       refine ⟨?_, fun _ h => by cases h⟩
       go_wp2_with fail
       refine ⟨⟨⟨_, H7.out.2.1.setCell _ _ (fun _ => .inl rfl)⟩, rfl⟩, wpAnyH_done (by kernel_rfl) ?_ _⟩
       go_wp2_with fail
       go_roundw
       case rel =>
        refine ⟨j + 1, by omega, by go_num, _, Lib.hid ⟨by rw [HST.out]; exact H7.out.1, ?_, ?_⟩⟩
        ·exact (HJ.out.2.1.trans ((HD.out.mono (by have := HJ.out.1.size; omega)).trans (H7.out.2.2.1.mono (by omega)))).setCell (p := ⟨w.heap.size, v, none⟩) (Nat.le_refl _) _
        ·exact heap_set_ne (p := ⟨w.heap.size, v, none⟩) _ (by show b7 ≠ w.heap.size; omega) H7.out.2.2.2
       case measure => exact meas_up1 hjl
     ·obtain rfl : j = s.frm.length := by omega
      go_wp2_with fail
      go_roundw
      case rel =>
       refine ⟨k + 1, by omega, by go_num, nv, Lib.hid ⟨?_, HJ.out.2.1⟩⟩
       rw [HN.out.1, HN.out.2.1, if_neg HF0.out]
       have := HJ.out.1
       rw [List.take_length] at this
       exact this
      case measure => exact meas_up1 hlt
  ·obtain rfl : k = l.length := by omega
   go_wp2_with fail
   go_loopw [60] (fun jv wr => ∃ j : Nat, j ≤ xs.length ∧ jv = .int .i64 j ∧ Hid (SX w.heap.size nv (nxL l) (ogL l) (sdL (xs.take j)) 0 wr ∧ Below w.heap.size w wr)) (fun jv wr => xs.length - (intOf jv).toNat)
   case atStart => exact ⟨0, Nat.zero_le _, rfl, Lib.hid ⟨by have := HI.out.1; rw [List.take_length] at this; exact this, HI.out.2⟩⟩
   case round =>
    obtain ⟨j, hj, rfl, HJ⟩ := hrel
    by_cases hjl : j < xs.length
    ·have hjI : (j : Int) < (xs.length : Int) := by omega
     obtain ⟨yd, e, hy⟩ := Kd.at_int (xs := xs) (n := xs.length) (Kd.C_below HR.out.2.2.2.1 HJ.out.2) (j : Int) (by omega) hjI
     cases e
     simp only [Int.toNat_natCast] at hy
     have hy12 := HR.out.2.2.2.2 _ (List.getElem_mem hjl)
     obtain ⟨v, hvv⟩ : ∃ v : Nat, xs[j] = (v : Int) := ⟨xs[j].toNat, by omega⟩
     have hrd : rd xs (j : Int) = (v : Int) := by simp [rd, hjl, hvv]
     rw [hrd] at hy
     rw [hvv] at hy12
     have hv12 : v < 12 := by omega
     have hst : sdL (xs.take (j + 1)) = sdL (xs.take j) ||| 2 ^ v := by unfold sdL; rw [List.take_succ_eq_append_getElem hjl, List.map_append, hvv, show ([(v : Int)].map Int.toNat) = [v] from rfl, orL_snoc]
     have h4 : sdL (xs.take j) < 4096 := orL_lt (by decide) (fun y hy => by
      obtain ⟨z, hz, rfl⟩ := List.mem_map.1 hy
      have := HR.out.2.2.2.2 z (List.mem_of_mem_take hz)
      omega)
     obtain ⟨SD, hSD⟩ : ∃ SD, sdL (xs.take j) = SD := ⟨_, rfl⟩
     rw [hSD] at hst h4 HJ
     have HOR := Lib.hid (or16 (a := SD) (v := v) (by omega) (by omega))
     have HST := Lib.hid hst
     clear hst hSD hy12 hvv hrd h4
     have cS := cell_ext (show wr.cell? ⟨w.heap.size, 13, none⟩ = some (.int .u16 (SD : Int)) from cell_of HJ.out.1.blk rfl)
     go_wp2_with fail
     refine region_late [] [0, 1, 2, 3, 4, 5, 6, 7, 8] [9] (by kernel_rfl) (by kernel_rfl) (fun c a d v w h => by obtain ⟨_, _, h, _⟩ := h; cases h) ?_
     simp only [pick_cons, pick_nil, nthO_succ, nthO_zero]
     refine wpQuiet_nil ?_
     repeat (go_big_quiet_step (fail))
     refine wpQuiet_nil ?_
     rintro W' ⟨X, rfl⟩
     rw [HOR.out]
     clear cS
     have hbX := X.2.below (n := wr.heap.size) (fun _ _ h => h) (Nat.le_refl _)
     have hXX := HJ.out.1.fr hbX
     have fO := frozen_of (o := 13) hXX.blk
     have cO2 : X.val.cell? ⟨w.heap.size, 13, none⟩ = some (.int .u16 (SD : Int)) := cell_of hXX.blk rfl
     have hXP := hXX.put (o := 13) (og' := ogL l) (sd' := SD ||| 2 ^ v) (wo' := 0) (x := .int .u16 ((SD ||| 2 ^ v : Nat) : Int)) rfl
     have hbw := (HJ.out.2.trans (hbX.mono HJ.out.2.size)).setCell (p := ⟨w.heap.size, 13, none⟩) (Nat.le_refl _) (.int .u16 ((SD ||| 2 ^ v : Nat) : Int))
     have HF := Lib.hid (And.intro hXP hbw); clear hXP hbw hXX hbX
     go_wp2_with fail
     go_roundw
     case rel => exact ⟨j + 1, by omega, by go_num, Lib.hid ⟨by rw [HST.out]; exact HF.out.1, HF.out.2⟩⟩
     case measure => exact meas_up1 hjl
    ·obtain rfl : j = xs.length := by omega
     go_wp2_with fail
     go_ret
     refine ⟨nv, rfl, ?_, HJ.out.2⟩
     have := HJ.out.1
     rw [List.take_length] at this
     exact this
end Go.Proofs.YticngcjfofcoiaaDoor
