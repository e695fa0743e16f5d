/- The contract of few. -/
import Derived.Test.YticngcjfofcoiaaDoorTb
namespace Go.Proofs.YticngcjfofcoiaaDoor
open Go.RowKit Go.Rg Go.Proofs.YticngcjfofcoiaaDoorW.PrintWords
set_option linter.unusedVariables false
set_option linter.unusedSimpArgs false
set_option maxRecDepth 100000
abbrev kn : Kd (Int × Int × Hd) := Kd.pair (Kd.int .i64) (Kd.pair (Kd.int .i64) kh)
theorem kn_mk {w : World} {base : Nat} {ok : Nat → Prop} {i k : Int} {h : Hd} : kn.M w base ok (i, k, h) [.int .i64 i, .int .i64 k, hdv h] :=
 ⟨[.int .i64 i], [.int .i64 k, hdv h], rfl, rfl, ⟨[.int .i64 k], [hdv h], rfl, rfl, rfl⟩⟩
theorem kn_open {w : World} {x : Int × Int × Hd} {cs : List Value} (h : kn.K w x cs) : cs = [.int .i64 x.1, .int .i64 x.2.1, hdv x.2.2] := by
 obtain ⟨_, _, rfl, rfl, ⟨_, _, rfl, rfl, rfl⟩⟩ := h
 rfl
def Rws (W : World) (rs : List (Int × Int × Hd)) (ss : List Src) : Prop := rs.length = ss.length ∧ ∀ i (h1 : i < rs.length) (h2 : i < ss.length), rs[i].1 = ss[i].id ∧ rs[i].2.1 = ss[i].kind ∧ One W rs[i].2.2 ss[i].frm
theorem Rws.below {W W' : World} {rs : List (Int × Int × Hd)} {ss : List Src} (h : Rws W rs ss) (hb : Below W.heap.size W W') : Rws W' rs ss :=
 ⟨h.1, fun i h1 h2 => by obtain ⟨a, b, c⟩ := h.2 i h1 h2; exact ⟨a, b, c.1, c.2.1, Kd.C_below c.2.2 hb⟩⟩
theorem Rws.snoc {W : World} {rs : List (Int × Int × Hd)} {ss : List Src} (h : Rws W rs ss) {h1 : Hd} {s : Src} (ho : One W h1 s.frm) : Rws W (rs ++ [(s.id, s.kind, h1)]) (ss ++ [s]) := by
 refine ⟨by simp [h.1], fun i h1 h2 => ?_⟩
 have hl := h.1
 rcases Nat.lt_or_ge i rs.length with hi | hi
 ·rw [List.getElem_append_left hi, List.getElem_append_left (by omega)]
  exact h.2 i hi (by omega)
 ·have : i = rs.length := by simp at h1; omega
  subst this
  rw [List.getElem_append_right (by omega), List.getElem_append_right (by omega)]
  simp [hl]
  exact ho
theorem C_few {W : World} {A : Option Addr} {rs : List (Int × Int × Hd)} {ss : List Src} (h : kn.C W A rs.length rs) (hx : Rws W rs ss) : Kd.C kS W A ss.length ss := by
 have hl := hx.1
 refine ⟨rfl, by rw [← hl]; exact h.2.1, fun h0 => ?_⟩
 obtain ⟨ad, e, hc⟩ := h.2.2 (by omega)
 refine ⟨ad, e, fun j p hj => ?_⟩
 obtain ⟨hj1, rfl⟩ := List.getElem?_eq_some_iff.1 hj
 obtain ⟨cs, hlen, hcs, hget⟩ := hc j rs[j] (List.getElem?_eq_getElem (by omega))
 obtain ⟨o1, o2, o3⟩ := hx.2 j (by omega) hj1
 refine ⟨cs, hlen, ?_, hget⟩
 rw [kn_open hcs, o1, o2]
 unfold hdv
 rw [o3.1]
 exact kS_mk o3.2.1 o3.2.2
def cut4 (s : Src) : Src := ⟨s.id, s.kind, s.frm.take 4⟩
def fewS (l : List Src) : List Src := (l.take 6).map cut4
theorem fewS_short {l : List Src} : ∀ s ∈ fewS l, s.frm.length ≤ 1000 := by
 intro s hs
 obtain ⟨t, _, rfl⟩ := List.mem_map.1 hs
 show (t.frm.take 4).length ≤ 1000
 rw [List.length_take]; omega
theorem few_succ {l : List Src} {k : Nat} {s : Src} (h : l[k]? = some s) : (l.take (k + 1)).map cut4 = (l.take k).map cut4 ++ [cut4 s] := by
 rw [take_at h, List.map_append]; rfl
set_option maxHeartbeats 2000000 in
theorem few_any (A : Option Addr) (c : Nat) (l : List Src) (w : World) (hr : Kd.C kS w A l.length l) :
  Calls Tryd.prog 19 #[.slice A l.length c] w fun e w' => ∃ (B : Option Addr) (d : Nat), e = .returned (.slice B (fewS l).length d) ∧ Hid (SrcAt B d (fewS l) w' ∧ Below w.heap.size w w') := by
 have hm := max_len hr
 have HR := Lib.hid hr; clear hr
 go_enter Tryd.func19, Tryd.ntmps19
 go_wp2_with fail
 go_loopw [3, 4] (fun lv iv W => ∃ (k : Nat) (rs : List (Int × Int × Hd)), k ≤ l.length ∧ k ≤ 6 ∧ iv = .int .i64 k ∧ Hid (kn.R 35 W w.heap.size (fun k => w.heap.size ≤ k) lv rs ∧ Rws w rs ((l.take k).map cut4) ∧ Below w.heap.size w W)) (fun lv iv W => 6 - (intOf iv).toNat)
 case atStart => exact ⟨0, [], Nat.zero_le _, Nat.zero_le _, rfl, Lib.hid ⟨Kd.R_nil _ _ _ _ _, ⟨rfl, fun i h => by cases h⟩, Below.refl _ _⟩⟩
 case round =>
  obtain ⟨k, rs, hk, hk6, rfl, HI⟩ := hrel
  obtain ⟨OA, oc, rfl⟩ := Kd.R_slice HI.out.1
  by_cases hlt : k < l.length ∧ k < 6
  ·obtain ⟨h1, h2⟩ := hlt
   have hkI : (k : Int) < (l.length : Int) := by omega
   have hkJ : (k : Int) < 6 := by omega
   obtain ⟨s, hs⟩ : ∃ s, l[k]? = some s := ⟨_, List.getElem?_eq_getElem h1⟩
   obtain ⟨ad, FA, fc, e, x0, x1, x2, hfc, hCf⟩ := at_S HR.out hs
   cases e
   have HSU := Lib.hid (few_succ hs)
   have HCF := Lib.hid (And.intro hCf hfc)
   have y0 := pw_cell_below HI.out.2.2 x0
   have y1 := pw_cell_below HI.out.2.2 x1
   have y2 := pw_cell_below HI.out.2.2 x2
   obtain ⟨n, hn⟩ : ∃ n, s.frm.length = n := ⟨_, rfl⟩
   rw [hn] at y2 hfc
   have HN := Lib.hid hn
   have hmn : n ≤ 9223372036854775807 := by rw [← hn]; exact max_len hCf
   obtain ⟨i1, hi1⟩ : ∃ i, s.id = i := ⟨_, rfl⟩
   obtain ⟨k1, hk1⟩ : ∃ i, s.kind = i := ⟨_, rfl⟩
   rw [hi1] at y0
   rw [hk1] at y1
   have HIK := Lib.hid (And.intro hi1 hk1)
   have hrl : rs.length ≤ 6 := by have := HI.out.2.1.1; rw [List.length_map, List.length_take] at this; omega
   have HRL := Lib.hid hrl
   clear hrl hs hCf x0 x1 x2 hn hi1 hk1
   obtain ⟨gb, hgb⟩ : ∃ q, wr.heap.size = q := ⟨_, rfl⟩
   have hA := (Below.refl wr.heap.size wr).alloc (Nat.le_refl _) (.cells #[.int .i64 i1, .int .i64 k1, .slice FA n fc] 35)
   have k0 := heap_new (W := wr) (o := .cells #[.int .i64 i1, .int .i64 k1, .slice FA n fc] 35) hgb
   obtain ⟨wA, hwA⟩ : ∃ W, wr.alloc (.cells #[.int .i64 i1, .int .i64 k1, .slice FA n fc] 35) = W := ⟨_, rfl⟩
   have hzA : wA.heap.size = gb + 1 := by rw [← hwA]; simp [hgb]
   rw [hwA] at hA k0
   by_cases h4 : 4 < n
   ·have h4I : (4 : Int) < (n : Int) := by omega
    have hOne : One w (FA, 4, fc) (s.frm.take 4) := by
     have h := One.take (n := s.frm.length) (c := fc) (x := s.frm) (W := w) (A := FA) ⟨rfl, HCF.out.2, HCF.out.1⟩ 4
     rw [HN.out, show min n 4 = 4 by omega] at h
     exact h
    have hB := heap_set (o := 2) (.slice FA 4 fc) k0
    obtain ⟨wB, hwB⟩ : ∃ W, wA.setCell ⟨gb, 2, none⟩ (.slice FA 4 fc) = W := ⟨_, rfl⟩
    have hzB : wB.heap.size = gb + 1 := by rw [← hwB]; simp [hzA]
    rw [hwB] at hB
    have hbB : Below w.heap.size w wB := by
     rw [← hwB]
     exact (HI.out.2.2.trans (hA.mono HI.out.2.2.size)).setCell (p := ⟨gb, 2, none⟩) (by have := HI.out.2.2.size; show w.heap.size ≤ gb; omega) _
    have hRB : kn.R 35 wB w.heap.size (fun k => w.heap.size ≤ k) (.slice OA rs.length oc) rs := by
     rw [← hwB]
     exact Kd.R_mono (Kd.R_far (Kd.R_below (Kd.R_mono (Kd.R_bound HI.out.1) (ok' := fun k => w.heap.size ≤ k ∧ k < gb) (fun k hk => ⟨hk.1, by have := hk.2.2.1; omega⟩)) hA) (p := ⟨gb, 2, none⟩) (fun k hk => by show k ≠ gb; have := hk.2; omega) _) (fun k hk => hk.1)
    have HB := Lib.hid (And.intro hB (And.intro hbB (And.intro hRB (And.intro hOne hzB))))
    have t2 := cell_of (o := 2) k0 rfl
    have z2 := frozen_of (o := 2) k0
    have d0 := cell_of (o := 0) hB rfl
    have d1 := cell_of (o := 1) hB rfl
    have d2 := cell_of (o := 2) hB rfl
    clear hA k0 hB hbB hRB hOne h1
    go_wp2_with (at_builtin; go_loud (refine Kd.R_append kn (w0 := w) w.heap.size rfl (.tmp 28) (.tmp 30) 24 35 (.agg #[.int .i64 0, .int .i64 0, .slice none 0 0]) 40 rfl Tryd.underlying24 info35 rfl (by decide) (by decide) (.slice OA rs.length oc) rs (i1, k1, (FA, 4, fc)) [.int .i64 i1, .int .i64 k1, .slice FA 4 fc] (fun k => w.heap.size ≤ k) (fun _ => False) rfl (by rw [HB.out.2.2.2.2]; rfl) kn_mk (fun _ h => h.elim) (fun k hk => Nat.le_trans HB.out.2.1.size hk) HB.out.2.2.1 HB.out.2.1 HB.out.2.1.size (by have := HRL.out; omega) ?_))
    intro v1 w5 q1 q2 q3 q4
    have HQ := Lib.hid (And.intro q1 q2); clear q1 q2 q3 q4 t2 z2 d0 d1 d2 hwA hwB hzA hzB
    go_wp2_with fail
    go_roundw
    case rel => exact ⟨k + 1, rs ++ [(i1, k1, (FA, 4, fc))], by omega, by omega, by go_num, Lib.hid ⟨HQ.out.1, by
     rw [HSU.out, ← HIK.out.1, ← HIK.out.2]
     exact Rws.snoc (s := cut4 s) HI.out.2.1 HB.out.2.2.2.1, HQ.out.2⟩⟩
    case measure => simp [intOf]; omega
   ·have h4I : ¬ (4 : Int) < (n : Int) := by omega
    have hOne : One w (FA, n, fc) (s.frm.take 4) := by
     have h := One.take (n := s.frm.length) (c := fc) (x := s.frm) (W := w) (A := FA) ⟨rfl, HCF.out.2, HCF.out.1⟩ 4
     rw [HN.out, show min n 4 = n by omega] at h
     exact h
    have hB := heap_set (o := 2) (.slice FA n fc) k0
    obtain ⟨wB, hwB⟩ : ∃ W, wA.setCell ⟨gb, 2, none⟩ (.slice FA n fc) = W := ⟨_, rfl⟩
    have hzB : wB.heap.size = gb + 1 := by rw [← hwB]; simp [hzA]
    rw [hwB] at hB
    have hbB : Below w.heap.size w wB := by
     rw [← hwB]
     exact (HI.out.2.2.trans (hA.mono HI.out.2.2.size)).setCell (p := ⟨gb, 2, none⟩) (by have := HI.out.2.2.size; show w.heap.size ≤ gb; omega) _
    have hRB : kn.R 35 wB w.heap.size (fun k => w.heap.size ≤ k) (.slice OA rs.length oc) rs := by
     rw [← hwB]
     exact Kd.R_mono (Kd.R_far (Kd.R_below (Kd.R_mono (Kd.R_bound HI.out.1) (ok' := fun k => w.heap.size ≤ k ∧ k < gb) (fun k hk => ⟨hk.1, by have := hk.2.2.1; omega⟩)) hA) (p := ⟨gb, 2, none⟩) (fun k hk => by show k ≠ gb; have := hk.2; omega) _) (fun k hk => hk.1)
    have HB := Lib.hid (And.intro hB (And.intro hbB (And.intro hRB (And.intro hOne hzB))))
    have t2 := cell_of (o := 2) k0 rfl
    have z2 := frozen_of (o := 2) k0
    have d0 := cell_of (o := 0) hB rfl
    have d1 := cell_of (o := 1) hB rfl
    have d2 := cell_of (o := 2) hB rfl
    clear hA k0 hB hbB hRB hOne h1
    go_wp2_with (at_builtin; go_loud (refine Kd.R_append kn (w0 := w) w.heap.size rfl (.tmp 28) (.tmp 30) 24 35 (.agg #[.int .i64 0, .int .i64 0, .slice none 0 0]) 40 rfl Tryd.underlying24 info35 rfl (by decide) (by decide) (.slice OA rs.length oc) rs (i1, k1, (FA, n, fc)) [.int .i64 i1, .int .i64 k1, .slice FA n fc] (fun k => w.heap.size ≤ k) (fun _ => False) rfl (by rw [HB.out.2.2.2.2]; rfl) kn_mk (fun _ h => h.elim) (fun k hk => Nat.le_trans HB.out.2.1.size hk) HB.out.2.2.1 HB.out.2.1 HB.out.2.1.size (by have := HRL.out; omega) ?_))
    intro v1 w5 q1 q2 q3 q4
    have HQ := Lib.hid (And.intro q1 q2); clear q1 q2 q3 q4 t2 z2 d0 d1 d2 hwA hwB hzA hzB
    go_wp2_with fail
    go_roundw
    case rel => exact ⟨k + 1, rs ++ [(i1, k1, (FA, n, fc))], by omega, by omega, by go_num, Lib.hid ⟨HQ.out.1, by
     rw [HSU.out, ← HIK.out.1, ← HIK.out.2]
     exact Rws.snoc (s := cut4 s) HI.out.2.1 HB.out.2.2.2.1, HQ.out.2⟩⟩
    case measure => simp [intOf]; omega
  ·have hfn : (l.take k).map cut4 = fewS l := by
    unfold fewS
    have hq : (k = 6 ∨ k = l.length) := by omega
    rcases hq with rfl | rfl
    ·rfl
    ·rw [List.take_length, List.take_of_length_le (by omega)]
   have HF := Lib.hid (And.intro (show Rws w rs (fewS l) by rw [← hfn]; exact HI.out.2.1) (show rs.length = (fewS l).length by rw [← hfn]; exact HI.out.2.1.1)); clear hfn
   have hq : ((k : Int) < (l.length : Int) ∧ ¬ (k : Int) < 6) ∨ ¬ (k : Int) < (l.length : Int) := by omega
   obtain ⟨A2, c2, e2, hc2, hC2⟩ := Kd.R_reads HI.out.1
   injection e2 with e3 e4 e5
   have HFIN := Lib.hid (show SrcAt OA oc (fewS l) wr by
    rw [e3, e5]
    exact ⟨C_few hC2 (HF.out.1.below HI.out.2.2), by rw [← HF.out.2]; exact hc2, fewS_short⟩)
   have HRL := Lib.hid HF.out.2
   clear e3 e4 e5 hc2 hC2 hlt
   obtain ⟨rl, hrl⟩ : ∃ q, rs.length = q := ⟨_, rfl⟩
   rw [hrl] at HRL ⊢
   clear hrl
   rcases hq with ⟨h1, h2⟩ | h1
   all_goals
    go_wp2_with fail
    go_ret
    exact ⟨OA, oc, by rw [← HRL.out]; rfl, Lib.hid ⟨HFIN.out, HI.out.2.2⟩⟩
end Go.Proofs.YticngcjfofcoiaaDoor
