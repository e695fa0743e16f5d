/- The contracts of the reference's has, Chosen and Silenced. -/
import Derived.Test.YticngcjfofcoiaaDoorMd
namespace Go.Proofs.YticngcjfofcoiaaDoor
open Go.RowKit Go.Rg Go.Proofs.YticngcjfofcoiaaDoorW.PrintWords
set_option linter.unusedVariables false
set_option linter.unusedSimpArgs false
set_option maxRecDepth 100000

theorem rhas_some (m : Int) (k : Nat) (hk : k < 64) (w : World) : Calls Tryd.prog 34 #[.int .i64 m, .int .i64 k] w fun e w' => ∃ b : Bool, e = .returned (.bool b) ∧ w' = w := by
  have hk64 : (k : Int) < 64 := by omega
  go_enter Tryd.func34, Tryd.ntmps34
  go_wp2_with fail
  go_ret
  exact ⟨_, rfl, rfl⟩
/-- Numbers that ascend, below a bound. -/
def ChosenL (n : Nat) (l : List Int) : Prop := l.Pairwise (· < ·) ∧ ∀ y ∈ l, 0 ≤ y ∧ y < n
theorem ChosenL.snoc {n : Nat} {l : List Int} (h : ChosenL n l) : ChosenL (n + 1) (l ++ [(n : Int)]) := by
  refine ⟨List.pairwise_append.2 ⟨h.1, by simp, fun a ha b hb => ?_⟩, fun y hy => ?_⟩
  · rw [List.mem_singleton] at hb
    have := h.2 a ha
    omega
  · rcases List.mem_append.1 hy with hy | hy
    · have := h.2 y hy; exact ⟨this.1, by omega⟩
    · rw [List.mem_singleton] at hy; exact ⟨by omega, by omega⟩
theorem ChosenL.skip {n : Nat} {l : List Int} (h : ChosenL n l) : ChosenL (n + 1) l := ⟨h.1, fun y hy => by have := h.2 y hy; exact ⟨this.1, by omega⟩⟩
set_option maxHeartbeats 2000000 in
theorem chosen_any (n : Nat) (hn : n ≤ 12) (m : Int) (w : World) : Calls Tryd.prog 12 #[.int .i64 n, .int .i64 m] w fun e w' => ∃ v l, e = .returned v ∧ (Kd.int .i64).R 3 w' w.heap.size (fun k => w.heap.size ≤ k) v l ∧ ChosenL n l ∧ l.length ≤ n ∧ Below w.heap.size w w' := by
  have HN := Lib.hid hn; clear hn
  go_enter Tryd.func12, Tryd.ntmps12
  go_wp2_with fail
  go_loopw [5, 6] (fun lv iv wr => ∃ i : Nat, i ≤ n ∧ iv = .int .i64 i ∧ ∃ l : List Int, Hid ((Kd.int .i64).R 3 wr w.heap.size (fun k => w.heap.size ≤ k) lv l ∧ ChosenL i l ∧ l.length ≤ i ∧ Below w.heap.size w wr)) (fun lv iv wr => n - (intOf iv).toNat)
  case atStart => exact ⟨0, Nat.zero_le _, rfl, [], Lib.hid ⟨Kd.R_nil _ _ _ _ _, ⟨List.Pairwise.nil, fun y h => by cases h⟩, by simp, Below.refl _ _⟩⟩
  case round =>
    obtain ⟨i, hi, rfl, l, HI⟩ := hrel
    by_cases hlt : i < n
    · have hltI : (i : Int) < (n : Int) := by omega
      have hwi : wrap64 ((i : Int) + 1) = (i : Int) + 1 := by have := HN.out; unfold wrap64; omega
      go_wp2_with fail
      refine (pick_some m 1048576 (by decide) _).mono ?_
      rintro e wq ⟨r, rfl, hq⟩
      subst hq
      go_wp2_with fail
      refine (rhas_some r i (by have := HN.out; omega) _).mono ?_
      rintro e wq ⟨b, rfl, hq⟩
      subst hq
      cases b with
      | false =>
        go_wp2_with fail
        go_roundw
        case rel => exact ⟨i + 1, by omega, by go_num, l, Lib.hid ⟨HI.out.1, HI.out.2.1.skip, by have := HI.out.2.2.1; omega, HI.out.2.2.2⟩⟩
        case measure => exact meas_up hlt hwi
      | true =>
        have h1o := HI.out.1
        have hz0 := HI.out.2.2.2.size
        have hll := HI.out.2.2.1
        have hn0 := HN.out
        go_wp2_with (at_builtin; go_loud (refine Kd.R_append (Kd.int .i64) (w0 := w) w.heap.size rfl (.tmp 16) (.tmp 18) 26 3 (.int .i64 0) 8 rfl Tryd.underlying26 info3 rfl (by decide) (by decide) _ l (i : Int) [.int .i64 (i : Int)] (fun k => w.heap.size ≤ k) (fun _ => False) rfl rfl rfl (fun _ h => h.elim) (fun k hk => Nat.le_trans hz0 hk) h1o HI.out.2.2.2 hz0 (by omega) ?_))
        intro v1 w7 h1 h2 h3 h4
        have HQ := Lib.hid (And.intro h1 h2); clear h1 h2 h3 h4 h1o hz0 hll hn0
        go_wp2_with fail
        go_roundw
        case rel => exact ⟨i + 1, by omega, by go_num, l ++ [(i : Int)], Lib.hid ⟨HQ.out.1, HI.out.2.1.snoc, by have := HI.out.2.2.1; simp; omega, HQ.out.2⟩⟩
        case measure => exact meas_up hlt hwi
    · obtain rfl : i = n := by omega
      go_wp2_with fail
      go_ret
      exact ⟨_, l, rfl, HI.out.1, HI.out.2.1, HI.out.2.2.1, HI.out.2.2.2⟩
/-- A source of Silenced. -/
def silS (id : Int) (s : Src) : Src := if s.id = id then { s with frm := [10] } else s
def two : List Src := [⟨10, 1, [11]⟩, ⟨11, 1, [10]⟩]
def silL (l : List Src) (id : Int) : List Src := l.map (silS id) ++ two
theorem one_row {b : Nat} {x : Int} {W : World} (h : W.heap[b]? = some (.cells #[.int .i64 x] 3)) {base : Nat} {ok : Nat → Prop} (hb : base ≤ b) (hok : ok b) : (Kd.int .i64).R 3 W base ok (.slice (some ⟨b, 0, none⟩) 1 1) [x] :=
  Kd.R_of_own (xs := [x]) ⟨rfl, .inr ⟨b, 1, #[.int .i64 x], rfl, hb, h, by simp, by decide, by simp, rfl⟩⟩ (fun k hk => by simp [Value.ownBlock] at hk; subst hk; exact hok)
theorem empty_row {W : World} {g base : Nat} {ok : Nat → Prop} (hz : W.heap.size = g) (hb : base ≤ g) (hok : ok g) : (Kd.int .i64).R 3 (W.alloc (.cells #[] 3)) base ok (.slice (some ⟨g, 0, none⟩) 0 0) [] := by
  subst hz
  exact Kd.R_of_own (own_lit W base 3 .i64 [] hb (by simp)) (fun k hk => by simp [Value.ownBlock] at hk; subst hk; exact hok)
theorem MX.fill {w : World} {b6 i : Nat} {kd : Int} {lv fv v1 : Value} {l : List Src} {frm : List Int} {W : World} (hb : Below w.heap.size w W) (hlst : kS.R 35 W w.heap.size (fun k => w.heap.size ≤ k ∧ k < b6) lv l) (hbox : W.heap[b6]? = some (.cells #[.int .i64 (i : Int), .int .i64 kd, fv] 35)) (hr : (Kd.int .i64).R 3 W w.heap.size (fun k => b6 < k) v1 frm) (hlo : w.heap.size ≤ b6) : MX w b6 i kd lv v1 l frm (W.setCell ⟨b6, 2, none⟩ v1) := by
  have h35 : ∀ q, q ∈ (3 : Nat) :: (Kd.int .i64).E → q ≠ 35 := fun q hq => by rw [kI_only hq]; decide
  refine ⟨hb.setCell (p := ⟨b6, 2, none⟩) hlo _, ?_, heap_set (o := 2) v1 hbox, Kd.R_set hr hbox h35 2 _, hlo⟩
  refine Kd.R_step hlst (fun k hk' hl => ?_)
  have hne : k ≠ b6 := by omega
  cases hx : W.heap[k]? with
  | none =>
    have : ¬ k < W.heap.size := fun hlt => by rw [Array.getElem?_eq_getElem hlt] at hx; cases hx
    omega
  | some o => exact heap_set_ne (p := ⟨b6, 2, none⟩) _ hne hx
theorem two_row {B : Nat} {W : World} (h0 : W.heap[B]? = some (.cells #[.int .i64 11] 3)) (h1 : W.heap[B + 1]? = some (.cells #[.int .i64 10] 3)) (h2 : W.heap[B + 2]? = some (.cells #[.int .i64 10, .int .i64 1, .slice (some ⟨B, 0, none⟩) 1 1, .int .i64 11, .int .i64 1, .slice (some ⟨B + 1, 0, none⟩) 1 1] 35)) {base : Nat} (hb : base ≤ B) :
    ReadsRow (kS.M W base (fun k => k = B ∨ k = B + 1)) 3 W (some ⟨B + 2, 0, none⟩) 2 two := by
  refine ⟨rfl, by decide, fun _ => ⟨_, rfl, fun j p hj => ?_⟩⟩
  match j with
  | 0 =>
    obtain rfl : (⟨10, 1, [11]⟩ : Src) = p := by simpa [two] using hj
    refine ⟨[.int .i64 10, .int .i64 1, .slice (some ⟨B, 0, none⟩) 1 1], rfl, kS_M (s := ⟨10, 1, [11]⟩) (one_row h0 hb (.inl rfl)), fun i u hi => ?_⟩
    match i with
    | 0 => rw [add_plain]; exact cell_of h2 (by simpa using hi)
    | 1 => rw [add_plain]; exact cell_of h2 (by simpa using hi)
    | 2 => rw [add_plain]; exact cell_of h2 (by simpa using hi)
    | (n + 3) => simp at hi
  | 1 =>
    obtain rfl : (⟨11, 1, [10]⟩ : Src) = p := by simpa [two] using hj
    refine ⟨[.int .i64 11, .int .i64 1, .slice (some ⟨B + 1, 0, none⟩) 1 1], rfl, kS_M (s := ⟨11, 1, [10]⟩) (one_row h1 (by omega) (.inr rfl)), fun i u hi => ?_⟩
    match i with
    | 0 => rw [add_plain]; exact cell_of h2 (by simpa using hi)
    | 1 => rw [add_plain]; exact cell_of h2 (by simpa using hi)
    | 2 => rw [add_plain]; exact cell_of h2 (by simpa using hi)
    | (n + 3) => simp at hi
  | (n + 2) => simp [two] at hj
set_option maxHeartbeats 8000000 in
theorem silenced_any (A : Option Addr) (c : Nat) (l : List Src) (id : Int) (w : World) (hr : Kd.C kS w A l.length l) (hl : ∀ s ∈ l, s.frm.length ≤ 1000) (hi : ∀ (i : Nat) (s : Src), l[i]? = some s → s.id = (i : Int)) (hn : l.length ≤ 12) :
    Calls Tryd.prog 17 #[.slice A l.length c, .int .i64 id] w fun e w' => ∃ v, e = .returned v ∧ kS.R 35 w' w.heap.size (fun k => w.heap.size ≤ k) v (silL l id) ∧ Below w.heap.size w w' := by
  have HL := Lib.hid (And.intro hl (And.intro hn hi)); clear hl hn hi
  have hm := max_len hr
  have HR := Lib.hid hr; clear hr
  go_enter Tryd.func17, Tryd.ntmps17
  go_wp2_with fail
  go_loopw [5, 6] (fun lv iv wr => ∃ i : Nat, i ≤ l.length ∧ iv = .int .i64 i ∧ Hid (kS.R 35 wr w.heap.size (fun k => w.heap.size ≤ k) lv ((l.take i).map (silS id)) ∧ Below w.heap.size w wr)) (fun lv iv wr => l.length - (intOf iv).toNat)
  case atStart => exact ⟨0, Nat.zero_le _, rfl, Lib.hid ⟨Kd.R_nil _ _ _ _ _, Below.refl _ _⟩⟩
  case round =>
    obtain ⟨i, hi, rfl, HI⟩ := hrel
    by_cases hlt : i < l.length
    · have hltI : (i : Int) < (l.length : Int) := by omega
      obtain ⟨s, hs⟩ : ∃ s, l[i]? = some s := ⟨l[i], List.getElem?_eq_getElem hlt⟩
      obtain ⟨ad, FA, fc, e, x0, x1, x2, hfc, hCf⟩ := at_S (Kd.C_below HR.out HI.out.2) hs
      cases e
      have hfl := HL.out.1 s (List.mem_of_getElem? hs)
      have HT := Lib.hid (show (l.take (i + 1)).map (silS id) = (l.take i).map (silS id) ++ [silS id s] by rw [take_at hs]; simp)
      have hy := HL.out.2.2 i s hs
      rcases s with ⟨y, kd, fr⟩
      dsimp only at x0 x1 x2 hfc hCf hfl hy
      subst hy
      have hzw := HI.out.2.size
      have hll : ((l.take i).map (silS id)).length ≤ 12 := by have := HL.out.2.1; simp; omega
      obtain ⟨b7, hb7⟩ : ∃ b, wr.heap.size = b := ⟨_, rfl⟩
      have hlst0 := HI.out.1
      have hbw0 := HI.out.2
      generalize hLL : (l.take i).map (silS id) = LL at *
      obtain ⟨LVA, lvc, rfl⟩ := Kd.R_slice hlst0
      have hbA := (Below.refl wr.heap.size wr).alloc (Nat.le_refl _) (.cells #[.int .i64 (i : Int), .int .i64 kd, .slice FA fr.length fc] 35)
      have h7 : (wr.alloc (.cells #[.int .i64 (i : Int), .int .i64 kd, .slice FA fr.length fc] 35)).heap[b7]? = some (.cells #[.int .i64 (i : Int), .int .i64 kd, .slice FA fr.length fc] 35) := heap_new hb7
      have hz7 : (wr.alloc (.cells #[.int .i64 (i : Int), .int .i64 kd, .slice FA fr.length fc] 35)).heap.size = b7 + 1 := by simp [hb7]
      have hlst := Kd.R_mono (Kd.R_below (Kd.R_bound hlst0) hbA) (ok' := fun k => w.heap.size ≤ k ∧ k < b7) (fun k hk => ⟨hk.1, by have := hk.2.2.1; omega⟩)
      have hbw := hbw0.trans (hbA.mono hzw)
      have hbE := (Below.refl (wr.alloc (.cells #[.int .i64 (i : Int), .int .i64 kd, .slice FA fr.length fc] 35)).heap.size (wr.alloc (.cells #[.int .i64 (i : Int), .int .i64 kd, .slice FA fr.length fc] 35))).alloc (Nat.le_refl _) (.cells #[] 3)
      have hE0 : (Kd.int .i64).R 3 ((wr.alloc (.cells #[.int .i64 (i : Int), .int .i64 kd, .slice FA fr.length fc] 35)).alloc (.cells #[] 3)) w.heap.size (fun k => b7 < k) (.slice (some ⟨b7 + 1, 0, none⟩) 0 0) [] := empty_row hz7 (by omega) (by omega)
      have hlo : w.heap.size ≤ b7 := by omega
      have hbE2 := hbw.trans (hbE.mono hbw.size)
      have hC2 := Kd.C_below (Kd.C_below hCf hbA) hbE
      have y2 := pw_cell_below hbE (pw_cell_below hbA x2)
      have hzE : ((wr.alloc (.cells #[.int .i64 (i : Int), .int .i64 kd, .slice FA fr.length fc] 35)).alloc (.cells #[] 3)).heap.size = b7 + 2 := by simp [hb7]
      have hF : ∀ (v1 : Value) (W7 : World), (Kd.int .i64).R 3 W7 w.heap.size (fun k => b7 < k) v1 fr → Below w.heap.size w W7 → ((wr.alloc (.cells #[.int .i64 (i : Int), .int .i64 kd, .slice FA fr.length fc] 35)).alloc (.cells #[] 3)).grownBy W7 (some (b7 + 1)) → W7.heap[b7]? = some (.cells #[.int .i64 (i : Int), .int .i64 kd, .slice FA fr.length fc] 35) ∧ MX w b7 i kd (.slice LVA LL.length lvc) v1 LL fr (W7.setCell ⟨b7, 2, none⟩ v1) := by
        intro v1 W7 h1 h2 h3
        have e7 : W7.heap[b7]? = some (.cells #[.int .i64 (i : Int), .int .i64 kd, .slice FA fr.length fc] 35) := by
          rw [h3.block b7 (by omega) (by simp), hbE.block b7 (by omega)]
          exact h7
        refine ⟨e7, MX.fill h2 (Kd.R_step hlst (fun k hk hl => ?_)) e7 h1 hlo⟩
        rw [h3.block k (by omega) (by simp; omega), hbE.block k (by omega)]
      have HF := Lib.hid hF
      have HBA := Lib.hid hbE2
      have HC2 := Lib.hid (And.intro hC2 (And.intro hE0 hzE))
      have hfz : w.heap.size ≤ ((wr.alloc (.cells #[.int .i64 (i : Int), .int .i64 kd, .slice FA fr.length fc] 35)).alloc (.cells #[] 3)).heap.size := by omega
      have HZ := Lib.hid hfz
      clear hF hbE2 hbE hlst hbA hCf hlst0 hbw0 h7 hzw hz7 hbw hC2 hE0 hzE hfz
      go_wp2_with (at_builtin; go_loud (refine Kd.R_append_rows (Kd.int .i64) (w0 := w) (Rr := fun x cs => cs = [.int .i64 x]) w.heap.size rfl (.tmp 18) (.tmp 23) 26 3 (.int .i64 0) 8 rfl Tryd.underlying26 info3 rfl (by decide) (by decide) _ [] fr FA fr.length fc (fun k => b7 < k) (fun _ => False) rfl rfl HC2.out.2.1 HC2.out.1 (fun _ _ h => h) (fun _ h => h.elim) (fun k hk => by have := HC2.out.2.2; omega) HBA.out HZ.out (by simp only [List.length_nil]; omega) ?_))
      intro v1 w7 h1 h2 h3 h4
      obtain ⟨VA, vc, rfl⟩ := Kd.R_slice h1
      obtain ⟨e7, hMX⟩ := HF.out _ _ h1 h2 h3
      have g2 : w7.cell? ⟨b7, 2, none⟩ = some (.slice FA fr.length fc) := cell_of e7 rfl
      have f2 := frozen_of (o := 2) e7
      obtain ⟨w9, hw9⟩ : ∃ w9, w7.setCell ⟨b7, 2, none⟩ (.slice VA fr.length vc) = w9 := ⟨_, rfl⟩
      rw [hw9] at hMX
      have HM := Lib.hid hMX; clear hMX e7 h1 h2 h3 h4 HF HBA HC2 HZ
      have q0 : w9.cell? ⟨b7, 0, none⟩ = some (.int .i64 (i : Int)) := cell_of HM.out.box rfl
      by_cases hid : (i : Int) = id
      · have hidb : ((i : Int) == id) = true := by simp [hid]
        have HID := Lib.hid (show silS id ⟨i, kd, fr⟩ = ⟨i, kd, [10]⟩ by simp [silS, hid]); clear hid
        have hbb := Below.alloc (Below.refl w9.heap.size w9) (Nat.le_refl _) (.cells #[.int .i64 10] 3)
        have hbox8 := (hbb.block _ HM.out.lt).trans HM.out.box
        have hk10 := heap_new (o := .cells #[.int .i64 10] 3) (W := w9) rfl
        have hfill := MX.fill (HM.out.below.trans (hbb.mono HM.out.below.size)) (Kd.R_below HM.out.lst hbb) hbox8 (one_row (x := 10) hk10 HM.out.below.size HM.out.lt) HM.out.lo
        have g3 := cell_of (o := 2) hbox8 rfl
        have f3 := frozen_of (o := 2) hbox8
        obtain ⟨B9, hB9⟩ : ∃ b, w9.heap.size = b := ⟨_, rfl⟩
        rw [hB9] at hfill
        obtain ⟨w10, hw10⟩ : ∃ w10, (w9.alloc (.cells #[.int .i64 10] 3)).setCell ⟨b7, 2, none⟩ (.slice (some ⟨B9, 0, none⟩) 1 1) = w10 := ⟨_, rfl⟩
        rw [hw10] at hfill
        have HQ := Lib.hid hfill; clear hfill hbb hbox8 hk10 HM
        generalize hLn : LL.length = Ln at *
        have hap := Kd.R_apart' HQ.out.row (Kd.R_typed HQ.out.lst) (fun q hq => by rw [kI_only hq]; decide)
        have hsm : kS.M w10 w.heap.size (fun k => w.heap.size ≤ k ∧ some k ≠ (Value.slice LVA Ln lvc).ownBlock) ⟨i, kd, [10]⟩ [.int .i64 (i : Int), .int .i64 kd, (.slice (some ⟨B9, 0, none⟩) 1 1)] := kS_M (s := ⟨i, kd, [10]⟩) (Kd.R_mono hap (fun k hk => ⟨by have := HQ.out.lo; have := hk.1; omega, hk.2⟩))
        have hz0 := HQ.out.below.size
        have hls := Kd.R_mono HQ.out.lst (ok' := fun k => w.heap.size ≤ k) (fun k hk => hk.1)
        have HX := Lib.hid (And.intro hls hsm); clear hls hsm hap
        have q0b : w10.cell? ⟨b7, 0, none⟩ = some (.int .i64 (i : Int)) := cell_of HQ.out.box rfl
        have q1 : w10.cell? ⟨b7, 1, none⟩ = some (.int .i64 kd) := cell_of HQ.out.box rfl
        have q2 : w10.cell? ⟨b7, 2, none⟩ = some (.slice (some ⟨B9, 0, none⟩) 1 1) := cell_of HQ.out.box rfl
        go_wp2_with (at_builtin; go_loud (refine Kd.R_append kS (w0 := w10) w.heap.size rfl (.tmp 32) (.tmp 34) 24 35 (.agg #[.int .i64 0, .int .i64 0, .slice none 0 0]) 40 rfl Tryd.underlying24 info35 rfl (by decide) (by decide) (.slice LVA Ln lvc) LL ⟨i, kd, [10]⟩ [.int .i64 (i : Int), .int .i64 kd, (.slice (some ⟨B9, 0, none⟩) 1 1)] (fun k => w.heap.size ≤ k) (fun k => w.heap.size ≤ k ∧ some k ≠ (Value.slice LVA Ln lvc).ownBlock) rfl rfl HX.out.2 (fun k h => h) (fun k hk => Nat.le_trans hz0 hk) HX.out.1 (Below.refl _ _) hz0 (by omega) ?_))
        intro v1 w8 h1 h2 h3 h4
        have HW := Lib.hid (And.intro h1 (HQ.out.below.trans h2)); clear h1 h2 h3 h4 q0b q0 q1 q2
        go_wp2_with fail
        go_roundw
        case rel => exact ⟨i + 1, by omega, by go_num, Lib.hid ⟨by rw [HT.out]; rw [HID.out]; exact HW.out.1, HW.out.2⟩⟩
        case measure => exact meas_up1 hlt

      · have hidb : ((i : Int) == id) = false := by simp [hid]
        have HID := Lib.hid (show silS id ⟨i, kd, fr⟩ = ⟨i, kd, fr⟩ by simp [silS, hid]); clear hid
        have HQ := HM
        clear HM
        generalize hLn : LL.length = Ln at *
        have hap := Kd.R_apart' HQ.out.row (Kd.R_typed HQ.out.lst) (fun q hq => by rw [kI_only hq]; decide)
        have hsm : kS.M w9 w.heap.size (fun k => w.heap.size ≤ k ∧ some k ≠ (Value.slice LVA Ln lvc).ownBlock) ⟨i, kd, fr⟩ [.int .i64 (i : Int), .int .i64 kd, (.slice VA fr.length vc)] := kS_M (s := ⟨i, kd, fr⟩) (Kd.R_mono hap (fun k hk => ⟨by have := HQ.out.lo; have := hk.1; omega, hk.2⟩))
        have hz0 := HQ.out.below.size
        have hls := Kd.R_mono HQ.out.lst (ok' := fun k => w.heap.size ≤ k) (fun k hk => hk.1)
        have HX := Lib.hid (And.intro hls hsm); clear hls hsm hap
        have q1 : w9.cell? ⟨b7, 1, none⟩ = some (.int .i64 kd) := cell_of HQ.out.box rfl
        have q2 : w9.cell? ⟨b7, 2, none⟩ = some (.slice VA fr.length vc) := cell_of HQ.out.box rfl
        go_wp2_with (at_builtin; go_loud (refine Kd.R_append kS (w0 := w9) w.heap.size rfl (.tmp 32) (.tmp 34) 24 35 (.agg #[.int .i64 0, .int .i64 0, .slice none 0 0]) 40 rfl Tryd.underlying24 info35 rfl (by decide) (by decide) (.slice LVA Ln lvc) LL ⟨i, kd, fr⟩ [.int .i64 (i : Int), .int .i64 kd, (.slice VA fr.length vc)] (fun k => w.heap.size ≤ k) (fun k => w.heap.size ≤ k ∧ some k ≠ (Value.slice LVA Ln lvc).ownBlock) rfl rfl HX.out.2 (fun k h => h) (fun k hk => Nat.le_trans hz0 hk) HX.out.1 (Below.refl _ _) hz0 (by omega) ?_))
        intro v1 w8 h1 h2 h3 h4
        have HW := Lib.hid (And.intro h1 (HQ.out.below.trans h2)); clear h1 h2 h3 h4 q0 q1 q2
        go_wp2_with fail
        go_roundw
        case rel => exact ⟨i + 1, by omega, by go_num, Lib.hid ⟨by rw [HT.out]; rw [HID.out]; exact HW.out.1, HW.out.2⟩⟩
        case measure => exact meas_up1 hlt

    · obtain rfl : i = l.length := by omega
      have hll : ((l.take l.length).map (silS id)).length ≤ 12 := by have := HL.out.2.1; simp; omega
      have hlst := HI.out.1
      have hzw := HI.out.2.size
      have hbw0 := HI.out.2
      have HT := Lib.hid (show (l.take l.length).map (silS id) = l.map (silS id) by simp)
      generalize hLL : (l.take l.length).map (silS id) = LL at *
      obtain ⟨LVA, lvc, rfl⟩ := Kd.R_slice hlst
      obtain ⟨B, hB⟩ : ∃ b, wr.heap.size = b := ⟨_, rfl⟩
      have b1 := (Below.refl wr.heap.size wr).alloc (Nat.le_refl _) (.cells #[.int .i64 11] 3)
      have b2 := (Below.refl (wr.alloc (.cells #[.int .i64 11] 3)).heap.size (wr.alloc (.cells #[.int .i64 11] 3))).alloc (Nat.le_refl _) (.cells #[.int .i64 10] 3)
      have b3 := (Below.refl ((wr.alloc (.cells #[.int .i64 11] 3)).alloc (.cells #[.int .i64 10] 3)).heap.size ((wr.alloc (.cells #[.int .i64 11] 3)).alloc (.cells #[.int .i64 10] 3))).alloc (Nat.le_refl _) (.cells #[.int .i64 10, .int .i64 1, .slice (some ⟨B, 0, none⟩) 1 1, .int .i64 11, .int .i64 1, .slice (some ⟨B + 1, 0, none⟩) 1 1] 35)
      have z1 : (wr.alloc (.cells #[.int .i64 11] 3)).heap.size = B + 1 := by simp [hB]
      have z2 : ((wr.alloc (.cells #[.int .i64 11] 3)).alloc (.cells #[.int .i64 10] 3)).heap.size = B + 2 := by simp [hB]
      have z3 : (((wr.alloc (.cells #[.int .i64 11] 3)).alloc (.cells #[.int .i64 10] 3)).alloc (.cells #[.int .i64 10, .int .i64 1, .slice (some ⟨B, 0, none⟩) 1 1, .int .i64 11, .int .i64 1, .slice (some ⟨B + 1, 0, none⟩) 1 1] 35)).heap.size = B + 3 := by simp [hB]
      have k0 : (((wr.alloc (.cells #[.int .i64 11] 3)).alloc (.cells #[.int .i64 10] 3)).alloc (.cells #[.int .i64 10, .int .i64 1, .slice (some ⟨B, 0, none⟩) 1 1, .int .i64 11, .int .i64 1, .slice (some ⟨B + 1, 0, none⟩) 1 1] 35)).heap[B]? = some (.cells #[.int .i64 11] 3) := by rw [b3.block B (by omega), b2.block B (by omega)]; exact heap_new hB
      have k1 : (((wr.alloc (.cells #[.int .i64 11] 3)).alloc (.cells #[.int .i64 10] 3)).alloc (.cells #[.int .i64 10, .int .i64 1, .slice (some ⟨B, 0, none⟩) 1 1, .int .i64 11, .int .i64 1, .slice (some ⟨B + 1, 0, none⟩) 1 1] 35)).heap[B + 1]? = some (.cells #[.int .i64 10] 3) := by rw [b3.block (B + 1) (by omega)]; exact heap_new z1
      have k2 : (((wr.alloc (.cells #[.int .i64 11] 3)).alloc (.cells #[.int .i64 10] 3)).alloc (.cells #[.int .i64 10, .int .i64 1, .slice (some ⟨B, 0, none⟩) 1 1, .int .i64 11, .int .i64 1, .slice (some ⟨B + 1, 0, none⟩) 1 1] 35)).heap[B + 2]? = some (.cells #[.int .i64 10, .int .i64 1, .slice (some ⟨B, 0, none⟩) 1 1, .int .i64 11, .int .i64 1, .slice (some ⟨B + 1, 0, none⟩) 1 1] 35) := heap_new z2
      have hrow := two_row k0 k1 k2 (show w.heap.size ≤ B by omega)
      have hown : ∀ k, (Value.slice LVA LL.length lvc).ownBlock = some k → k < B := fun k hk => by have := (Kd.R_bound hlst).1 k hk; omega
      have hls := Kd.R_below (Kd.R_below (Kd.R_below hlst b1) b2) b3
      have hbb := ((hbw0.trans (b1.mono (by omega))).trans (b2.mono (by omega))).trans (b3.mono (by omega))
      have HF := Lib.hid (And.intro hrow (And.intro hls (And.intro hbb hown)))
      clear hrow hls hbb hown b1 b2 b3 k0 k1 k2 hlst hbw0
      have HZ := Lib.hid (And.intro z3 hzw); clear z1 z2 z3 hzw
      generalize hLn : LL.length = Ln at *
      go_wp2_with (at_builtin; go_loud (refine Kd.R_append_rows kS (w0 := w) (Rr := kS.M (((wr.alloc (.cells #[.int .i64 11] 3)).alloc (.cells #[.int .i64 10] 3)).alloc (.cells #[.int .i64 10, .int .i64 1, .slice (some ⟨B, 0, none⟩) 1 1, .int .i64 11, .int .i64 1, .slice (some ⟨B + 1, 0, none⟩) 1 1] 35)) w.heap.size (fun k => k = B ∨ k = B + 1)) w.heap.size rfl (.tmp 36) (.tmp 41) 24 35 (.agg #[.int .i64 0, .int .i64 0, .slice none 0 0]) 40 rfl Tryd.underlying24 info35 rfl (by decide) (by decide) (.slice LVA Ln lvc) LL two (some ⟨B + 2, 0, none⟩) 2 2 (fun k => w.heap.size ≤ k) (fun k => k = B ∨ k = B + 1) rfl rfl HF.out.2.1 HF.out.1 (fun _ _ h => h) (fun k hk => ⟨by have := HZ.out; omega, fun e => by have := HF.out.2.2.2 k e.symm; omega⟩) (fun k hk => by have := HZ.out; omega) HF.out.2.2.1 (by have := HZ.out; omega) (by omega) ?_))
      intro v1 w8 h1 h2 h3 h4
      have HW := Lib.hid (And.intro h1 h2); clear h1 h2 h3 h4
      go_wp2_with fail
      go_ret
      exact ⟨_, rfl, by rw [show silL l id = LL ++ two by rw [silL, HT.out]]; exact HW.out.1, HW.out.2⟩
end Go.Proofs.YticngcjfofcoiaaDoor
