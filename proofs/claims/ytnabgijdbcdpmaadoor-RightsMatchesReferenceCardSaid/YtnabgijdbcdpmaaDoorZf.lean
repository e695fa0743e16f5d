/- Rights: merged texts (Re Fi Rf Wo Op): lemmas and contracts of functions that the laws reach. -/
import Derived.Test.YtnabgijdbcdpmaaDoorZe
import Derived.Test.YtnabgijdbcdpmaaDoorRows
import Derived.WalkKit
import Derived.ProofKit
import Derived.OpenShut
import Derived.LaidMore
import Derived.ChangeOld
import Derived.Carry
import Derived.Below
import Derived.Stop.Joined
namespace Go.Proofs.YtnabgijdbcdpmaaDoor
open Go.RowKit Go.Rg Go.Proofs.YtnabgijdbcdpmaaDoor.PRightsMatchesReference Go.Proofs.YtnabgijdbcdpmaaDoorW.PrintWords
set_option linter.unusedVariables false
set_option linter.unusedSimpArgs false

def offP (wt : Wt) (k : Int) (c : Cl) : Bool := decide (c.f1 = 1) && (decide (c.f0 = k) && applies c wt)
theorem offered_eq' (l : List Cl) (wt : Wt) (k : Int) : offered l wt k = l.any (offP wt k) := rfl
theorem any_succ {α : Type} {f : α → Bool} {l : List α} {k : Nat} (h : k < l.length) (h1 : (l.take k).any f = false) (h2 : f l[k] = false) : (l.take (k + 1)).any f = false := by
  rw [List.take_succ_eq_append_getElem h, List.any_append, h1]; simp [h2]
theorem any_yes {α : Type} {f : α → Bool} {l : List α} {k : Nat} (h : k < l.length) (h2 : f l[k] = true) : l.any f = true := List.any_eq_true.2 ⟨_, List.getElem_mem h, h2⟩

set_option maxRecDepth 100000 in
set_option maxHeartbeats 4000000 in
theorem roffered_any (A : Option Addr) (c : Nat) (l : List Cl) (wt : Wt) (WA : Option Addr) (wn : Nat) (q : Int) (w : World) (hr : Kd.C k40 w A l.length l) (hw : (Kd.slice 3 (Kd.int .i64)).C w WA wt.needs.length wt.needs) :
    Calls Tryd.prog 58 #[.slice A l.length c, wtv wt WA wn, .int .i64 q] w fun e w' => e = .returned (.bool (offered l wt q)) ∧ Below w.heap.size w w' := by
  rw [offered_eq']
  have hm := max_len hr
  have hb := (Below.refl w.heap.size w).alloc (Nat.le_refl _) (.cells (wtc wt WA wn) 29)
  have hk0 := heap_new (o := .cells (wtc wt WA wn) 29) (W := w) rfl
  have hz0 : w.heap.size + 1 ≤ (w.alloc (.cells (wtc wt WA wn) 29)).heap.size := by simp
  have hap : ∀ (c : Cl) (W : World), Below w.heap.size w W → Calls Tryd.prog 18 #[clv c, wtv wt WA wn] W fun e w' => e = .returned (.bool (applies c wt)) ∧ Below W.heap.size W w' := fun c W hW => rapplies_any c wt WA wn W (Kd.C_below hw hW)
  unfold wtv clv at hap
  unfold wtv
  unfold wtc at hb hk0 hz0
  have HB := Lib.hid (And.intro hb (And.intro hk0 (And.intro hz0 hr))); clear hb hk0 hz0 hr hw
  have HAP := Lib.hid hap; clear hap
  go_enter Tryd.func58, Tryd.ntmps58
  go_wp2_with fail
  generalize w.alloc (.cells #[.int .i64 wt.te, .int .i64 wt.cl, .int .i64 wt.at_, .int .i64 wt.us, .slice WA wt.needs.length wn] 29) = w1 at *
  go_loopw [7] (fun iv wr => ∃ k : Nat, iv = .int .i64 k ∧ k ≤ l.length ∧ Hid ((l.take k).any (offP wt q) = false ∧ Below (w.heap.size + 1) w1 wr)) (fun iv wr => l.length - (intOf iv).toNat)
  case atStart => exact ⟨0, rfl, Nat.zero_le _, Lib.hid ⟨by simp, Below.refl _ _⟩⟩
  case round =>
    obtain ⟨k, rfl, hk, HI⟩ := hrel
    have HBW := Lib.hid (HB.out.1.trans (HI.out.2.mono (by omega)))
    by_cases hlt : k < l.length
    · have hltI : (k : Int) < (l.length : Int) := by omega
      obtain ⟨ad, e, x0, x1, x2, x3, x4, x5, x6, x7⟩ := at_T40 (Kd.C_below HB.out.2.2.2 HBW.out) (k : Int) (by omega) hltI
      cases e
      simp only [Int.toNat_natCast] at x0 x1 x2 x3 x4 x5 x6 x7
      have hrd : rd_T40 l (k : Int) = l[k] := by unfold rd_T40; simp [hlt]
      rw [hrd] at x0 x1 x2 x3 x4 x5 x6 x7
      clear hrd
      have hyes := any_yes (f := offP wt q) hlt
      have hno := any_succ (f := offP wt q) hlt HI.out.1
      have hk0 := (HI.out.2.block w.heap.size (by omega)).trans HB.out.2.1
      have HYN := Lib.hid (And.intro hyes hno); clear hyes hno
      have g0 := cell_ext (cell_of (o := 0) hk0 rfl)
      have g1 := cell_ext (cell_of (o := 1) hk0 rfl)
      have g2 := cell_ext (cell_of (o := 2) hk0 rfl)
      have g3 := cell_ext (cell_of (o := 3) hk0 rfl)
      have g4 := cell_ext (cell_of (o := 4) hk0 rfl)
      have HA1 := Lib.hid (HAP.out l[k])
      generalize l[k] = X at *
      obtain ⟨f0, f1, f2, f3, f4, f5, f6, f7⟩ := X
      simp only at x0 x1 x2 x3 x4 x5 x6 x7 HA1
      have hv : offP wt q ⟨f0, f1, f2, f3, f4, f5, f6, f7⟩ = (decide (f1 = 1) && (decide (f0 = q) && applies ⟨f0, f1, f2, f3, f4, f5, f6, f7⟩ wt)) := rfl
      rw [hv] at HYN
      clear hv hk0
      generalize applies ⟨f0, f1, f2, f3, f4, f5, f6, f7⟩ wt = a at *
      have e0 := cell_ext x0
      have e1 := cell_ext x1
      have e2 := cell_ext x2
      have e3 := cell_ext x3
      have e4 := cell_ext x4
      have e5 := cell_ext x5
      have e6 := cell_ext x6
      have e7 := cell_ext x7
      have q1 : (f1 == 1) = decide (f1 = 1) := beqD _ _
      have q2 : (f0 == q) = decide (f0 = q) := beqD _ _
      clear x0 x1 x2 x3 x4 x5 x6 x7
      generalize decide (f1 = 1) = b1 at *
      generalize decide (f0 = q) = b2 at *
      have HBX : Hid (∀ x : Ext wr, Below w.heap.size w x.val) := Lib.hid fun x => HBW.out.trans (x.2.below (fun _ _ h => h) HBW.out.size)
      have hzz : w.heap.size + 1 ≤ wr.heap.size := Nat.le_trans HB.out.2.2.1 HI.out.2.size
      rcases ways3 b1 b2 a with rfl | ⟨rfl, rfl⟩ | ⟨rfl, rfl, rfl⟩ | ⟨rfl, rfl, rfl⟩
      all_goals
        go_wp2_with fail
        refine region_ext (by kernel_rfl) (by kernel_rfl) ?_
        repeat (go_big_quiet_step ((go_at_call 18; with_reducible exact call_ext (HA1.out _ (HBX.out _)))))
        refine wpQuiet_nil ?_
        rintro W' ⟨X, rfl⟩
        go_wp2_with fail
      · go_roundw
        case rel => exact ⟨k + 1, by go_num, by omega, Lib.hid ⟨HYN.out.2 (by simp), HI.out.2.trans (X.2.below (fun _ _ h => h) hzz)⟩⟩
        case measure => simp [intOf]; omega
      · go_roundw
        case rel => exact ⟨k + 1, by go_num, by omega, Lib.hid ⟨HYN.out.2 (by simp), HI.out.2.trans (X.2.below (fun _ _ h => h) hzz)⟩⟩
        case measure => simp [intOf]; omega
      · go_roundw
        case rel => exact ⟨k + 1, by go_num, by omega, Lib.hid ⟨HYN.out.2 (by simp), HI.out.2.trans (X.2.below (fun _ _ h => h) hzz)⟩⟩
        case measure => simp [intOf]; omega
      · go_ret
        exact ⟨ret_bool (HYN.out.1 (by simp)).symm, HBX.out X⟩
    · obtain rfl : k = l.length := by omega
      have HF := Lib.hid (show l.any (offP wt q) = false by have := HI.out.1; rwa [List.take_length] at this)
      go_wp2_with fail
      go_ret
      exact ⟨ret_bool HF.out.symm, HBW.out⟩

theorem isPk_skip (off : Int → Bool) : ∀ (k : Nat) (ns : List (List Int)) (acc t : List Int) (h : k < ns.length) (h' : k < t.length), isPk off (ns.drop k) (acc ++ t.take k) (t.drop k) = (hasI ns[k] t[k] && (!hasI (acc ++ t.take k) t[k] && (off t[k] && isPk off (ns.drop (k + 1)) (acc ++ t.take (k + 1)) (t.drop (k + 1))))) := by
  intro k ns acc t h h'
  rw [List.drop_eq_getElem_cons h, List.drop_eq_getElem_cons h', List.take_succ_eq_append_getElem h', ← List.append_assoc]
  rfl
theorem C_take {w : World} {A : Option Addr} {xs : List Int} {k : Nat} (h : (Kd.int .i64).C w A xs.length xs) (hk : k ≤ xs.length) : (Kd.int .i64).C w A k (xs.take k) := by
  refine ⟨by rw [List.length_take]; omega, by have := h.2.1; omega, fun h0 => ?_⟩
  obtain ⟨ad, e, hc⟩ := h.2.2 (by omega)
  refine ⟨ad, e, fun j p hj => ?_⟩
  rw [List.getElem?_take] at hj
  split at hj
  · exact hc j p hj
  · cases hj

set_option maxRecDepth 100000 in
set_option maxHeartbeats 4000000 in
theorem isPkg_any (A : Option Addr) (c : Nat) (l : List Cl) (wt : Wt) (WA : Option Addr) (wn : Nat) (PA : Option Addr) (pc : Nat) (p : List Int) (w : World) (hr : Kd.C k40 w A l.length l) (hw : (Kd.slice 3 (Kd.int .i64)).C w WA wt.needs.length wt.needs) (hp : (Kd.int .i64).C w PA p.length p) (hpc : p.length ≤ pc) :
    Calls Tryd.prog 30 #[.slice A l.length c, wtv wt WA wn, .slice PA p.length pc] w fun e w' => e = .returned (.bool (isPk (offered l wt) wt.needs [] p)) ∧ Below w.heap.size w w' := by
  have hm := max_len hw
  have hm2 := max_len hp
  have hb := (Below.refl w.heap.size w).alloc (Nat.le_refl _) (.cells (wtc wt WA wn) 29)
  have hk0 := heap_new (o := .cells (wtc wt WA wn) 29) (W := w) rfl
  have hz0 : w.heap.size + 1 ≤ (w.alloc (.cells (wtc wt WA wn) 29)).heap.size := by simp
  have hof : ∀ (q : Int) (W : World), Below w.heap.size w W → Calls Tryd.prog 58 #[.slice A l.length c, wtv wt WA wn, .int .i64 q] W fun e w' => e = .returned (.bool (offered l wt q)) ∧ Below W.heap.size W w' := fun q W hW => roffered_any A c l wt WA wn q W (Kd.C_below hr hW) (Kd.C_below hw hW)
  unfold wtv at hof
  unfold wtv
  unfold wtc at hb hk0 hz0
  have HB := Lib.hid (And.intro hb (And.intro hk0 (And.intro hz0 (And.intro hw hp)))); clear hb hk0 hz0 hr hw hp
  have HOF := Lib.hid hof; clear hof
  by_cases hne : p.length = wt.needs.length
  case neg =>
    have hF : isPk (offered l wt) wt.needs [] p = false := by
      rw [Bool.eq_false_iff]; intro h; exact hne (isPk_len h)
    rw [hF]
    have hneI : ((p.length : Int) == (wt.needs.length : Int)) = false := by simp; omega
    have hneJ : ((p.length : Int) != (wt.needs.length : Int)) = true := by simp; omega
    go_enter Tryd.func30, Tryd.ntmps30
    go_wp2_with fail
    go_ret
    exact ⟨rfl, HB.out.1⟩
  have hne0 : ((p.length : Int) != (wt.needs.length : Int)) = false := by simp; omega
  go_enter Tryd.func30, Tryd.ntmps30
  go_wp2_with fail
  generalize w.alloc (.cells #[.int .i64 wt.te, .int .i64 wt.cl, .int .i64 wt.at_, .int .i64 wt.us, .slice WA wt.needs.length wn] 29) = w1 at *
  have HE : Hid (p.length = wt.needs.length) := Lib.hid hne
  clear hne hne0
  go_loopw [7] (fun iv wr => ∃ k : Nat, iv = .int .i64 k ∧ k ≤ p.length ∧ Hid (isPk (offered l wt) wt.needs [] p = isPk (offered l wt) (wt.needs.drop k) (p.take k) (p.drop k) ∧ Below (w.heap.size + 1) w1 wr)) (fun iv wr => p.length - (intOf iv).toNat)
  case atStart => exact ⟨0, rfl, Nat.zero_le _, Lib.hid ⟨by simp, Below.refl _ _⟩⟩
  case round =>
    obtain ⟨k, rfl, hk, HI⟩ := hrel
    have HBW := Lib.hid (HB.out.1.trans (HI.out.2.mono (by omega)))
    by_cases hlt : k < p.length
    · have hlt2 : k < wt.needs.length := by have := HE.out; omega
      have hltI : (k : Int) < (p.length : Int) := by omega
      have hltJ : (k : Int) < (wt.needs.length : Int) := by omega
      obtain ⟨pd, e, hx⟩ := Kd.at_int (Kd.C_below HB.out.2.2.2.2 HBW.out) (k : Int) (by omega) hltI
      cases e
      obtain ⟨nd, A0, c0, e, hn, hc0, hC0⟩ := at_L2 (Kd.C_below HB.out.2.2.2.1 HBW.out) (k : Int) (by omega) hltJ
      cases e
      simp only [Int.toNat_natCast] at hx hn
      rw [rd_get hlt] at hx
      have hrd : rd_L2 wt.needs (k : Int) = wt.needs[k] := by unfold rd_L2; simp [hlt2]
      rw [hrd] at hn hc0 hC0
      clear hrd
      have hsk := isPk_skip (offered l wt) k wt.needs [] p hlt2 hlt
      rw [List.nil_append, ← HI.out.1, List.nil_append] at hsk
      have hCT := C_take (Kd.C_below HB.out.2.2.2.2 HBW.out) hk
      have hk0 := (HI.out.2.block w.heap.size (by omega)).trans HB.out.2.1
      have g0 := cell_ext (cell_of (o := 0) hk0 rfl)
      have g1 := cell_ext (cell_of (o := 1) hk0 rfl)
      have g2 := cell_ext (cell_of (o := 2) hk0 rfl)
      have g3 := cell_ext (cell_of (o := 3) hk0 rfl)
      have g4 := cell_ext (cell_of (o := 4) hk0 rfl)
      have hmn := max_len hC0
      have HBX : Hid (∀ x : Ext wr, Below w.heap.size w x.val) := Lib.hid fun x => HBW.out.trans (x.2.below (fun _ _ h => h) HBW.out.size)
      have hH1 : ∀ x : Ext wr, _ := fun x => has_any A0 c0 wt.needs[k] p[k] x.val (Kd.C_below hC0 (x.2.below (fun _ _ h => h) (Nat.le_refl _)))
      have hlk : (p.take k).length = k := by rw [List.length_take]; omega
      have hH2 : ∀ x : Ext wr, Calls Tryd.prog 31 #[.slice (some pd) k pc, .int .i64 p[k]] x.val fun e w' => e = .returned (.bool (hasI (p.take k) p[k])) ∧ Below x.val.heap.size x.val w' := fun x => by
        have := has_any (some pd) pc (p.take k) p[k] x.val (by rw [hlk]; exact Kd.C_below hCT (x.2.below (fun _ _ h => h) (Nat.le_refl _)))
        rwa [hlk] at this
      have hH3 : ∀ x : Ext wr, _ := fun x => HOF.out p[k] x.val (HBX.out x)
      have HSK := Lib.hid hsk
      generalize p[k] = q at *
      generalize wt.needs[k] = nd at *
      generalize hasI nd q = b1 at *
      generalize hasI (p.take k) q = b2 at *
      generalize offered l wt q = b3 at *
      have H1 := Lib.hid hH1; clear hH1
      have H2 := Lib.hid hH2; clear hH2
      have H3 := Lib.hid hH3; clear hH3 hsk hlk hCT hC0 hk0
      have exX := cell_ext hx
      have enX := cell_ext hn
      clear hx hn
      have hzz : w.heap.size + 1 ≤ wr.heap.size := Nat.le_trans HB.out.2.2.1 HI.out.2.size
      have hkc : k ≤ pc := by omega
      cases b1
      case' true => cases b2
      case' true.false => cases b3
      all_goals
        go_wp2_with fail
        refine region_ext (by kernel_rfl) (by kernel_rfl) ?_
        repeat (go_big_quiet_step (first | (go_at_call 31; with_reducible exact call_ext (H1.out _)) | (go_at_call 31; with_reducible exact call_ext (H2.out _)) | (go_at_call 58; with_reducible exact call_ext (H3.out _))))
        refine wpQuiet_nil ?_
        rintro W' ⟨X, rfl⟩
        go_wp2_with fail
        first
          | (go_ret; exact ⟨ret_bool (by rw [HSK.out]; rfl), HBX.out X⟩)
          | skip
      go_roundw
      case rel => exact ⟨k + 1, by go_num, by omega, Lib.hid ⟨by rw [HSK.out]; rfl, HI.out.2.trans (X.2.below (fun _ _ h => h) hzz)⟩⟩
      case measure => simp [intOf]; omega
    · obtain rfl : k = p.length := by omega
      have HF := Lib.hid (show isPk (offered l wt) wt.needs [] p = true by rw [HI.out.1, List.drop_eq_nil_of_le (by have := HE.out; omega), List.drop_eq_nil_of_le (Nat.le_refl _)]; rfl)
      go_wp2_with fail
      go_ret
      exact ⟨ret_bool HF.out.symm, HBW.out⟩
end Go.Proofs.YtnabgijdbcdpmaaDoor

namespace Go.Proofs.YtnabgijdbcdpmaaDoor
open Go.RowKit Go.Rg Go.Proofs.YtnabgijdbcdpmaaDoor.PRightsMatchesReference Go.Proofs.YtnabgijdbcdpmaaDoorW.PrintWords
set_option linter.unusedVariables false
set_option linter.unusedSimpArgs false

theorem pickL_any (a n : Int) (h1 : -9223372036854775808 ≤ a) (h2 : a ≤ 9223372036854775807) (hn : 0 < n) (w : World) :
    Calls Tryd.prog 34 #[.int .i64 a, .int .i64 n] w fun e w' => e = .returned (.int .i64 (pickV a n)) ∧ Below w.heap.size w w' := by
  have hn0 : n ≠ 0 := by omega
  unfold pickV
  by_cases h : a < 0
  · rw [if_pos h]
    go_enter Tryd.func34, Tryd.ntmps34
    go_wp2
    go_ret
    exact ⟨ret_int (by first | rfl | exact (Int.neg_tmod _ _).symm | exact (Int.tmod_eq_emod_of_nonneg (by omega)).symm), Below.refl _ _⟩
  · rw [if_neg h]
    go_enter Tryd.func34, Tryd.ntmps34
    go_wp2
    go_ret
    exact ⟨ret_int (by first | rfl | exact (Int.neg_tmod _ _).symm | exact (Int.tmod_eq_emod_of_nonneg (by omega)).symm), Below.refl _ _⟩

/-- A choice: one number of each list, where none is empty. -/
def pickOk (ns : List (List Int)) (out : List Int) : Prop := out.length ≤ ns.length ∧ ((∀ n ∈ ns, n ≠ []) → out.length = ns.length ∧ ∀ i (h : i < out.length) (h' : i < ns.length), out[i] ∈ ns[i])
theorem pickOk.snoc {ns : List (List Int)} {out : List Int} {n : List Int} {x : Int} (h : pickOk ns out) (hx : x ∈ n) : pickOk (ns ++ [n]) (out ++ [x]) := by
  refine ⟨by simp; exact h.1, fun hn => ?_⟩
  obtain ⟨h1, h2⟩ := h.2 (fun m hm => hn m (List.mem_append_left _ hm))
  refine ⟨by simp [h1], fun i hi hi' => ?_⟩
  by_cases hl : i < out.length
  · rw [List.getElem_append_left hl, List.getElem_append_left (by omega)]
    exact h2 i hl (by omega)
  · have e : i = out.length := by simp at hi; omega
    subst e
    have h3 : (ns ++ [n])[out.length] = n := by
      rw [List.getElem_append_right (by omega)]
      simp [h1]
    rw [h3]
    simpa using hx
theorem pickOk.skip {ns : List (List Int)} {out : List Int} (h : pickOk ns out) : pickOk (ns ++ [[]]) out := by
  refine ⟨by simp; have := h.1; omega, fun hn => ?_⟩
  exact absurd rfl (hn [] (by simp))

set_option maxRecDepth 100000 in
set_option maxHeartbeats 4000000 in
theorem first_any (wt : Wt) (WA : Option Addr) (wn : Nat) (A : Option Addr) (c : Nat) (xs : List Int) (w : World) (hw : (Kd.slice 3 (Kd.int .i64)).C w WA wt.needs.length wt.needs) (hr : (Kd.int .i64).C w A xs.length xs) (hg : ∀ x ∈ xs, rng x) (hn : wt.needs.length ≤ 5) :
    Calls Tryd.prog 23 #[wtv wt WA wn, .slice A xs.length c] w fun e w' => ∃ v out, e = .returned v ∧ (Kd.int .i64).R 3 w' w.heap.size (fun k => w.heap.size ≤ k) v out ∧ pickOk wt.needs out ∧ Below w.heap.size w w' := by
  have hm := max_len hr
  have hb := (Below.refl w.heap.size w).alloc (Nat.le_refl _) (.cells (wtc wt WA wn) 29)
  have hk0 := heap_new (o := .cells (wtc wt WA wn) 29) (W := w) rfl
  have hz0 : w.heap.size + 1 ≤ (w.alloc (.cells (wtc wt WA wn) 29)).heap.size := by simp
  have HR := Lib.hid (And.intro hr (And.intro hg hw)); clear hr hg hw
  have HB := Lib.hid (And.intro hb (And.intro hk0 hz0)); clear hb hk0 hz0
  unfold wtv
  unfold wtc at HB
  go_enter Tryd.func23, Tryd.ntmps23
  go_wp2_with fail
  generalize w.alloc (.cells #[.int .i64 wt.te, .int .i64 wt.cl, .int .i64 wt.at_, .int .i64 wt.us, .slice WA wt.needs.length wn] 29) = w1 at *
  go_loopw [5, 6] (fun ov iv wr => ∃ k : Nat, iv = .int .i64 k ∧ k ≤ wt.needs.length ∧ ∃ out : List Int, Hid ((Kd.int .i64).R 3 wr (w.heap.size + 1) (fun k => w.heap.size + 1 ≤ k) ov out ∧ pickOk (wt.needs.take k) out ∧ Below (w.heap.size + 1) w1 wr)) (fun ov iv wr => wt.needs.length - (intOf iv).toNat)
  case atStart => exact ⟨0, rfl, Nat.zero_le _, [], Lib.hid ⟨Kd.R_nil _ _ _ _ _, ⟨by simp, fun _ => ⟨by simp, fun i h => by simp at h⟩⟩, Below.refl _ _⟩⟩
  case round =>
    obtain ⟨k, rfl, hk, out, HI⟩ := hrel
    have HBW := Lib.hid (HB.out.1.trans (HI.out.2.2.mono (by omega)))
    have hk0 := (HI.out.2.2.block w.heap.size (by omega)).trans HB.out.2.1
    have d3 : wr.cell? ⟨w.heap.size, 4, none⟩ = some (.slice WA wt.needs.length wn) := cell_of hk0 rfl
    by_cases hlt : k < wt.needs.length
    · have hltI : (k : Int) < (wt.needs.length : Int) := by omega
      obtain ⟨ad, A0, c0, e, hx, hc0, hC0⟩ := at_L2 (Kd.C_below HR.out.2.2 HBW.out) (k : Int) (by omega) hltI
      cases e
      simp only [Int.toNat_natCast] at hx
      have hrd : rd_L2 wt.needs (k : Int) = wt.needs[k] := by unfold rd_L2; simp [hlt]
      rw [hrd] at hx hc0 hC0
      clear hrd
      have htk : wt.needs.take (k + 1) = wt.needs.take k ++ [wt.needs[k]] := List.take_succ_eq_append_getElem hlt
      have hmn := max_len hC0
      have HTK := Lib.hid htk; clear htk
      generalize wt.needs[k] = nd at *
      cases nd with
      | nil =>
        have HP := Lib.hid (show pickOk (wt.needs.take (k + 1)) out by rw [HTK.out]; exact HI.out.2.1.skip)
        by_cases hx2 : (k : Int) < (xs.length : Int)
        · obtain ⟨bd, e, hy⟩ := Kd.at_int (Kd.C_below HR.out.1 HBW.out) (k : Int) (by omega) hx2
          cases e
          simp only [Int.toNat_natCast] at hy
          go_wp2_with fail
          go_roundw
          case rel => exact ⟨k + 1, by go_num, by omega, out, Lib.hid ⟨HI.out.1, HP.out, HI.out.2.2⟩⟩
          case measure => simp [intOf]; omega
        · go_wp2_with fail
          go_roundw
          case rel => exact ⟨k + 1, by go_num, by omega, out, Lib.hid ⟨HI.out.1, HP.out, HI.out.2.2⟩⟩
          case measure => simp [intOf]; omega
      | cons y0 nd0 =>
        generalize hnd : y0 :: nd0 = nd at *
        have hnl : (0 : Int) < (nd.length : Int) := by rw [← hnd]; simp
        clear hnd
        have dX := cell_ext d3
        have eX := cell_ext hx
        by_cases hx2 : (k : Int) < (xs.length : Int)
        · obtain ⟨bd, e, hy⟩ := Kd.at_int (Kd.C_below HR.out.1 HBW.out) (k : Int) (by omega) hx2
          cases e
          simp only [Int.toNat_natCast] at hy
          have hg : rng (rd xs (k : Int)) := by rw [rd_get (show k < xs.length by omega)]; exact HR.out.2.1 _ (List.getElem_mem _)
          generalize rd xs (k : Int) = q at *
          obtain ⟨hr0, hr1⟩ := pickV_bd (a := q) (n := (nd.length : Int)) hnl
          have HPK : Hid (∀ W, Calls Tryd.prog 34 #[.int .i64 (q), .int .i64 (nd.length : Int)] W fun e w' => e = .returned (.int .i64 (pickV (q) nd.length)) ∧ Below W.heap.size W w') := Lib.hid fun W => pickL_any _ _ (by first | omega | exact hg.1) (by first | omega | exact hg.2) hnl W
          generalize pickV (q) (nd.length : Int) = r at *
          obtain ⟨bd, e, hz⟩ := Kd.at_int hC0 r hr0 hr1
          cases e
          have HP := Lib.hid (show pickOk (wt.needs.take (k + 1)) (out ++ [rd nd r]) by
            rw [HTK.out]
            exact HI.out.2.1.snoc (by obtain ⟨m, rfl⟩ := Int.eq_ofNat_of_zero_le hr0; rw [rd_get (show m < nd.length by omega)]; exact List.getElem_mem _))
          generalize rd nd r = y at *
          have eZ := cell_ext hz
          go_wp2_with fail
          refine region_late [0] [1, 2, 3, 4, 5, 6, 7, 8, 9, 10, 11, 12, 13, 14, 15] [16, 17, 18] (by kernel_rfl) (by kernel_rfl) (fun c a d v w h => by obtain ⟨_, _, h, _⟩ := h.2; cases h) ?_
          simp only [pick_cons, pick_nil, nthO_succ, nthO_zero]
          repeat (go_big_quiet_step (fail))
          refine wpQuiet_nil ?_
          repeat (go_big_quiet_step ((go_at_call 34; with_reducible exact call_ext (HPK.out _))))
          refine wpQuiet_nil ?_
          rintro W' ⟨X, rfl⟩
          have HRX := Lib.hid (Kd.R_below HI.out.1 (X.2.below (fun _ _ h => h) (Nat.le_refl _)))
          have HBX := Lib.hid (HI.out.2.2.trans (X.2.below (fun _ _ h => h) (by have := HI.out.2.2.size; have := HB.out.2.2; omega)))
          have hzX : w.heap.size + 1 ≤ X.val.heap.size := by have := X.2.size; have := HI.out.2.2.size; have := HB.out.2.2; omega
          have hA := Kd.R_below HRX.out ((Below.refl X.val.heap.size X.val).alloc (Nat.le_refl _) (.cells #[.int .i64 y] 3))
          have hRow := introw (xs := [y]) (by simp) (heap_new (o := .cells #[.int .i64 y] 3) (W := X.val) rfl)
          have hBA := HBX.out.alloc (by omega) (.cells #[.int .i64 y] 3)
          have hzA : w.heap.size + 1 ≤ (X.val.alloc (.cells #[.int .i64 y] 3)).heap.size := by simp; omega
          have HOX := Lib.hid (And.intro hA (And.intro hRow (And.intro hBA hzA))); clear hA hRow hBA hzA
          have hlo : out.length ≤ 5 := by have := HI.out.2.1.1; rw [List.length_take] at this; omega
          go_wp2_with (at_builtin; go_loud (refine Kd.R_append_rows (Kd.int .i64) (w0 := w1) (Rr := fun x cs => cs = [.int .i64 x]) (w.heap.size + 1) rfl (.tmp 31) (.tmp 47) 23 3 (.int .i64 0) 8 rfl Tryd.underlying23 info3 rfl (by decide) (by decide) _ out [y] _ 1 1 (fun k => w.heap.size + 1 ≤ k) (fun _ => False) rfl rfl HOX.out.1 HOX.out.2.1 (fun _ _ h => h) (fun _ h => h.elim) (fun k hk => Nat.le_trans HOX.out.2.2.2 hk) HOX.out.2.2.1 HOX.out.2.2.2 (by omega) ?_; intro v1 w7 h1 h2 h3 h4))
          have HJ := Lib.hid (And.intro h1 h2); clear h1 h2 h3 h4
          go_wp2_with fail
          go_roundw
          case rel => exact ⟨k + 1, by go_num, by omega, _, Lib.hid ⟨HJ.out.1, HP.out, HJ.out.2⟩⟩
          case measure => simp [intOf]; omega
        · skip
          obtain ⟨hr0, hr1⟩ := pickV_bd (a := (k : Int)) (n := (nd.length : Int)) hnl
          have HPK : Hid (∀ W, Calls Tryd.prog 34 #[.int .i64 ((k : Int)), .int .i64 (nd.length : Int)] W fun e w' => e = .returned (.int .i64 (pickV ((k : Int)) nd.length)) ∧ Below W.heap.size W w') := Lib.hid fun W => pickL_any _ _ (by first | omega | exact hg.1) (by first | omega | exact hg.2) hnl W
          generalize pickV ((k : Int)) (nd.length : Int) = r at *
          obtain ⟨bd, e, hz⟩ := Kd.at_int hC0 r hr0 hr1
          cases e
          have HP := Lib.hid (show pickOk (wt.needs.take (k + 1)) (out ++ [rd nd r]) by
            rw [HTK.out]
            exact HI.out.2.1.snoc (by obtain ⟨m, rfl⟩ := Int.eq_ofNat_of_zero_le hr0; rw [rd_get (show m < nd.length by omega)]; exact List.getElem_mem _))
          generalize rd nd r = y at *
          have eZ := cell_ext hz
          go_wp2_with fail
          refine region_late [0] [1, 2, 3, 4, 5, 6, 7, 8, 9, 10, 11, 12, 13, 14, 15] [16, 17, 18] (by kernel_rfl) (by kernel_rfl) (fun c a d v w h => by obtain ⟨_, _, h, _⟩ := h.2; cases h) ?_
          simp only [pick_cons, pick_nil, nthO_succ, nthO_zero]
          repeat (go_big_quiet_step (fail))
          refine wpQuiet_nil ?_
          repeat (go_big_quiet_step ((go_at_call 34; with_reducible exact call_ext (HPK.out _))))
          refine wpQuiet_nil ?_
          rintro W' ⟨X, rfl⟩
          have HRX := Lib.hid (Kd.R_below HI.out.1 (X.2.below (fun _ _ h => h) (Nat.le_refl _)))
          have HBX := Lib.hid (HI.out.2.2.trans (X.2.below (fun _ _ h => h) (by have := HI.out.2.2.size; have := HB.out.2.2; omega)))
          have hzX : w.heap.size + 1 ≤ X.val.heap.size := by have := X.2.size; have := HI.out.2.2.size; have := HB.out.2.2; omega
          have hA := Kd.R_below HRX.out ((Below.refl X.val.heap.size X.val).alloc (Nat.le_refl _) (.cells #[.int .i64 y] 3))
          have hRow := introw (xs := [y]) (by simp) (heap_new (o := .cells #[.int .i64 y] 3) (W := X.val) rfl)
          have hBA := HBX.out.alloc (by omega) (.cells #[.int .i64 y] 3)
          have hzA : w.heap.size + 1 ≤ (X.val.alloc (.cells #[.int .i64 y] 3)).heap.size := by simp; omega
          have HOX := Lib.hid (And.intro hA (And.intro hRow (And.intro hBA hzA))); clear hA hRow hBA hzA
          have hlo : out.length ≤ 5 := by have := HI.out.2.1.1; rw [List.length_take] at this; omega
          go_wp2_with (at_builtin; go_loud (refine Kd.R_append_rows (Kd.int .i64) (w0 := w1) (Rr := fun x cs => cs = [.int .i64 x]) (w.heap.size + 1) rfl (.tmp 31) (.tmp 47) 23 3 (.int .i64 0) 8 rfl Tryd.underlying23 info3 rfl (by decide) (by decide) _ out [y] _ 1 1 (fun k => w.heap.size + 1 ≤ k) (fun _ => False) rfl rfl HOX.out.1 HOX.out.2.1 (fun _ _ h => h) (fun _ h => h.elim) (fun k hk => Nat.le_trans HOX.out.2.2.2 hk) HOX.out.2.2.1 HOX.out.2.2.2 (by omega) ?_; intro v1 w7 h1 h2 h3 h4))
          have HJ := Lib.hid (And.intro h1 h2); clear h1 h2 h3 h4
          go_wp2_with fail
          go_roundw
          case rel => exact ⟨k + 1, by go_num, by omega, _, Lib.hid ⟨HJ.out.1, HP.out, HJ.out.2⟩⟩
          case measure => simp [intOf]; omega
    · obtain rfl : k = wt.needs.length := by omega
      have HF := Lib.hid (show pickOk wt.needs out by have := HI.out.2.1; rwa [List.take_length] at this)
      go_wp2_with fail
      go_ret
      exact ⟨_, out, rfl, Kd.R_lower (Kd.R_mono HI.out.1 (fun k hk => Nat.le_of_succ_le hk)) (Nat.le_succ _), HF.out, HBW.out⟩
end Go.Proofs.YtnabgijdbcdpmaaDoor

namespace Go.Proofs.YtnabgijdbcdpmaaDoor
open Go.RowKit Go.Rg Go.Proofs.YtnabgijdbcdpmaaDoor.PRightsMatchesReference Go.Proofs.YtnabgijdbcdpmaaDoorW.PrintWords
set_option linter.unusedVariables false
set_option linter.unusedSimpArgs false

/-- What the laws hold: the clauses, the uses, the want in its box. -/
structure LX (w : World) (A : Option Addr) (c : Nat) (l : List Cl) (UA : Option Addr) (uc : Nat) (u : List Int) (wt : Wt) (WA : Option Addr) (wn : Nat) (WB : Nat) (W : World) : Prop where
  below : Below w.heap.size w W
  args : Args W A c l UA uc u wt WA wn
  box : W.heap[WB]? = some (.cells (wtc wt WA wn) 29 (0, 0))
theorem LX.next {w W W' : World} {A : Option Addr} {c : Nat} {l : List Cl} {UA : Option Addr} {uc : Nat} {u : List Int} {wt : Wt} {WA : Option Addr} {wn WB : Nat} (h : LX w A c l UA uc u wt WA wn WB W) (hb : Below W.heap.size W W') : LX w A c l UA uc u wt WA wn WB W' :=
  ⟨h.below.trans (hb.mono h.below.size), h.args.next hb, (hb.block WB (Array.getElem?_eq_some_iff.1 h.box).1).trans h.box⟩
theorem LX.c0 {w W : World} {A : Option Addr} {c : Nat} {l : List Cl} {UA : Option Addr} {uc : Nat} {u : List Int} {wt : Wt} {WA : Option Addr} {wn WB : Nat} (h : LX w A c l UA uc u wt WA wn WB W) : W.cell? ⟨WB, 0, none⟩ = some (.int .i64 wt.te) := cell_of (o := 0) h.box rfl
theorem LX.c1 {w W : World} {A : Option Addr} {c : Nat} {l : List Cl} {UA : Option Addr} {uc : Nat} {u : List Int} {wt : Wt} {WA : Option Addr} {wn WB : Nat} (h : LX w A c l UA uc u wt WA wn WB W) : W.cell? ⟨WB, 1, none⟩ = some (.int .i64 wt.cl) := cell_of (o := 1) h.box rfl
theorem LX.c2 {w W : World} {A : Option Addr} {c : Nat} {l : List Cl} {UA : Option Addr} {uc : Nat} {u : List Int} {wt : Wt} {WA : Option Addr} {wn WB : Nat} (h : LX w A c l UA uc u wt WA wn WB W) : W.cell? ⟨WB, 2, none⟩ = some (.int .i64 wt.at_) := cell_of (o := 2) h.box rfl
theorem LX.c3 {w W : World} {A : Option Addr} {c : Nat} {l : List Cl} {UA : Option Addr} {uc : Nat} {u : List Int} {wt : Wt} {WA : Option Addr} {wn WB : Nat} (h : LX w A c l UA uc u wt WA wn WB W) : W.cell? ⟨WB, 3, none⟩ = some (.int .i64 wt.us) := cell_of (o := 3) h.box rfl
theorem LX.c4 {w W : World} {A : Option Addr} {c : Nat} {l : List Cl} {UA : Option Addr} {uc : Nat} {u : List Int} {wt : Wt} {WA : Option Addr} {wn WB : Nat} (h : LX w A c l UA uc u wt WA wn WB W) : W.cell? ⟨WB, 4, none⟩ = some (.slice WA wt.needs.length wn) := cell_of (o := 4) h.box rfl
end Go.Proofs.YtnabgijdbcdpmaaDoor

namespace Go.Proofs.YtnabgijdbcdpmaaDoor
open Go.RowKit Go.Rg Go.Proofs.YtnabgijdbcdpmaaDoor.PRightsMatchesReference Go.Proofs.YtnabgijdbcdpmaaDoorW.PrintWords
set_option linter.unusedVariables false
set_option linter.unusedSimpArgs false

theorem add_plain' (g o j : Nat) : (⟨g, o, none⟩ : Addr).add j = ⟨g, o + j, none⟩ := by unfold Addr.add; split <;> simp_all
theorem C_dropI {w : World} {ad : Addr} {xs : List Int} (h : (Kd.int .i64).C w (some ad) xs.length xs) (m : Nat) (h0 : 0 < m) (hm : m ≤ xs.length) : (Kd.int .i64).C w (some ⟨ad.block, ad.off + m, none⟩) (xs.length - m) (xs.drop m) := by
  refine ⟨by rw [List.length_drop], by have := h.2.1; omega, fun hp => ⟨_, rfl, fun j p hj => ?_⟩⟩
  obtain ⟨ad', e, hc⟩ := h.2.2 (by omega)
  cases e
  rw [List.getElem?_drop] at hj
  obtain ⟨cs, hl, hR, hcell⟩ := hc (m + j) p hj
  refine ⟨cs, hl, hR, fun i u hi => ?_⟩
  have := hcell i u hi
  have hsz : (Kd.int .i64).sz = 1 := rfl
  have hi0 : i = 0 := by
    have := (List.getElem?_eq_some_iff.1 hi).1
    rw [hl, hsz] at this
    omega
  subst hi0
  rw [hsz] at this ⊢
  have e1 : ad.add ((m + j) * 1 + 0) = ⟨ad.block, ad.off + (m + j), none⟩ := by unfold Addr.add; rw [if_neg (by omega)]; simp
  have e2 : (⟨ad.block, ad.off + m, none⟩ : Addr).add (j * 1 + 0) = ⟨ad.block, ad.off + (m + j), none⟩ := by
    rw [add_plain']
    congr 1
    omega
  rw [e2, ← e1]
  exact this

set_option maxRecDepth 10000 in
theorem without_any (ad : Addr) (c : Nat) (xs : List Int) (i : Nat) (w : World) (hr : (Kd.int .i64).C w (some ad) xs.length xs) (hc : xs.length ≤ c) (hi : i < xs.length) (hl : xs.length ≤ 12) :
    Calls Tryd.prog 33 #[.slice (some ad) xs.length c, .int .i64 i] w fun e w' => ∃ v, e = .returned v ∧ (Kd.int .i64).R 3 w' w.heap.size (fun k => w.heap.size ≤ k) v (wout xs i) ∧ Below w.heap.size w w' := by
  have hi0 : (i : Int) < (xs.length : Int) := by omega
  have hic : (i : Int) ≤ (c : Int) := by omega
  have hw1 : wrap64 ((i : Int) + 1) = (i : Int) + 1 := by unfold wrap64; omega
  have hi1 : (i : Int) + 1 ≤ (xs.length : Int) := by omega
  have hcc : i + 1 ≤ c := by omega
  go_enter Tryd.func33, Tryd.ntmps33
  go_wp2_with fail
  refine region_late [1, 2, 3, 5, 6, 7, 8] [] [0, 4, 9, 10] (by kernel_rfl) (by kernel_rfl) (fun c a d v w h => by obtain ⟨_, h, _⟩ := h.2; cases h) ?_
  simp only [pick_cons, pick_nil, nthO_succ, nthO_zero]
  repeat (go_big_quiet_step (fail))
  refine wpQuiet_nil ?_
  refine wpQuiet_nil ?_
  rintro W' ⟨X, rfl⟩
  have hz : w.heap.size ≤ (X.val.alloc (.cells #[] 3)).heap.size := by have := X.2.size; simp; omega
  have hbX : Below w.heap.size w X.val := X.2.below (fun _ _ h => h) (Nat.le_refl _)
  have hB := hbX.alloc hbX.size (.cells #[] 3)
  have hE : (Kd.int .i64).R 3 (X.val.alloc (.cells #[] 3)) w.heap.size (fun k => w.heap.size ≤ k) (.slice (some ⟨X.val.heap.size, 0, none⟩) 0 0) [] := Kd.R_of_own (own_lit X.val w.heap.size 3 .i64 [] hbX.size (by simp)) (fun k hk => by have := X.2.size; simp [Value.ownBlock] at hk; omega)
  have hC1 := C_take (Kd.C_below hr hB) (Nat.le_of_lt hi)
  have hC2 : (Kd.int .i64).C w (if c = i + 1 then some ad else some ⟨ad.block, ad.off + (i + 1), none⟩) (xs.length - (i + 1)) (xs.drop (i + 1)) := by
    split
    · exact ⟨by rw [List.length_drop], by have := hr.2.1; omega, fun h => absurd h (by omega)⟩
    · exact C_dropI hr (i + 1) (by omega) (by omega)
  have HH := Lib.hid (And.intro hE (And.intro hC1 (And.intro hB hz))); clear hE hC1 hB hz
  have HC2 := Lib.hid hC2; clear hC2 hr
  have hl1 : (xs.take i).length = i := by rw [List.length_take]; omega
  have HL := Lib.hid (And.intro hl1 (And.intro hl hc)); clear hl1
  go_wp2_with (first
    | (at_builtin; refine Kd.R_append_rows (Kd.int .i64) (w0 := w) (Rr := fun x cs => cs = [.int .i64 x]) w.heap.size rfl (.tmp 5) (.tmp 8) 23 3 (.int .i64 0) 8 rfl Tryd.underlying23 info3 rfl (by decide) (by decide) _ [] (xs.take i) (some ad) i c (fun k => w.heap.size ≤ k) (fun _ => False) rfl rfl HH.out.1 HH.out.2.1 (fun _ _ h => h) (fun _ h => h.elim) (fun k hk => Nat.le_trans HH.out.2.2.2 hk) HH.out.2.2.1 HH.out.2.2.2 (by simp only [List.length_nil]; omega) ?_; intro v1 w7 h1 h2 h3 h4; rw [List.nil_append] at h1; have HJ := Lib.hid (And.intro h1 (And.intro h2 (Kd.C_below HC2.out h2))); clear h1 h2 h3 h4 HH)
    | (at_builtin; refine Kd.R_append_rows (Kd.int .i64) (w0 := w) (Rr := fun x cs => cs = [.int .i64 x]) w.heap.size rfl (.tmp 9) (.tmp 13) 23 3 (.int .i64 0) 8 rfl Tryd.underlying23 info3 rfl (by decide) (by decide) _ (xs.take i) (xs.drop (i + 1)) (if c = i + 1 then some ad else some ⟨ad.block, ad.off + (i + 1), none⟩) (xs.length - (i + 1)) _ (fun k => w.heap.size ≤ k) (fun _ => False) rfl rfl HJ.out.1 HJ.out.2.2 (fun _ _ h => h) (fun _ h => h.elim) (fun k hk => Nat.le_trans HJ.out.2.1.size hk) HJ.out.2.1 HJ.out.2.1.size (by rw [HL.out.1]; omega) ?_; intro v2 w8 h1 h2 h3 h4; have HK := Lib.hid (And.intro h1 h2); clear h1 h2 h3 h4))
  all_goals
    go_ret
    exact ⟨_, rfl, HK.out.1, HK.out.2⟩
end Go.Proofs.YtnabgijdbcdpmaaDoor

namespace Go.Proofs.YtnabgijdbcdpmaaDoor
open Go.ChangeShapes Go.WideShapes Go.ChangeAt Go.RowKit Go.Proofs.YtnabgijdbcdpmaaDoorW.PrintWords
set_option linter.unusedVariables false
set_option linter.unusedSimpArgs false

def laid1 : List (String × DataW Unit) := [("newswire/rights.kinds", Rows.laid_newswire_rights_kinds)]
theorem own : ownKnob Tryd.prog.godebug = none := by kernel_rfl
theorem laidOut : laidOutB Tryd.prog = true := by kernel_rfl
theorem gKinds : Tryd.prog.globalNamed "newswire/rights.kinds" = some 0 := by kernel_rfl
theorem tKinds : (Tryd.prog.globals[0]?).map (·.type) = some 86 := by kernel_rfl
theorem cells85 : Tryd.prog.cellsOf 85 = 2 := by kernel_rfl
theorem cells86 : Tryd.prog.cellsOf 86 = 10 := by kernel_rfl
theorem cells64 : Tryd.prog.cellsOf 64 = 1 := by kernel_rfl
theorem cells79 : Tryd.prog.cellsOf 79 = 1 := by kernel_rfl
theorem cells57 : Tryd.prog.cellsOf 57 = 5 := by kernel_rfl
theorem cells3 : Tryd.prog.cellsOf 3 = 1 := by kernel_rfl
theorem door_met (os : Os) (args : Array Value) : laidMetH Tryd.prog laid1 ((World.doorLaid Tryd.prog 600 os).forCall (fun _ _ => 0) ⟨#[], args, []⟩).memory :=
  laidMetH_of_parts3 (fuel := 8) (laidMet_of_run' 8 (by kernel_rfl) (by kernel_rfl)) (by kernel_rfl) (by kernel_rfl)
theorem nilf_of_trod {w : World} {base : Nat} {sp : Nat → Bool} {fuel : Nat} {t : TypeId} {ps rs : Array TypeId} {va : Bool} {v : Value} {q : List MemPlace}
    (ht : Tryd.prog.underlying t = some (.func ps rs va)) (h : DataW.trod (funcToken Tryd.prog) Tryd.prog w base sp true fuel t [v] = some (.nil, q)) : v = .nilFunc := by
  cases fuel with
  | zero => simp [DataW.trod] at h
  | succ n => cases v <;> simp [DataW.trod, ht] at h <;> rfl
theorem of_laid {W : World} (h : laidMetH Tryd.prog laid1 W) : Kinds W := by
  obtain ⟨g, t, cs, fuel, p, hg, ht, hv, hd⟩ := h.funcs (List.mem_singleton.2 rfl)
  obtain rfl := Option.some.inj (gKinds.symm.trans hg)
  obtain rfl := Option.some.inj (tKinds.symm.trans ht)
  obtain ⟨xs, n, rfl, hx, hcl, hxl, hel⟩ := DataW.trod_array Tryd.underlying86 hd
  rw [cells86] at hcl
  obtain ⟨l⟩ := cs
  match l, hcl, hel with
  | [v0, v1, v2, v3, v4, v5, v6, v7, v8, v9], _, hel =>
    match xs, hxl, hx, hel with
    | [y0, y1, y2, y3, y4], _, hx, hel =>
      have hx1 := (Prod.mk.inj hx).1
      have one : ∀ (a b : Value) (y : DataW (List UInt8) × List MemPlace) (m : Nat), DataW.trod (funcToken Tryd.prog) Tryd.prog W 0 (fun _ => true) true m 85 [a, b] = some y → ∃ da db pa pb k, y.1 = .agg [da, db] ∧ DataW.trod (funcToken Tryd.prog) Tryd.prog W 0 (fun _ => true) true k 64 [a] = some (da, pa) ∧ DataW.trod (funcToken Tryd.prog) Tryd.prog W 0 (fun _ => true) true k 79 [b] = some (db, pb) := by
        intro a b y m h
        obtain ⟨xs, n, _, rfl, _, hlen, hf⟩ := DataW.trod_struct Tryd.underlying85 h
        match xs, hlen, hf with
        | [z0, z1], _, hf =>
          have h0 := hf 0 _ rfl
          have h1 := hf 1 _ rfl
          erw [cells64] at h0
          erw [cells79] at h1
          exact ⟨z0.1, z1.1, z0.2, z1.2, n, rfl, h0, h1⟩
      have g0 := hel 0 (by decide)
      erw [cells85] at g0
      obtain ⟨a0, b0, p0, q0, k0, r0, s0, t0⟩ := one v0 v1 y0 n g0
      have g1 := hel 1 (by decide)
      erw [cells85] at g1
      obtain ⟨a1, b1, p1, q1, k1, r1, s1, t1⟩ := one v2 v3 y1 n g1
      have g2 := hel 2 (by decide)
      erw [cells85] at g2
      obtain ⟨a2, b2, p2, q2, k2, r2, s2, t2⟩ := one v4 v5 y2 n g2
      have g3 := hel 3 (by decide)
      erw [cells85] at g3
      obtain ⟨a3, b3, p3, q3, k3, r3, s3, t3⟩ := one v6 v7 y3 n g3
      have g4 := hel 4 (by decide)
      erw [cells85] at g4
      obtain ⟨a4, b4, p4, q4, k4, r4, s4, t4⟩ := one v8 v9 y4 n g4
      rw [List.map_cons, List.map_cons, List.map_cons, List.map_cons, List.map_cons, List.map_nil, r0, r1, r2, r3, r4] at hx1
      have hd1 := DataW.agg.inj hx1
      injection hd1 with z0 hd1
      injection hd1 with z1 hd1
      injection hd1 with z2 hd1
      injection hd1 with z3 hd1
      injection hd1 with z4 hd1
      have y0 := DataW.agg.inj z0
      have y1 := DataW.agg.inj z1
      have y2 := DataW.agg.inj z2
      have y3 := DataW.agg.inj z3
      have y4 := DataW.agg.inj z4
      injection y0 with e0 y0
      injection y0 with f0 y0
      injection y1 with e1 y1
      injection y1 with f1 y1
      injection y2 with e2 y2
      injection y2 with f2 y2
      injection y3 with e3 y3
      injection y3 with f3 y3
      injection y4 with e4 y4
      injection y4 with f4 y4
      rw [← e0] at s0
      rw [← f0] at t0
      rw [← e1] at s1
      rw [← f1] at t1
      rw [← e2] at s2
      rw [← f2] at t2
      rw [← e3] at s3
      rw [← f3] at t3
      rw [← e4] at s4
      rw [← f4] at t4
      obtain rfl := nilf_of_trod Tryd.underlying64 s0
      obtain rfl := nilf_of_trod Tryd.underlying79 t0
      obtain rfl := func_of_trod (f0 := 96) Tryd.underlying64 (by kernel_rfl) s1
      obtain rfl := func_of_trod (f0 := 97) Tryd.underlying79 (by kernel_rfl) t1
      obtain rfl := func_of_trod (f0 := 96) Tryd.underlying64 (by kernel_rfl) s2
      obtain rfl := func_of_trod (f0 := 98) Tryd.underlying79 (by kernel_rfl) t2
      obtain rfl := func_of_trod (f0 := 99) Tryd.underlying64 (by kernel_rfl) s3
      obtain rfl := func_of_trod (f0 := 100) Tryd.underlying79 (by kernel_rfl) t3
      obtain rfl := func_of_trod (f0 := 101) Tryd.underlying64 (by kernel_rfl) s4
      obtain rfl := func_of_trod (f0 := 102) Tryd.underlying79 (by kernel_rfl) t4
      unfold World.var? at hv
      rw [gKinds, Option.bind_some] at hv
      split at hv
      · rename_i cs' t' fz' hh
        cases hv
        exact ⟨⟨t', fz'⟩, hh⟩
      · cases hv

theorem lit_rng {a : Int} (h : (Lit.int .i64 a).wf = true) : rng a := by
  have h2 := h
  simp [Lit.wf, show IntKind.i64.min = -9223372036854775808 from rfl, show IntKind.i64.max = 9223372036854775807 from rfl] at h2
  unfold rng
  omega
/-- A row of numbers. -/
theorem open_row23 {H : Type} {enc : TypeId × Value → H} {W : World} {base : Nat} {sp : Nat → Bool} {held : Bool} {r : Reach} {b0 : Nat} {v : Value} {d : DataW H} {p : List MemPlace} (hv : Value.okWide Tryd.prog W r b0 23 v) (h : DataW.Trod enc Tryd.prog W base sp held 23 v d p) :
    ∃ A c xs, v = .slice A (xs : List Int).length c ∧ xs.length ≤ c ∧ (Kd.int .i64).C W A xs.length xs ∧ ∀ x ∈ xs, rng x := by
  obtain ⟨A, len, cap, rfl⟩ := okWide_slice Tryd.underlying23 hv
  obtain ⟨fuel, hf⟩ := h
  rcases open_ints Tryd.underlying23 Tryd.underlying3 cells3 hf with ⟨hcs, _⟩ | ⟨x, l, c, zs, hcs, _, hl, hm, hz, _, hcell, hwz⟩
  · simp [Value.cells] at hcs
    obtain ⟨rfl, rfl, rfl⟩ := hcs
    exact ⟨none, 0, [], rfl, Nat.le_refl _, ⟨rfl, by decide, fun h => absurd h (Nat.lt_irrefl _)⟩, fun x hx => by cases hx⟩
  · simp [Value.cells] at hcs
    obtain ⟨rfl, rfl, rfl⟩ := hcs
    have hlz : (zs.take len).length = len := by
      rw [List.length_take, hz]
      split <;> omega
    refine ⟨some x, cap, zs.take len, by rw [hlz], by omega, ⟨rfl, by rw [hlz]; unfold maxLen at hm; omega, fun _ => ⟨x, rfl, fun j q hj => ?_⟩⟩, fun y hy => lit_rng (hwz y (List.mem_of_mem_take hy))⟩
    refine ⟨[.int .i64 q], rfl, rfl, fun i u hi => ?_⟩
    have hjl : j < zs.length := by
      have := (List.getElem?_eq_some_iff.1 hj).1
      rw [List.length_take] at this
      omega
    have h1 := hcell j hjl
    have hq : zs.getD j 0 = q := by
      rw [List.getElem?_take] at hj
      split at hj
      · rw [List.getD_eq_getElem?_getD, hj]; rfl
      · cases hj
    rw [hq] at h1
    cases i with
    | zero =>
      simp only [List.getElem?_cons_zero, Option.some.injEq] at hi
      subst hi
      have hsz : (Kd.int .i64).sz = 1 := rfl
      rw [hsz, Nat.mul_one, Nat.add_zero]
      exact h1
    | succ i => simp at hi
/-- Rows of five numbers. -/
theorem open_row22 {H : Type} {enc : TypeId × Value → H} {W : World} {base : Nat} {sp : Nat → Bool} {held : Bool} {r : Reach} {b0 : Nat} {v : Value} {d : DataW H} {p : List MemPlace} (hv : Value.okWide Tryd.prog W r b0 22 v) (h : DataW.Trod enc Tryd.prog W base sp held 22 v d p) :
    ∃ A n c, v = .slice A n c ∧ n ≤ c ∧ X5 W A n := by
  obtain ⟨A, len, cap, rfl⟩ := okWide_slice Tryd.underlying22 hv
  obtain ⟨fuel, hf⟩ := h
  rcases DataW.trod_slice Tryd.underlying22 hf with ⟨hcs, _⟩ | ⟨a, l, c, elems, rest, n, _, hcs, _, _, hl, hm, hlen, hel, _, _⟩
  · simp [Value.cells] at hcs
    obtain ⟨rfl, rfl, rfl⟩ := hcs
    exact ⟨none, 0, 0, rfl, Nat.le_refl _, by decide, fun h => absurd h (Nat.lt_irrefl _)⟩
  · simp [Value.cells] at hcs
    obtain ⟨rfl, rfl, rfl⟩ := hcs
    refine ⟨some a, len, cap, rfl, hl, by unfold maxLen at hm; omega, fun _ => ⟨a, rfl, fun i hi => ?_⟩⟩
    have h1 := hel i hi
    rw [cells57, List.getElem?_eq_getElem (by omega), Option.bind_eq_some_iff] at h1
    obtain ⟨cs, hcs, ht⟩ := h1
    obtain ⟨_, hcl, hcc⟩ := World.cells?_some hcs
    obtain ⟨ys, m, _, _, _, hyl, hye⟩ := DataW.trod_array Tryd.underlying57 ht
    match cs, hcl, hcc, hye with
    | [c0, c1, c2, c3, c4], _, hcc, hye =>
      have one : ∀ (j : Nat) (u : Value), j < 5 → [c0, c1, c2, c3, c4][j]? = some u → DataW.trod enc Tryd.prog W base sp held m 3 [u] = ys[j]? → ∃ x, u = .int .i64 x ∧ rng x := by
        intro j u hj hu ht
        rw [List.getElem?_eq_getElem (by omega)] at ht
        obtain ⟨x, e, _, hw⟩ := DataW.trod_int Tryd.underlying3 ht
        simp at e
        exact ⟨x, e, lit_rng hw⟩
      have spot : (a.add (i * 5)).spot = none := World.cell?_spot (hcc 0 (by decide))
      have plain : ∀ j, (a.add (i * 5)).add j = ⟨(a.add (i * 5)).block, (a.add (i * 5)).off + j, none⟩ := fun j => by
        generalize a.add (i * 5) = b at *
        obtain ⟨b1, b2, b3⟩ := b
        simp only at spot
        subst spot
        unfold Addr.add
        split <;> simp_all
      obtain ⟨x0, rfl, g0⟩ := one 0 c0 (by decide) rfl (by have g := hye 0 (by decide); erw [cells3] at g; exact g)
      obtain ⟨x1, rfl, g1⟩ := one 1 c1 (by decide) rfl (by have g := hye 1 (by decide); erw [cells3] at g; exact g)
      obtain ⟨x2, rfl, g2⟩ := one 2 c2 (by decide) rfl (by have g := hye 2 (by decide); erw [cells3] at g; exact g)
      obtain ⟨x3, rfl, g3⟩ := one 3 c3 (by decide) rfl (by have g := hye 3 (by decide); erw [cells3] at g; exact g)
      obtain ⟨x4, rfl, g4⟩ := one 4 c4 (by decide) rfl (by have g := hye 4 (by decide); erw [cells3] at g; exact g)
      refine ⟨⟨x0, g0.1, g0.2, by simpa [Addr.add] using hcc 0 (by decide)⟩, fun j hj => ?_⟩
      have hj4 : j = 0 ∨ j = 1 ∨ j = 2 ∨ j = 3 := by omega
      rcases hj4 with rfl | rfl | rfl | rfl
      · exact ⟨x1, g1.1, g1.2, by rw [← plain]; exact hcc 1 (by decide)⟩
      · exact ⟨x2, g2.1, g2.2, by rw [← plain]; exact hcc 2 (by decide)⟩
      · exact ⟨x3, g3.1, g3.2, by rw [← plain]; exact hcc 3 (by decide)⟩
      · exact ⟨x4, g4.1, g4.2, by rw [← plain]; exact hcc 4 (by decide)⟩
end Go.Proofs.YtnabgijdbcdpmaaDoor
