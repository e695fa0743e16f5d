/- The contracts of the reference's cuts and support. -/
import Derived.Test.YticngcjfofcoiaaDoorRb
namespace Go.Proofs.YticngcjfofcoiaaDoor
open Go.RowKit Go.Rg Go.Proofs.YticngcjfofcoiaaDoorW.PrintWords
set_option linter.unusedVariables false
set_option linter.unusedSimpArgs false
set_option maxRecDepth 100000
noncomputable def cutX (l : List Src) (xs : List Int) (X : Nat) : Bool := decide (setOf (rchB (nxL l) 0 (ogL l) X) &&& sdL xs = 0)
def bitsN (s i : Nat) : Bool := s.testBit i
theorem cutX_iff {l : List Src} {xs : List Int} {X s : Nat} : cutX l xs (s ||| X) = true ↔ Flow.Cut (webOf l xs X) (bitsN s) := by
 unfold cutX
 rw [decide_eq_true_eq]
 have bits : ∀ i, (setOf (rchB (nxL l) 0 (ogL l) (s ||| X)) &&& sdL xs).testBit i = true ↔ (i < 12 ∧ Flow.Reach (netOf (nxL l) 0 (ogL l) (s ||| X)) (fun _ => false) i ∧ (s ||| X).testBit i = false) ∧ (sdL xs).testBit i = true := fun i => by
  rw [Nat.testBit_and, Bool.and_eq_true, setOf_bit, Bool.and_eq_true, decide_eq_true_eq, rch_iff]
 have up : ∀ x, Flow.Reach (netOf (nxL l) 0 (ogL l) (s ||| X)) (fun _ => false) x → Flow.Reach (webOf l xs X) (bitsN s) x := fun x h => by
  have off : ∀ i, (s ||| X).testBit i = false → s.testBit i = false ∧ X.testBit i = false := fun i h => by rw [Nat.testBit_or, Bool.or_eq_false_iff] at h; exact h
  induction h with
  |base hi ho hw => exact .base hi ho (off _ hw).2
  |step hx hw hd hy he ih => exact .step ih (off _ hw).2 (off _ hw).1 hy he
 have down : ∀ x, Flow.Reach (webOf l xs X) (bitsN s) x → X.testBit x = false → s.testBit x = false → Flow.Reach (netOf (nxL l) 0 (ogL l) (s ||| X)) (fun _ => false) x := fun x h => by
  have on : ∀ i, X.testBit i = false → s.testBit i = false → (s ||| X).testBit i = false := fun i h1 h2 => by rw [Nat.testBit_or, h1, h2]; rfl
  induction h with
  |base hi ho hw => exact fun h1 h2 => .base hi ho (on _ h1 h2)
  |step hx hw hd hy he ih => exact fun _ _ => .step (ih hw hd) (on _ hw hd) rfl hy he
 constructor
 ·intro h x hx hw hd hs
  have hw : X.testBit x = false := hw
  have hd : s.testBit x = false := hd
  have := (bits x).2 ⟨⟨hx.lt, down x hx hw hd, by rw [Nat.testBit_or, hd, hw]; rfl⟩, hs⟩
  rw [h, Nat.zero_testBit] at this; cases this
 ·intro h
  refine Nat.eq_of_testBit_eq fun i => ?_
  rw [Nat.zero_testBit, ← Bool.not_eq_true, bits]
  rintro ⟨⟨hi, hr, hx⟩, hs⟩
  rw [Nat.testBit_or, Bool.or_eq_false_iff] at hx
  exact h i (up i hr) hx.2 hx.1 hs
theorem cut_said {l : List Src} {xs : List Int} {X : Nat} (hv : validS l = true) : Flow.mc (webOf l xs X) ≤ xs.length := by
 have h1 := Flow.mc_said (web_fit hv xs X)
 have h2 := sd_count xs
 have h3 : Flow.count (webOf l xs X).K (webOf l xs X).said = Flow.count 12 (fun i => (sdL xs).testBit i) := rfl
 omega
theorem size_count (s : Nat) : ((elems s).length : Int) = Flow.count 12 (bitsN s) := Flow.filter_count 12 (bitsN s)
theorem set_of_cut {w : Flow.Web} (hK : w.K = 12) {D : Nat → Bool} (hD : Flow.Cut w D) : ∃ s, s < 4096 ∧ Flow.Cut w (bitsN s) ∧ ((elems s).length : Int) = Flow.count 12 D ∧ ∀ i, i < 12 → s.testBit i = D i := by
 have hb : ∀ i, i < 12 → (setOf D).testBit i = D i := fun i hi => by rw [setOf_bit]; simp [hi]
 refine ⟨setOf D, setOf_lt D, cut_ext (w := w) (D := D) (D' := bitsN (setOf D)) (fun i hi => (hb i (hK ▸ hi)).symm) hD, ?_, hb⟩
 rw [size_count]
 unfold Flow.count
 exact Flow.sum_congr fun i hi => by
  have : bitsN (setOf D) i = D i := hb i hi
  rw [this]
theorem least_is {l : List Src} {xs : List Int} {X L : Nat} (hv : validS l = true) (h1 : Flow.mc (webOf l xs X) ≤ L) (h2 : ∀ s, s < 4096 → cutX l xs (s ||| X) = true → L ≤ (elems s).length) : L = Flow.mc (webOf l xs X) := by
 obtain ⟨D, hD, e⟩ := (Flow.mc_spec (web_fit hv xs X)).some_
 obtain ⟨s, hs, hc, hn, _⟩ := set_of_cut (w := webOf l xs X) rfl hD
 have h3 := h2 s hs (cutX_iff.2 hc)
 have e : Flow.count 12 D = Flow.mc (webOf l xs X) := e
 omega
theorem cut_mc {l : List Src} {xs : List Int} {X s : Nat} (hv : validS l = true) (h : cutX l xs (s ||| X) = true) : Flow.mc (webOf l xs X) ≤ (elems s).length := by
 have h1 := Flow.mc_le (web_fit hv xs X) (cutX_iff.1 h)
 have h2 := size_count s
 have e : Flow.count (webOf l xs X).K (bitsN s) = Flow.count 12 (bitsN s) := rfl
 omega
set_option maxHeartbeats 2000000 in
theorem cuts_any (A : Option Addr) (c : Nat) (l : List Src) (B : Option Addr) (d : Nat) (xs : List Int) (X : Nat) (w : World) (hs : SrcAt A c l w) (hi : IntAt B d xs w) (hg : givenB l xs = true) (hX : X < 4096) : Calls Tryd.prog 53 #[.slice A l.length c, .slice B xs.length d, .int .i64 X] w fun e w' => e = .returned (.bool (cutX l xs X)) ∧ w' = w := by
 have hm := max_len hi.rx
 have HC := Lib.hid (rreached_any A c l X w hs (given_valid hg) hX)
 have HI := Lib.hid hi
 have HG := Lib.hid hg; clear hs hi hg
 go_enter Tryd.func53, Tryd.ntmps53
 go_wp2_with fail
 refine HC.out.mono ?_
 rintro e w0 ⟨rfl, rfl⟩
 have hR := setOf_lt (rchB (nxL l) 0 (ogL l) X)
 have HCX : Hid (cutX l xs X = decide (setOf (rchB (nxL l) 0 (ogL l) X) &&& sdL xs = 0)) := Lib.hid rfl
 generalize setOf (rchB (nxL l) 0 (ogL l) X) = R at hR HCX ⊢
 have HR := Lib.hid hR; clear hR HC
 go_wp2_with fail
 go_loopw [8] (fun iv wr => ∃ i : Nat, i ≤ xs.length ∧ iv = .int .i64 i ∧ Hid (wr = w0 ∧ ∀ y ∈ xs.take i, R.testBit y.toNat = false)) (fun iv wr => xs.length - (intOf iv).toNat)
 case atStart => exact ⟨0, Nat.zero_le _, rfl, Lib.hid ⟨rfl, fun y hy => by simp at hy⟩⟩
 case round =>
  obtain ⟨i, hi, rfl, HJ⟩ := hrel
  have hww : wr = w0 := HJ.out.1
  subst hww
  by_cases hlt : i < xs.length
  ·have hltI : (i : Int) < (xs.length : Int) := by omega
   obtain ⟨y, hy⟩ : ∃ y, xs[i]? = some y := ⟨_, List.getElem?_eq_getElem hlt⟩
   have hyr := valid_rng (given_valid HG.out) (given_asrt HG.out) (List.mem_of_getElem? hy)
   obtain ⟨fd, e, xy⟩ := Kd.at_int HI.out.rx (i : Int) (by omega) hltI
   cases e
   have hrd : rd xs (i : Int) = y := by rw [rd_at hlt]; exact (List.getElem?_eq_some_iff.1 hy).2
   simp only [Int.toNat_natCast] at xy
   rw [hrd] at xy
   obtain ⟨yn, rfl⟩ := Int.eq_ofNat_of_zero_le hyr.1
   have HTK := Lib.hid (take_at hy)
   have HYM := Lib.hid (List.mem_of_getElem? hy)
   have hy64 : yn < 64 := by omega
   clear hrd hy hyr
   go_wp2_with fail
   refine (rhas_any R yn HR.out hy64 _).mono ?_
   rintro e w2 ⟨rfl, rfl⟩
   cases hyb : R.testBit yn with
   |true =>
    have HN := Lib.hid (show cutX l xs X = false by
     rw [HCX.out, decide_eq_false_iff_not]
     intro h
     have h2 : (R &&& sdL xs).testBit yn = true := by rw [Nat.testBit_and, hyb, (sd_bit xs yn).2 ⟨_, HYM.out, by simp⟩]; rfl
     rw [h, Nat.zero_testBit] at h2; cases h2)
    clear hyb
    go_wp2_with fail
    go_ret
    exact ⟨ret_bool HN.out.symm, rfl⟩
   |false =>
    have HN := Lib.hid (show ∀ y ∈ xs.take (i + 1), R.testBit y.toNat = false from fun z hz => by
     rw [HTK.out] at hz
     rcases List.mem_append.1 hz with hz | hz
     ·exact HJ.out.2 z hz
     ·rw [List.mem_singleton] at hz
      rw [hz, Int.toNat_natCast]
      exact hyb)
    clear hyb
    go_wp2_with fail
    go_roundw
    case rel => exact ⟨i + 1, by omega, by go_num, Lib.hid ⟨by first | trivial | rfl, HN.out⟩⟩
    case measure => exact meas_up1 hlt
  ·obtain rfl : i = xs.length := by omega
   have HN := Lib.hid (show cutX l xs X = true by
    rw [HCX.out, decide_eq_true_eq]
    refine Nat.eq_of_testBit_eq fun j => ?_
    rw [Nat.zero_testBit, ← Bool.not_eq_true, Nat.testBit_and, Bool.and_eq_true]
    rintro ⟨h1, h2⟩
    obtain ⟨y, hy, e⟩ := (sd_bit xs j).1 h2
    have h3 := HJ.out.2 y (by rw [List.take_length]; exact hy)
    rw [e, h1] at h3; cases h3)
   go_wp2_with fail
   go_ret
   exact ⟨ret_bool HN.out.symm, by first | trivial | rfl⟩
set_option maxHeartbeats 2000000 in
theorem rsupport_any (A : Option Addr) (c : Nat) (l : List Src) (B : Option Addr) (d : Nat) (xs : List Int) (X : Nat) (w : World) (hs : SrcAt A c l w) (hi : IntAt B d xs w) (hg : givenB l xs = true) (hX : X < 4096) : Calls Tryd.prog 60 #[.slice A l.length c, .slice B xs.length d, .int .i64 X] w fun e w' => e = .returned (.int .i64 (Flow.mc (webOf l xs X) : Nat)) ∧ w' = w := by
 have hm := max_len hi.rx
 have HS := Lib.hid (And.intro hs hi)
 have HG := Lib.hid (And.intro hg hX); clear hs hi hg hX
 have HV := Lib.hid (given_valid HG.out.1)
 go_enter Tryd.func60, Tryd.ntmps60
 go_wp2_with fail
 go_loopw [7, 8] (fun lv sv wr => ∃ (s L : Nat), s ≤ 4096 ∧ sv = .int .i64 s ∧ lv = .int .i64 L ∧ Hid (wr = w ∧ Flow.mc (webOf l xs X) ≤ L ∧ L ≤ xs.length ∧ ∀ t, t < s → cutX l xs (t ||| X) = true → L ≤ (elems t).length)) (fun lv sv wr => 4096 - (intOf sv).toNat)
 case atStart => exact ⟨0, xs.length, by omega, rfl, rfl, Lib.hid ⟨rfl, cut_said HV.out, Nat.le_refl _, fun t ht => by omega⟩⟩
 case round =>
  obtain ⟨s, L, hs, rfl, rfl, HI⟩ := hrel
  have hww : wr = w := HI.out.1
  subst hww
  have hb12 : 12 < 13 := by omega
  have HB12 := Lib.hid (rbit_any 12 hb12 wr); clear hb12
  go_wp2_with fail
  refine HB12.out.mono ?_
  rintro e w0 ⟨rfl, rfl⟩
  have e12 : ((2 ^ 12 : Nat) : Int) = 4096 := rfl
  rw [e12]
  by_cases hlt : s < 4096
  ·have hltI : (s : Int) < 4096 := by omega
   have hel : (elems s).length ≤ 12 := by rw [← size_elems]; exact sizeTo_le s 12
   have hun : s ||| X < 4096 := Nat.or_lt_two_pow (n := 12) hlt HG.out.2
   have HCU := Lib.hid (cuts_any A c l B d xs (s ||| X) w0 HS.out.1 HS.out.2 HG.out.1 hun)
   have HUN := Lib.hid (union_any s X hlt HG.out.2 w0)
   have HSZ := Lib.hid (size_any s hlt w0)
   have HXX := Lib.hid (fun (n : Nat) (e : (elems s).length = n) (h : cutX l xs (s ||| X) = true → L ≤ n) => show ∀ t, t < s + 1 → cutX l xs (t ||| X) = true → L ≤ (elems t).length from fun t ht hc => by
    rcases Nat.lt_or_ge t s with h1 | h1
    ·exact HI.out.2.2.2 t h1 hc
    ·obtain rfl : t = s := by omega
     rw [e]; exact h hc)
   have HMC := Lib.hid (fun (h : cutX l xs (s ||| X) = true) => cut_mc (l := l) (xs := xs) (X := X) (s := s) HV.out h)
   obtain ⟨n, hn⟩ : ∃ n, (elems s).length = n := ⟨_, rfl⟩
   have HN := Lib.hid hn
   rw [hn] at hel HSZ HMC
   clear hun hn
   go_wp2_with fail
   refine HSZ.out.mono ?_
   rintro e w1 ⟨rfl, rfl⟩
   by_cases hnl : n < L
   ·have hd : decide (n < L) = true := decide_eq_true hnl
    have HNL := Lib.hid hnl; clear hnl
    go_wp2_with fail
    refine HUN.out.mono ?_
    rintro e w2 ⟨rfl, rfl⟩
    go_wp2_with fail
    refine HCU.out.mono ?_
    rintro e w3 ⟨rfl, rfl⟩
    cases hc : cutX l xs (s ||| X) with
    |true =>
     have HQ := Lib.hid (show Flow.mc (webOf l xs X) ≤ n ∧ n ≤ xs.length ∧ ∀ t, t < s + 1 → cutX l xs (t ||| X) = true → n ≤ (elems t).length from ⟨HMC.out hc, by have := HNL.out; have := HI.out.2.2.1; omega, fun t ht h => by
      rcases Nat.lt_or_ge t s with h1 | h1
      ·have := HI.out.2.2.2 t h1 h; have := HNL.out; omega
      ·obtain rfl : t = s := by omega
       rw [HN.out]; exact Nat.le_refl _⟩)
     clear hc hd
     go_wp2_with fail
     refine HSZ.out.mono ?_
     rintro e w4 ⟨rfl, rfl⟩
     go_wp2_with fail
     go_roundw
     case rel => exact ⟨s + 1, n, by omega, by go_num, rfl, Lib.hid ⟨by first | trivial | rfl, HQ.out⟩⟩
     case measure => simp only [intOf]; omega
    |false =>
     have HQ := Lib.hid (HXX.out n HN.out (fun h => by rw [hc] at h; cases h)); clear hc hd
     go_wp2_with fail
     go_roundw
     case rel => exact ⟨s + 1, L, by omega, by go_num, rfl, Lib.hid ⟨by first | trivial | rfl, HI.out.2.1, HI.out.2.2.1, HQ.out⟩⟩
     case measure => simp only [intOf]; omega
   ·have hd : decide (n < L) = false := decide_eq_false hnl
    have HQ := Lib.hid (HXX.out n HN.out (fun h => by omega)); clear hnl
    go_wp2_with fail
    go_roundw
    case rel => exact ⟨s + 1, L, by omega, by go_num, rfl, Lib.hid ⟨by first | trivial | rfl, HI.out.2.1, HI.out.2.2.1, HQ.out⟩⟩
    case measure => simp only [intOf]; omega
  ·obtain rfl : s = 4096 := by omega
   have HE := Lib.hid (least_is HV.out HI.out.2.1 HI.out.2.2.2)
   go_wp2_with fail
   go_ret
   exact ⟨ret_int (by rw [← HE.out]), by first | trivial | rfl⟩
end Go.Proofs.YticngcjfofcoiaaDoor
