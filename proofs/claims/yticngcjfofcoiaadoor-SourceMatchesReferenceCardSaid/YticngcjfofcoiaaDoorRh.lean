/- The contract of the reference's first. -/
import Derived.Test.YticngcjfofcoiaaDoorZh
namespace Go.Proofs.YticngcjfofcoiaaDoor
open Go.RowKit Go.Rg Go.Proofs.YticngcjfofcoiaaDoorW.PrintWords
set_option linter.unusedVariables false
set_option linter.unusedSimpArgs false
set_option maxRecDepth 100000
theorem pTo_bd (p : List Nat) (s : Nat) : ∀ k, k ≤ 12 → pTo p s k ≤ k * 12
 |0, _ => Nat.zero_le _
 |k + 1, h => by
  have := pTo_bd p s k (by omega)
  unfold pTo
  split <;> omega
theorem wTo_bd {ps : List (List Nat)} (s : Nat) (h : ∀ p ∈ ps, p.length ≤ 12) : ∀ i, i ≤ ps.length → wTo ps s i ≤ i * 144
 |0, _ => Nat.zero_le _
 |i + 1, hi => by
  have h1 := wTo_bd s h i (by omega)
  have h2 := pTo_bd (ps.getD i []) s (ps.getD i []).length (h _ (by simp [List.getD, show i < ps.length by omega]))
  have h3 := h (ps.getD i []) (by simp [List.getD, show i < ps.length by omega])
  unfold wTo
  omega
def elTo (s k : Nat) : List Nat := (List.range k).filter fun i => s.testBit i
theorem elTo_succ (s k : Nat) : elTo s (k + 1) = elTo s k ++ if s.testBit k = true then [k] else [] := by
 unfold elTo
 rw [List.range_succ, List.filter_append, List.filter_cons]
 split <;> simp_all
theorem elTo_len (s k : Nat) : (elTo s k).length ≤ k := Nat.le_trans (List.length_filter_le ..) (by simp)
def Best (l : List Src) (xs : List Int) (X : Nat) (ps : List (List Nat)) (s : Nat) (sum : Int) (out : List Nat) : Prop :=
 (sum = -1 ∧ out = [] ∧ ∀ t, t < s → ¬ Looked l xs X ps.length t) ∨ ∃ b, b < s ∧ Looked l xs X ps.length b ∧ sum = wTo ps b ps.length ∧ out = elems b ∧ ∀ t, t < s → Looked l xs X ps.length t → wTo ps b ps.length ≤ wTo ps t ps.length
theorem Best.skip {l : List Src} {xs : List Int} {X : Nat} {ps : List (List Nat)} {s : Nat} {sum : Int} {out : List Nat} (h : Best l xs X ps s sum out) (hn : Looked l xs X ps.length s → ¬ sum < 0 ∧ ¬ (wTo ps s ps.length : Int) < sum) : Best l xs X ps (s + 1) sum out := by
 rcases h with ⟨h1, h2, h3⟩ | ⟨b, h1, h2, h3, h4, h5⟩
 ·refine .inl ⟨h1, h2, fun t ht hl => ?_⟩
  rcases Nat.lt_or_ge t s with h | h
  ·exact h3 t h hl
  ·obtain rfl : t = s := by omega
   have := (hn hl).1
   omega
 ·refine .inr ⟨b, by omega, h2, h3, h4, fun t ht hl => ?_⟩
  rcases Nat.lt_or_ge t s with h | h
  ·exact h5 t h hl
  ·obtain rfl : t = s := by omega
   have := (hn hl).2
   omega
theorem Best.take {l : List Src} {xs : List Int} {X : Nat} {ps : List (List Nat)} {s : Nat} {sum : Int} {out : List Nat} (h : Best l xs X ps s sum out) (hl : Looked l xs X ps.length s) (hc : sum < 0 ∨ (wTo ps s ps.length : Int) < sum) : Best l xs X ps (s + 1) (wTo ps s ps.length) (elems s) := by
 refine .inr ⟨s, by omega, hl, rfl, rfl, fun t ht hlt => ?_⟩
 rcases Nat.lt_or_ge t s with h1 | h1
 ·rcases h with ⟨h2, h3, h4⟩ | ⟨b, h2, h3, h4, h5, h6⟩
  ·exact absurd hlt (h4 t h1)
  ·have := h6 t h1 hlt
   omega
 ·obtain rfl : t = s := by omega
  exact Nat.le_refl _
theorem Best.all {l : List Src} {xs : List Int} {X : Nat} {ps : List (List Nat)} {sum : Int} {out : List Nat} (h : Best l xs X ps 4096 sum out) (hv : validS l = true) (hw : Flow.Ways (webOf l xs X) ps) (hlen : ps.length = Flow.mc (webOf l xs X)) : out = Flow.firstL (webOf l xs X) := by
 have hl := firstN_looked (xs := xs) (X := X) hv
 rw [← hlen] at hl
 rcases h with ⟨h1, h2, h3⟩ | ⟨b, h1, h2, h3, h4, h5⟩
 ·exact absurd hl (h3 _ hl.1)
 ·rw [h4, (first_best hv hw hlen h2).2 (h5 _ hl.1 hl), firstN_elems]
set_option maxHeartbeats 8000000 in
theorem rfirst_any (A : Option Addr) (c : Nat) (l : List Src) (B : Option Addr) (d : Nat) (xs : List Int) (E : Option Addr) (ce : Nat) (ps : List (List Nat)) (X : Nat) (w : World) (hs : SrcAt A c l w) (hi : IntAt B d xs w) (hE : kW.C w E ps.length (toI ps)) (hg : givenB l xs = true) (hX : X < 4096) (hw : Flow.Ways (webOf l xs X) ps) (hlen : ps.length = Flow.mc (webOf l xs X)) :
  Calls Tryd.prog 63 #[.slice A l.length c, .slice B xs.length d, .slice E ps.length ce, .int .i64 X] w fun e w' => ∃ (RA : Option Addr) (rc : Nat), e = .returned (.slice RA (Flow.firstL (webOf l xs X)).length rc) ∧ Hid (IntAt RA rc ((Flow.firstL (webOf l xs X)).map Int.ofNat) w' ∧ Below w.heap.size w w' ∧ (Kd.int .i64).R 3 w' w.heap.size (fun k => w.heap.size ≤ k) (.slice RA (Flow.firstL (webOf l xs X)).length rc) ((Flow.firstL (webOf l xs X)).map Int.ofNat)) := by
 have hpl : ∀ p ∈ ps, p.length ≤ 12 ∧ ∀ x ∈ p, x < 12 := fun p hp => ⟨Flow.nodup_len (hw.each p hp).nodup fun x hx => ((hw.each p hp).ok x hx).1, fun x hx => ((hw.each p hp).ok x hx).1⟩
 have hpn : ps.length ≤ 12 := by
  have h2 := Flow.mc_le (web_fit (given_valid hg) xs X) (Flow.cut_all (webOf l xs X))
  rw [Flow.count_all] at h2
  have h3 : ((webOf l xs X).K : Int) = 12 := rfl
  omega
 have HP := Lib.hid (And.intro hpl hpn)
 have HST := Lib.hid (And.intro hs (And.intro hi hE))
 have HG := Lib.hid (And.intro hg (And.intro hX (And.intro hw hlen)))
 clear hpl hpn hs hi hE hg hX hw hlen
 go_enter Tryd.func63, Tryd.ntmps63
 go_wp2_with fail
 go_loopw [9, 10, 11] (fun lv mv sv W => ∃ (s : Nat) (sum : Int) (out : List Nat), s ≤ 4096 ∧ sv = .int .i64 s ∧ mv = .int .i64 sum ∧ Hid ((Kd.int .i64).R 3 W w.heap.size (fun k => w.heap.size ≤ k) lv (out.map Int.ofNat) ∧ Best l xs X ps s sum out ∧ Below w.heap.size w W)) (fun lv mv sv W => 4096 - (intOf sv).toNat)
 case atStart => exact ⟨0, -1, [], by omega, rfl, rfl, Lib.hid ⟨Kd.R_nil _ _ _ _ _, .inl ⟨rfl, rfl, fun t ht => by omega⟩, Below.refl _ _⟩⟩
 case round =>
  obtain ⟨s, sum, out, hs, rfl, rfl, HI⟩ := hrel
  obtain ⟨LA, lc, rfl⟩ := Kd.R_slice HI.out.1
  obtain ⟨on, hon⟩ : ∃ n, (out.map Int.ofNat).length = n := ⟨_, rfl⟩
  have HB12 := Lib.hid (rbit_any 12 (by omega) wr)
  rw [hon]
  have HON := Lib.hid hon; clear hon
  go_wp2_with fail
  refine HB12.out.mono ?_
  rintro e w0 ⟨rfl, rfl⟩
  have e12 : ((2 ^ 12 : Nat) : Int) = 4096 := rfl
  rw [e12]
  by_cases hlt : s < 4096
  ·have hltI : (s : Int) < 4096 := by omega
   have hun : s ||| X < 4096 := Nat.or_lt_two_pow (n := 12) hlt HG.out.2.1
   have HCU := Lib.hid (cuts_any A c l B d xs (s ||| X) w0 (HST.out.1.next HI.out.2.2) (HST.out.2.1.next HI.out.2.2) HG.out.1 hun)
   have HUN := Lib.hid (union_any s X hlt HG.out.2.1 w0)
   have HSZ := Lib.hid (size_any s hlt w0)
   have HSK := Lib.hid (fun h => HI.out.2.1.skip (s := s) h)
   have HLT := Lib.hid hlt
   clear hun
   go_wp2_with fail
   refine HSZ.out.mono ?_
   rintro e w1 ⟨rfl, rfl⟩
   obtain ⟨n, hn⟩ : ∃ n, (elems s).length = n := ⟨_, rfl⟩
   have HN := Lib.hid hn
   rw [hn]
   clear hn HSZ
   by_cases hnl : n = ps.length
   ·subst hnl
    go_wp2_with fail
    refine HUN.out.mono ?_
    rintro e w2 ⟨rfl, rfl⟩
    go_wp2_with fail
    refine HCU.out.mono ?_
    rintro e w3 ⟨rfl, rfl⟩
    cases hc : cutX l xs (s ||| X) with
    |false =>
     have HQ := Lib.hid (HSK.out (fun h => by rw [h.2.2] at hc; cases hc)); clear hc
     go_wp2_with fail
     go_roundw
     case rel => exact ⟨s + 1, sum, out, by omega, by go_num, rfl, Lib.hid ⟨by rw [← HON.out] at *; exact HI.out.1, HQ.out, HI.out.2.2⟩⟩
     case measure => simp only [intOf]; omega
    |true =>
     have HLK := Lib.hid (show Looked l xs X ps.length s from ⟨HLT.out, HN.out, hc⟩)
     have HBD := Lib.hid (wTo_bd s fun p hp => (HP.out.1 p hp).1)
     clear hc HCU HUN hltI
     go_wp2_with fail
     go_loopw [12, 13] (fun nv iv W => ∃ i : Nat, i ≤ ps.length ∧ iv = .int .i64 i ∧ nv = .int .i64 (wTo ps s i) ∧ Hid (W = w3)) (fun nv iv W => ps.length - (intOf iv).toNat)
     case atStart => exact ⟨0, Nat.zero_le _, rfl, rfl, Lib.hid rfl⟩
     case round =>
      obtain ⟨i, hi, rfl, rfl, HW⟩ := hrel
      have hww : wr = _ := HW.out
      subst hww
      have hpn := HP.out.2
      by_cases hil : i < ps.length
      ·have hiI : (i : Int) < (ps.length : Int) := by omega
       obtain ⟨p, hp⟩ : ∃ p, ps[i]? = some p := ⟨_, List.getElem?_eq_getElem hil⟩
       have hpp := HP.out.1 p (List.mem_of_getElem? hp)
       have hv : (toI ps)[i]? = some (p.map Int.ofNat) := by unfold toI; rw [List.getElem?_map, hp]; rfl
       obtain ⟨wd, VA, vc, e, xv, hvc, hCv⟩ := at_W (Kd.C_below HST.out.2.2 HI.out.2.2) hv
       cases e
       rw [List.length_map] at xv hCv
       have HWS := Lib.hid (show wTo ps s (i + 1) = wTo ps s i + pTo p s p.length by
        have hgd : ps.getD i [] = p := by simp [List.getD, hp]
        show wTo ps s i + pTo (ps.getD i []) s (ps.getD i []).length = _
        rw [hgd])
       have hwb := HBD.out i hi
       have HPB := Lib.hid (fun k hk => pTo_bd p s k hk)
       have HPP := Lib.hid hpp.2
       have hp12 := hpp.1
       have HCV := Lib.hid hCv
       obtain ⟨wn, hwn⟩ : ∃ n, wTo ps s i = n := ⟨_, rfl⟩
       rw [hwn] at HWS hwb ⊢
       clear hp hv hvc hCv hwn hpp
       go_wp2_with fail
       go_loopw [12, 14] (fun nv kv W => ∃ k : Nat, k ≤ p.length ∧ kv = .int .i64 k ∧ nv = .int .i64 ((wn + pTo p s k : Nat) : Int) ∧ Hid (W = wr)) (fun nv kv W => p.length - (intOf kv).toNat)
       case atStart => exact ⟨0, Nat.zero_le _, rfl, rfl, Lib.hid rfl⟩
       case round =>
        obtain ⟨k, hk, rfl, rfl, HW2⟩ := hrel
        have hww : wr = _ := HW2.out
        subst hww
        by_cases hkl : k < p.length
        ·have hkI : (k : Int) < (p.length : Int) := by omega
         obtain ⟨y, hy⟩ : ∃ y, p[k]? = some y := ⟨_, List.getElem?_eq_getElem hkl⟩
         have hy12 := HPP.out y (List.mem_of_getElem? hy)
         obtain ⟨fd, e, xy⟩ := Kd.at_int HCV.out (k : Int) (by omega) hkI
         cases e
         have hrd : rd (p.map Int.ofNat) (k : Int) = (y : Int) := by rw [rd_at (by rw [List.length_map]; exact hkl), List.getElem_map]; have := (List.getElem?_eq_some_iff.1 hy).2; rw [this]; rfl
         simp only [Int.toNat_natCast] at xy
         rw [hrd] at xy
         have HPS := Lib.hid (show pTo p s (k + 1) = pTo p s k + if s.testBit y = true then k else 0 by
          have hgd : p.getD k 0 = y := by simp [List.getD, hy]
          show pTo p s k + (if s.testBit (p.getD k 0) = true then k else 0) = _
          rw [hgd])
         have hpb := HPB.out k (by omega)
         obtain ⟨pn, hpn2⟩ : ∃ n, pTo p s k = n := ⟨_, rfl⟩
         rw [hpn2] at HPS hpb ⊢
         clear hrd hy hpn2
         have HHAS := Lib.hid (rhas_any s y HLT.out (by omega) wr)
         go_wp2_with fail
         refine HHAS.out.mono ?_
         rintro e w5 ⟨rfl, rfl⟩
         cases hb : s.testBit y with
         |false =>
          have HN2 := Lib.hid (show pTo p s (k + 1) = pn by rw [HPS.out, hb]; rfl); clear hb
          go_wp2_with fail
          go_roundw
          case rel => exact ⟨k + 1, by omega, by go_num, by rw [HN2.out]; first | rfl | (congr 1; omega), Lib.hid (by first | trivial | rfl)⟩
          case measure => exact meas_up1 hkl
         |true =>
          have HN2 := Lib.hid (show pTo p s (k + 1) = pn + k by rw [HPS.out, hb]; rfl); clear hb
          have hwi : wrap64 (((wn + pn : Nat) : Int) + (k : Int)) = ((wn + (pn + k) : Nat) : Int) := by unfold wrap64; omega
          have hwi2 : wrap64 ((wn : Int) + (pn : Int) + (k : Int)) = ((wn + (pn + k) : Nat) : Int) := by unfold wrap64; omega
          go_wp2_with fail
          go_roundw
          case rel => exact ⟨k + 1, by omega, by go_num, by rw [HN2.out]; first | rfl | rw [hwi] | rw [hwi2] | (congr 1; omega) | (congr 1; unfold wrap64; omega), Lib.hid (by first | trivial | rfl)⟩
          case measure => exact meas_up1 hkl
        ·obtain rfl : k = p.length := by omega
         go_wp2_with fail
         go_roundw
         case rel => exact ⟨i + 1, by omega, by go_num, by rw [HWS.out], Lib.hid (by first | trivial | rfl)⟩
         case measure => exact meas_up1 hil
      ·obtain rfl : i = ps.length := by omega
       have hwb := HBD.out ps.length (Nat.le_refl _)
       have HTK := Lib.hid (fun h => HI.out.2.1.take HLK.out h)
       have HSK2 := Lib.hid (fun h1 h2 => HSK.out (fun _ => ⟨h1, h2⟩))
       obtain ⟨wn, hwn⟩ : ∃ n, wTo ps s ps.length = n := ⟨_, rfl⟩
       rw [hwn] at HTK HSK2 hwb ⊢
       clear hwn HSK
       by_cases hcase : sum < 0 ∨ (wn : Int) < sum
       ·have HBT := Lib.hid (HTK.out hcase)
        rcases hc1 : decide (sum < 0) with _ | _
        ·have hd1 : decide ((wn : Int) < sum) = true := by
          rcases hcase with h | h
          ·rw [decide_eq_true h] at hc1; cases hc1
          ·exact decide_eq_true h
         clear hcase
         go_wp2_with fail
         go_loopw [9, 15] (fun lv kv W => ∃ k : Nat, k ≤ 12 ∧ kv = .int .i64 k ∧ Hid ((Kd.int .i64).R 3 W w.heap.size (fun j => w.heap.size ≤ j) lv ((elTo s k).map Int.ofNat) ∧ Below w.heap.size w W)) (fun lv kv W => 12 - (intOf kv).toNat)
         case atStart => exact ⟨0, by omega, rfl, Lib.hid ⟨Kd.R_nil _ _ _ _ _, HI.out.2.2⟩⟩
         case round =>
          obtain ⟨k, hk, rfl, HK⟩ := hrel
          by_cases hkl : k < 12
          ·have hkI : (k : Int) < 12 := by omega
           have hes := elTo_succ s k
           have hel := elTo_len s k
           have HHAS := Lib.hid (rhas_any s k HLT.out (by omega) wr)
           go_wp2_with fail
           refine HHAS.out.mono ?_
           rintro e w6 ⟨rfl, rfl⟩
           cases hb : s.testBit k with
           |false =>
            have HN2 := Lib.hid (show elTo s (k + 1) = elTo s k by rw [hes, hb]; simp); clear hb hes hel
            go_wp2_with fail
            go_roundw
            case rel => exact ⟨k + 1, by omega, by go_num, Lib.hid ⟨by rw [HN2.out]; exact HK.out.1, HK.out.2⟩⟩
            case measure => exact meas_up1 hkl
           |true =>
            have HN2 := Lib.hid (show (elTo s (k + 1)).map Int.ofNat = (elTo s k).map Int.ofNat ++ [(k : Int)] by rw [hes, hb]; simp)
            have hll : ((elTo s k).map Int.ofNat).length ≤ 12 := by rw [List.length_map]; omega
            have h1o := HK.out.1
            have hz0 := HK.out.2.size
            clear hb hes hel
            generalize (elTo s k).map Int.ofNat = EL at hll h1o HN2
            go_wp2_with (at_builtin; go_loud (refine Kd.R_append (Kd.int .i64) (w0 := w) w.heap.size rfl (.tmp 77) (.tmp 79) 26 3 (.int .i64 0) 8 rfl Tryd.underlying26 info3 rfl (by decide) (by decide) _ EL (k : Int) [.int .i64 (k : Int)] (fun j => w.heap.size ≤ j) (fun _ => False) rfl rfl rfl (fun _ h => h.elim) (fun j hj => Nat.le_trans hz0 hj) h1o HK.out.2 hz0 (by omega) ?_))
            intro v1 w7 h1 h2 h3 h4
            have HQ := Lib.hid (And.intro h1 h2); clear h1 h2 h3 h4 h1o hz0 hll
            go_wp2_with fail
            go_roundw
            case rel => exact ⟨k + 1, by omega, by go_num, Lib.hid ⟨by rw [HN2.out]; exact HQ.out.1, HQ.out.2⟩⟩
            case measure => exact meas_up1 hkl
          ·obtain rfl : k = 12 := by omega
           have HEE := Lib.hid (show elTo s 12 = elems s from rfl)
           go_wp2_with fail
           go_roundw
           case rel => exact ⟨s + 1, wn, elems s, by have := HLT.out; omega, by go_num, rfl, Lib.hid ⟨by rw [← HEE.out]; exact HK.out.1, HBT.out, HK.out.2⟩⟩
           case measure => have := HLT.out; simp only [intOf]; omega
        ·clear hcase
         go_wp2_with fail
         go_loopw [9, 15] (fun lv kv W => ∃ k : Nat, k ≤ 12 ∧ kv = .int .i64 k ∧ Hid ((Kd.int .i64).R 3 W w.heap.size (fun j => w.heap.size ≤ j) lv ((elTo s k).map Int.ofNat) ∧ Below w.heap.size w W)) (fun lv kv W => 12 - (intOf kv).toNat)
         case atStart => exact ⟨0, by omega, rfl, Lib.hid ⟨Kd.R_nil _ _ _ _ _, HI.out.2.2⟩⟩
         case round =>
          obtain ⟨k, hk, rfl, HK⟩ := hrel
          by_cases hkl : k < 12
          ·have hkI : (k : Int) < 12 := by omega
           have hes := elTo_succ s k
           have hel := elTo_len s k
           have HHAS := Lib.hid (rhas_any s k HLT.out (by omega) wr)
           go_wp2_with fail
           refine HHAS.out.mono ?_
           rintro e w6 ⟨rfl, rfl⟩
           cases hb : s.testBit k with
           |false =>
            have HN2 := Lib.hid (show elTo s (k + 1) = elTo s k by rw [hes, hb]; simp); clear hb hes hel
            go_wp2_with fail
            go_roundw
            case rel => exact ⟨k + 1, by omega, by go_num, Lib.hid ⟨by rw [HN2.out]; exact HK.out.1, HK.out.2⟩⟩
            case measure => exact meas_up1 hkl
           |true =>
            have HN2 := Lib.hid (show (elTo s (k + 1)).map Int.ofNat = (elTo s k).map Int.ofNat ++ [(k : Int)] by rw [hes, hb]; simp)
            have hll : ((elTo s k).map Int.ofNat).length ≤ 12 := by rw [List.length_map]; omega
            have h1o := HK.out.1
            have hz0 := HK.out.2.size
            clear hb hes hel
            generalize (elTo s k).map Int.ofNat = EL at hll h1o HN2
            go_wp2_with (at_builtin; go_loud (refine Kd.R_append (Kd.int .i64) (w0 := w) w.heap.size rfl (.tmp 77) (.tmp 79) 26 3 (.int .i64 0) 8 rfl Tryd.underlying26 info3 rfl (by decide) (by decide) _ EL (k : Int) [.int .i64 (k : Int)] (fun j => w.heap.size ≤ j) (fun _ => False) rfl rfl rfl (fun _ h => h.elim) (fun j hj => Nat.le_trans hz0 hj) h1o HK.out.2 hz0 (by omega) ?_))
            intro v1 w7 h1 h2 h3 h4
            have HQ := Lib.hid (And.intro h1 h2); clear h1 h2 h3 h4 h1o hz0 hll
            go_wp2_with fail
            go_roundw
            case rel => exact ⟨k + 1, by omega, by go_num, Lib.hid ⟨by rw [HN2.out]; exact HQ.out.1, HQ.out.2⟩⟩
            case measure => exact meas_up1 hkl
          ·obtain rfl : k = 12 := by omega
           have HEE := Lib.hid (show elTo s 12 = elems s from rfl)
           go_wp2_with fail
           go_roundw
           case rel => exact ⟨s + 1, wn, elems s, by have := HLT.out; omega, by go_num, rfl, Lib.hid ⟨by rw [← HEE.out]; exact HK.out.1, HBT.out, HK.out.2⟩⟩
           case measure => have := HLT.out; simp only [intOf]; omega
       ·have hd0 : decide (sum < 0) = false := decide_eq_false (fun h => hcase (.inl h))
        have hd1 : decide ((wn : Int) < sum) = false := decide_eq_false (fun h => hcase (.inr h))
        have HQ := Lib.hid (HSK2.out (by omega) (by omega))
        clear hcase
        go_wp2_with fail
        go_roundw
        case rel => exact ⟨s + 1, sum, out, by omega, by go_num, rfl, Lib.hid ⟨by rw [← HON.out] at *; exact HI.out.1, HQ.out, HI.out.2.2⟩⟩
        case measure => simp only [intOf]; omega
   ·have hne : ((n : Int) != (ps.length : Int)) = true := by rw [bneD]; simp; omega
    have HQ := Lib.hid (HSK.out (fun h => by have := h.2.1; have := HN.out; omega)); clear hnl
    go_wp2_with fail
    go_roundw
    case rel => exact ⟨s + 1, sum, out, by omega, by go_num, rfl, Lib.hid ⟨by rw [← HON.out] at *; exact HI.out.1, HQ.out, HI.out.2.2⟩⟩
    case measure => simp only [intOf]; omega
  ·obtain rfl : s = 4096 := by omega
   have HE := Lib.hid (HI.out.2.1.all (given_valid HG.out.1) HG.out.2.2.1 HG.out.2.2.2)
   have HR := Lib.hid HI.out.1
   have hlen2 : on = (Flow.firstL (webOf l xs X)).length := by rw [← HON.out, List.length_map, HE.out]
   have HL2 := Lib.hid hlen2; clear hlen2
   obtain ⟨A2, c2, e2, hc2, hC2⟩ := Kd.R_reads HR.out
   injection e2 with e3 e4 e5
   have HFIN := Lib.hid (show IntAt LA lc ((Flow.firstL (webOf l xs X)).map Int.ofNat) w0 by rw [← HE.out, e3, e5]; exact ⟨hC2, hc2⟩)
   clear e3 e4 e5 hc2 hC2
   go_wp2_with fail
   go_ret
   exact ⟨LA, lc, by rw [← HL2.out]; rfl, Lib.hid ⟨HFIN.out, HI.out.2.2, by rw [← HL2.out, ← HE.out, ← HON.out]; exact HR.out⟩⟩
end Go.Proofs.YticngcjfofcoiaaDoor
