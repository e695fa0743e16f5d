/- The contract of the reference's reached. -/
import Derived.Test.YticngcjfofcoiaaDoorRa
namespace Go.Proofs.YticngcjfofcoiaaDoor
open Go.RowKit Go.Rg Go.Proofs.YticngcjfofcoiaaDoorW.PrintWords
set_option linter.unusedVariables false
set_option linter.unusedSimpArgs false
set_option maxRecDepth 100000
def Shut (X S : Nat) (s : Src) : Prop := X.testBit s.id.toNat = true ∨ S.testBit s.id.toNat = true ∨ (s.frm.length ≠ 0 ∧ ∀ y ∈ s.frm, S.testBit y.toNat = false)
def Closed (l : List Src) (X S : Nat) : Prop := ∀ s ∈ l, Shut X S s
def inS (l : List Src) (S : Nat) : Nat := (l.filter fun s => S.testBit s.id.toNat).length
theorem inS_le (l : List Src) (S : Nat) : inS l S ≤ l.length := List.length_filter_le ..
theorem inS_cons (s : Src) (l : List Src) (S : Nat) : inS (s :: l) S = inS l S + if S.testBit s.id.toNat = true then 1 else 0 := by
 unfold inS
 rw [List.filter_cons]
 split <;> simp
theorem inS_mono : ∀ {l : List Src} {S T : Nat}, (∀ i, S.testBit i = true → T.testBit i = true) → inS l S ≤ inS l T
 |[], _, _, _ => Nat.le_refl _
 |s :: l, S, T, h => by
  have ih := inS_mono (l := l) h
  rw [inS_cons, inS_cons]
  by_cases h1 : S.testBit s.id.toNat = true
  ·rw [if_pos h1, if_pos (h _ h1)]; omega
  ·rw [if_neg h1]; omega
theorem inS_more : ∀ {l : List Src} {S T : Nat} {s : Src}, (∀ i, S.testBit i = true → T.testBit i = true) → s ∈ l → S.testBit s.id.toNat = false → T.testBit s.id.toNat = true → inS l S + 1 ≤ inS l T
 |s :: l, S, T, t, h, ht, h1, h2 => by
  have hm := inS_mono (l := l) h
  rw [inS_cons, inS_cons]
  rcases List.mem_cons.1 ht with rfl | ht
  ·rw [if_neg (by rw [h1]; simp), if_pos h2]; omega
  ·have ih := inS_more (l := l) h ht h1 h2
   by_cases h3 : S.testBit s.id.toNat = true
   ·rw [if_pos h3, if_pos (h _ h3)]; omega
   ·rw [if_neg h3]; omega
def Sound54 (l : List Src) (X S : Nat) : Prop := S < 4096 ∧ ∀ i, S.testBit i = true → rchB (nxL l) 0 (ogL l) X i = true
structure Rnd (l : List Src) (X S0 k S : Nat) : Prop where
 sound : Sound54 l X S
 sub : ∀ i, S0.testBit i = true → S.testBit i = true
 shut : S = S0 → ∀ s ∈ l.take k, Shut X S s
 more : S ≠ S0 → inS l S0 + 1 ≤ inS l S
 keep : Closed l X S0 → S = S0
theorem Rnd.zero {l : List Src} {X S : Nat} (h : Sound54 l X S) : Rnd l X S 0 S := ⟨h, fun _ h => h, fun _ s hs => by simp at hs, fun h => absurd rfl h, fun _ => rfl⟩
theorem Rnd.skip {l : List Src} {X S0 k S : Nat} {s : Src} (h : Rnd l X S0 k S) (hs : l[k]? = some s) (hsh : Shut X S s) : Rnd l X S0 (k + 1) S :=
 ⟨h.sound, h.sub, fun e t ht => by
  rw [take_at hs] at ht
  rcases List.mem_append.1 ht with ht | ht
  ·exact h.shut e t ht
  ·rw [List.mem_singleton] at ht
   rw [ht]; exact hsh, h.more, h.keep⟩
theorem or_bit (S i j : Nat) : (S ||| 2 ^ i).testBit j = (S.testBit j || decide (i = j)) := by rw [Nat.testBit_or, Nat.testBit_two_pow]
theorem Rnd.add {l : List Src} {X S0 k S : Nat} {s : Src} (h : Rnd l X S0 k S) (hs : l[k]? = some s) (hn : ¬ Shut X S s) (h12 : s.id.toNat < 12) (hr : rchB (nxL l) 0 (ogL l) X s.id.toNat = true) : Rnd l X S0 (k + 1) (S ||| 2 ^ s.id.toNat) := by
 have hS : S.testBit s.id.toNat = false := by
  rw [← Bool.not_eq_true]
  exact fun h => hn (.inr (.inl h))
 have hup : ∀ i, S.testBit i = true → (S ||| 2 ^ s.id.toNat).testBit i = true := fun i hi => by rw [or_bit, hi]; rfl
 have hnew : (S ||| 2 ^ s.id.toNat).testBit s.id.toNat = true := by rw [or_bit]; simp
 have hm := inS_more hup (List.mem_of_getElem? hs) hS hnew
 have hne : S ||| 2 ^ s.id.toNat ≠ S0 := fun e => by
  have h1 := hnew
  rw [e] at h1
  rw [h.sub _ h1] at hS; cases hS
 refine ⟨⟨or_lt h.sound.1 h12, fun i hi => ?_⟩, fun i hi => hup i (h.sub i hi), fun e => absurd e hne, fun _ => ?_, fun hc => ?_⟩
 ·rw [or_bit, Bool.or_eq_true, decide_eq_true_eq] at hi
  rcases hi with hi | rfl
  ·exact h.sound.2 i hi
  ·exact hr
 ·have := inS_mono (l := l) h.sub
  omega
 ·have e := h.keep hc
  exact absurd (e ▸ hc s (List.mem_of_getElem? hs)) hn
theorem Rnd.done {l : List Src} {X S0 S r : Nat} (h : Rnd l X S0 l.length S) (h0 : r ≤ inS l S0 ∨ Closed l X S0) : r + 1 ≤ inS l S ∨ Closed l X S := by
 have hcl : S = S0 → Closed l X S := fun e s hs => h.shut e s (by rw [List.take_length]; exact hs)
 rcases h0 with h0 | h0
 ·by_cases e : S = S0
  ·exact .inr (hcl e)
  ·have := h.more e
   exact .inl (by omega)
 ·exact .inr (hcl (h.keep h0))
open Classical in
theorem rch_iff {nx : Nat → List Nat} {sd og X i : Nat} : rchB nx sd og X i = true ↔ Flow.Reach (netOf nx sd og X) (fun _ => false) i ∧ X.testBit i = false := by unfold rchB; rw [decide_eq_true_eq]
theorem reach_sd {nx : Nat → List Nat} {sd sd' og X : Nat} {D : Nat → Bool} {i : Nat} (h : Flow.Reach (netOf nx sd og X) D i) : Flow.Reach (netOf nx sd' og X) D i := by
 induction h with
 |base hi ho hw => exact .base hi ho hw
 |step hx hw hd hy he ih => exact .step ih hw hd hy he
theorem rch_sd (nx : Nat → List Nat) (sd sd' og X i : Nat) : rchB nx sd og X i = rchB nx sd' og X i := by
 rw [Bool.eq_iff_iff, rch_iff, rch_iff]
 exact ⟨fun h => ⟨reach_sd h.1, h.2⟩, fun h => ⟨reach_sd h.1, h.2⟩⟩
theorem rch_org {l : List Src} {X : Nat} {s : Src} (hv : validS l = true) (hs : s ∈ l) (hf : s.frm.length = 0) (hX : X.testBit s.id.toNat = false) : rchB (nxL l) 0 (ogL l) X s.id.toNat = true := by
 have := valid_src hv hs
 exact rch_iff.2 ⟨.base (by show s.id.toNat < 12; omega) ((ogL_bit l _).2 ⟨s, hs, hf, rfl⟩) hX, hX⟩
theorem rch_step {l : List Src} {X : Nat} {s : Src} {y : Int} (hv : validS l = true) (hs : s ∈ l) (hy : y ∈ s.frm) (h : rchB (nxL l) 0 (ogL l) X y.toNat = true) (hX : X.testBit s.id.toNat = false) : rchB (nxL l) 0 (ogL l) X s.id.toNat = true := by
 have hr := valid_src hv hs
 have h := rch_iff.1 h
 refine rch_iff.2 ⟨.step h.1 h.2 rfl (by show s.id.toNat < 12; omega) ?_, hX⟩
 show (nxL l y.toNat).contains s.id.toNat = true
 exact List.contains_iff_mem.2 ((nxL_mem l _ _).2 ⟨s, hs, rfl, y, hy, rfl⟩)
theorem closed_all {l : List Src} {X S : Nat} (hs : Sound54 l X S) (hc : Closed l X S) : S = setOf (rchB (nxL l) 0 (ogL l) X) := by
 have comp : ∀ i, Flow.Reach (netOf (nxL l) 0 (ogL l) X) (fun _ => false) i → X.testBit i = false → S.testBit i = true := fun i h => by
  induction h with
  |@base i hi ho hw =>
   intro hX
   obtain ⟨s, hsm, hf, rfl⟩ := (ogL_bit l i).1 ho
   rcases hc s hsm with h | h | h
   ·rw [h] at hX; cases hX
   ·exact h
   ·exact absurd hf h.1
  |@step x y hx hw hd hy he ih =>
   intro hX
   have hSx := ih hw
   obtain ⟨s, hsm, rfl, z, hz, hzx⟩ := (nxL_mem l x y).1 (List.contains_iff_mem.1 he)
   rcases hc s hsm with h | h | h
   ·rw [h] at hX; cases hX
   ·exact h
   ·have := h.2 z hz
    rw [hzx, hSx] at this; cases this
 refine Nat.eq_of_testBit_eq fun i => ?_
 rw [Bool.eq_iff_iff, setOf_bit, Bool.and_eq_true, decide_eq_true_eq]
 constructor
 ·intro h
  have h1 := hs.2 i h
  exact ⟨(rch_iff.1 h1).1.lt, h1⟩
 ·rintro ⟨_, h⟩
  have := rch_iff.1 h
  exact comp i this.1 this.2
def Quo (S : Nat) (frm : List Int) (b : Bool) : Prop := if b = true then ∃ y ∈ frm, S.testBit y.toNat = true else ∀ y ∈ frm, S.testBit y.toNat = false
set_option maxHeartbeats 8000000 in
theorem rreached_any (A : Option Addr) (c : Nat) (l : List Src) (X : Nat) (w : World) (hs : SrcAt A c l w) (hv : validS l = true) (hX : X < 4096) : Calls Tryd.prog 54 #[.slice A l.length c, .int .i64 X] w fun e w' => e = .returned (.int .i64 (setOf (rchB (nxL l) 0 (ogL l) X) : Nat)) ∧ w' = w := by
 have hm := max_len hs.rl
 have HS := Lib.hid hs
 have HV := Lib.hid (And.intro hv hX); clear hs hv hX
 go_enter Tryd.func54, Tryd.ntmps54
 go_wp2_with fail
 go_loopw [5, 6] (fun sv rv wr => ∃ (S r : Nat), r ≤ l.length + 1 ∧ rv = .int .i64 r ∧ sv = .int .i64 S ∧ Hid (wr = w ∧ Sound54 l X S ∧ (r ≤ inS l S ∨ Closed l X S))) (fun sv rv wr => l.length + 1 - (intOf rv).toNat)
 case atStart => exact ⟨0, 0, Nat.zero_le _, rfl, rfl, Lib.hid ⟨rfl, ⟨by omega, fun i h => by simp at h⟩, .inl (Nat.zero_le _)⟩⟩
 case round =>
  obtain ⟨S, r, hr, rfl, rfl, HI⟩ := hrel
  by_cases hlt : r ≤ l.length
  ·have hltI : (r : Int) ≤ (l.length : Int) := by omega
   have hl12 : l.length ≤ 12 := valid_len HV.out.1
   go_wp2_with fail
   have HL12 := Lib.hid hl12
   go_loopw [5, 7] (fun sv iv W => ∃ (i T : Nat), i ≤ l.length ∧ iv = .int .i64 i ∧ sv = .int .i64 T ∧ Hid (W = w ∧ Rnd l X S i T)) (fun sv iv W => l.length - (intOf iv).toNat)
   case atStart => exact ⟨0, S, Nat.zero_le _, rfl, rfl, Lib.hid ⟨HI.out.1, Rnd.zero HI.out.2.1⟩⟩
   case round =>
    obtain ⟨i, T, hi, rfl, rfl, HJ⟩ := hrel
    by_cases hil : i < l.length
    ·have hiI : (i : Int) < (l.length : Int) := by omega
     obtain ⟨s, hsi⟩ : ∃ s, l[i]? = some s := ⟨l[i], List.getElem?_eq_getElem hil⟩
     have hvs := valid_src HV.out.1 (List.mem_of_getElem? hsi)
     obtain ⟨ad, FA, fc, e, x0, x1, x2, hfc, hCf⟩ := at_S HS.out.rl hsi
     cases e
     have HW := Lib.hid HJ.out.1
     have hww : wr = w := HJ.out.1
     subst hww
     have HSI := Lib.hid hsi
     have HRN := Lib.hid HJ.out.2
     obtain ⟨id, hid⟩ : ∃ id : Nat, s.id = id := ⟨s.id.toNat, by omega⟩
     have hid12 : id < 12 := by omega
     have HID := Lib.hid (show s.id.toNat = id by omega)
     rw [hid] at x0
     have HCF := Lib.hid hCf
     have HFR := Lib.hid hvs
     have hfl : s.frm.length ≤ 3 := hvs.2.2.1
     clear hsi hvs hCf hid hfc x1 HW
     go_wp2_with fail
     refine (rhas_any X id HV.out.2 (by omega) _).mono ?_
     rintro e w' ⟨rfl, rfl⟩
     cases hXb : X.testBit id with
     |true =>
      have HN := Lib.hid (HRN.out.skip HSI.out (.inl (by rw [HID.out]; exact hXb))); clear hXb
      go_wp2_with fail
      go_roundw
      case rel => exact ⟨i + 1, T, by omega, by go_num, rfl, Lib.hid ⟨by first | trivial | rfl, HN.out⟩⟩
      case measure => exact meas_up1 hil
     |false =>
      have HXB := Lib.hid hXb; clear hXb
      go_wp2_with fail
      refine (rhas_any T id HRN.out.sound.1 (by omega) _).mono ?_
      rintro e w' ⟨rfl, rfl⟩
      cases hTb : T.testBit id with
      |true =>
       have HN := Lib.hid (HRN.out.skip HSI.out (.inr (.inl (by rw [HID.out]; exact hTb)))); clear hTb
       go_wp2_with fail
       go_roundw
       case rel => exact ⟨i + 1, T, by omega, by go_num, rfl, Lib.hid ⟨by first | trivial | rfl, HN.out⟩⟩
       case measure => exact meas_up1 hil
      |false =>
       have HTB := Lib.hid hTb; clear hTb
       have HOR := Lib.hid (or_add HRN.out.sound.1 hid12 HTB.out)
       have hTl := HRN.out.sound.1
       obtain ⟨p, hp⟩ : ∃ p, 2 ^ id = p := ⟨_, rfl⟩
       have HP := Lib.hid hp
       have hpl : p < 4096 := by rw [← hp]; exact pow_lt12 hid12
       have hwi : wrap64 ((T : Int) + (p : Int)) = ((T + p : Nat) : Int) := by unfold wrap64; omega
       have HBIT := Lib.hid (rbit_any id (by omega) w')
       rw [hp] at HBIT
       clear hp hTl hpl
       by_cases hf0 : s.frm.length = 0
       ·have hz : ((s.frm.length : Int) == 0) = true := by simp [hf0]
        have HN := Lib.hid (show Rnd l X S (i + 1) (T + p) by
         have h := HRN.out.add HSI.out (fun h => by
          rcases h with h | h | h
          ·rw [HID.out, HXB.out] at h; cases h
          ·rw [HID.out, HTB.out] at h; cases h
          ·exact h.1 hf0) (by rw [HID.out]; exact hid12) (rch_org HV.out.1 (List.mem_of_getElem? HSI.out) hf0 (by rw [HID.out]; exact HXB.out))
         rw [HID.out, ← HOR.out, HP.out] at h
         exact h)
        clear hf0
        go_wp2_with fail
        refine HBIT.out.mono ?_
        rintro e w2 ⟨rfl, rfl⟩
        go_wp2_with fail
        go_roundw
        case rel => exact ⟨i + 1, T + p, by omega, by go_num, by rw [hwi], Lib.hid ⟨by first | trivial | rfl, HN.out⟩⟩
        case measure => exact meas_up1 hil
       ·have hz : ((s.frm.length : Int) == 0) = false := by simp [hf0]
        have HF0 := Lib.hid hf0; clear hf0
        go_wp2_with fail
        go_loopw [5, 8] (fun sv jv W => ∃ (j : Nat) (b : Bool), j ≤ s.frm.length ∧ jv = .int .i64 j ∧ sv = .int .i64 (if b = true then T + p else T : Nat) ∧ Hid (W = w' ∧ Quo T (s.frm.take j) b)) (fun sv jv W => s.frm.length - (intOf jv).toNat)
        case atStart => exact ⟨0, false, Nat.zero_le _, rfl, rfl, Lib.hid ⟨rfl, by unfold Quo; simp⟩⟩
        case round =>
         obtain ⟨j, b, hj, rfl, rfl, HQ⟩ := hrel
         have hww : wr = w' := HQ.out.1
         subst hww
         by_cases hjl : j < s.frm.length
         ·have hjI : (j : Int) < (s.frm.length : Int) := by omega
          obtain ⟨y, hy⟩ : ∃ y, s.frm[j]? = some y := ⟨_, List.getElem?_eq_getElem hjl⟩
          have hyr := valid_rng HV.out.1 HFR.out.2.2.2.2.1 (List.mem_of_getElem? hy)
          obtain ⟨fd, e, xy⟩ := Kd.at_int HCF.out (j : Int) (by omega) hjI
          cases e
          have hrd : rd s.frm (j : Int) = y := by rw [rd_at hjl]; exact (List.getElem?_eq_some_iff.1 hy).2
          simp only [Int.toNat_natCast] at xy
          rw [hrd] at xy
          obtain ⟨yn, rfl⟩ := Int.eq_ofNat_of_zero_le hyr.1
          have HTK := Lib.hid (take_at hy)
          have hy64 : yn < 64 := by omega
          clear hrd hy hyr
          cases b with
          |true =>
           have hTp : T + p < 4096 := by rw [← HP.out, HOR.out]; exact or_lt HRN.out.sound.1 hid12
           have hbit : (T + p).testBit id = true := by rw [← HP.out, HOR.out, or_bit]; simp
           have HN := Lib.hid (show Quo T (s.frm.take (j + 1)) true by
            have h := HQ.out.2
            unfold Quo at h ⊢
            rw [if_pos rfl] at h ⊢
            obtain ⟨z, hz1, hz2⟩ := h
            exact ⟨z, by rw [HTK.out]; exact List.mem_append_left _ hz1, hz2⟩)
           have HB2 := Lib.hid (And.intro hTp hbit); clear hTp hbit
           go_wp2_with fail
           refine (rhas_any (T + p) yn HB2.out.1 hy64 _).mono ?_
           rintro e w2 ⟨rfl, rfl⟩
           cases hyb : (T + p).testBit yn with
           |false =>
            clear hyb
            go_wp2_with fail
            go_roundw
            case rel => exact ⟨j + 1, true, by omega, by go_num, rfl, Lib.hid ⟨by first | trivial | rfl, HN.out⟩⟩
            case measure => exact meas_up1 hjl
           |true =>
            clear hyb
            go_wp2_with fail
            refine (rhas_any (T + p) id HB2.out.1 (by omega) _).mono ?_
            rintro e w3 ⟨rfl, rfl⟩
            rw [HB2.out.2]
            go_wp2_with fail
            go_roundw
            case rel => exact ⟨j + 1, true, by omega, by go_num, rfl, Lib.hid ⟨by first | trivial | rfl, HN.out⟩⟩
            case measure => exact meas_up1 hjl
          |false =>
           go_wp2_with fail
           refine (rhas_any T yn HRN.out.sound.1 hy64 _).mono ?_
           rintro e w2 ⟨rfl, rfl⟩
           cases hyb : T.testBit yn with
           |false =>
            have HN := Lib.hid (show Quo T (s.frm.take (j + 1)) false by
             have h := HQ.out.2
             unfold Quo at h ⊢
             rw [if_neg (by simp)] at h ⊢
             intro z hz
             rw [HTK.out] at hz
             rcases List.mem_append.1 hz with hz | hz
             ·exact h z hz
             ·rw [List.mem_singleton] at hz
              rw [hz, Int.toNat_natCast]
              exact hyb)
            clear hyb
            go_wp2_with fail
            go_roundw
            case rel => exact ⟨j + 1, false, by omega, by go_num, rfl, Lib.hid ⟨by first | trivial | rfl, HN.out⟩⟩
            case measure => exact meas_up1 hjl
           |true =>
            have HN := Lib.hid (show Quo T (s.frm.take (j + 1)) true by
             unfold Quo
             rw [if_pos rfl]
             exact ⟨(yn : Int), by rw [HTK.out]; simp, by rw [Int.toNat_natCast]; exact hyb⟩)
            clear hyb
            go_wp2_with fail
            refine (rhas_any T id HRN.out.sound.1 (by omega) _).mono ?_
            rintro e w3 ⟨rfl, rfl⟩
            rw [HTB.out]
            go_wp2_with fail
            refine HBIT.out.mono ?_
            rintro e w4 ⟨rfl, rfl⟩
            go_wp2_with fail
            go_roundw
            case rel => exact ⟨j + 1, true, by omega, by go_num, by rw [hwi]; rfl, Lib.hid ⟨by first | trivial | rfl, HN.out⟩⟩
            case measure => exact meas_up1 hjl
         ·obtain rfl : j = s.frm.length := by omega
          have HN : Hid (Rnd l X S (i + 1) (if b = true then T + p else T)) := Lib.hid (by
           have h := HQ.out.2
           rw [List.take_length] at h
           unfold Quo at h
           cases b with
           |true =>
            rw [if_pos rfl] at h ⊢
            obtain ⟨z, hz1, hz2⟩ := h
            have h2 := HRN.out.add HSI.out (fun h => by
             rcases h with h | h | h
             ·rw [HID.out, HXB.out] at h; cases h
             ·rw [HID.out, HTB.out] at h; cases h
             ·have := h.2 z hz1; rw [hz2] at this; cases this) (by rw [HID.out]; exact hid12) (rch_step HV.out.1 (List.mem_of_getElem? HSI.out) hz1 (HRN.out.sound.2 _ hz2) (by rw [HID.out]; exact HXB.out))
            rw [HID.out, ← HOR.out, HP.out] at h2
            exact h2
           |false =>
            rw [if_neg (by simp)] at h ⊢
            exact HRN.out.skip HSI.out (.inr (.inr ⟨HF0.out, h⟩)))
          go_wp2_with fail
          go_roundw
          case rel => exact ⟨i + 1, _, by omega, by go_num, rfl, Lib.hid ⟨by first | trivial | rfl, HN.out⟩⟩
          case measure => exact meas_up1 hil
    ·obtain rfl : i = l.length := by omega
     have HN := Lib.hid (HJ.out.2.done HI.out.2.2)
     have HWW := Lib.hid HJ.out.1
     go_wp2_with fail
     go_roundw
     case rel => exact ⟨T, r + 1, by omega, by go_num, rfl, Lib.hid ⟨HWW.out, HJ.out.2.sound, HN.out⟩⟩
     case measure => simp only [intOf]; omega
  ·obtain rfl : r = l.length + 1 := by omega
   have HE := Lib.hid (show S = setOf (rchB (nxL l) 0 (ogL l) X) from closed_all HI.out.2.1 (by
    rcases HI.out.2.2 with h | h
    ·have := inS_le l S; omega
    ·exact h))
   go_wp2_with fail
   go_ret
   exact ⟨ret_int (by rw [← HE.out]), HI.out.1⟩
end Go.Proofs.YticngcjfofcoiaaDoor
