/- The contract of the reference's least. -/
import Derived.Test.YticngcjfofcoiaaDoorZh
namespace Go.Proofs.YticngcjfofcoiaaDoor
open Go.RowKit Go.Rg Go.Proofs.YticngcjfofcoiaaDoorW.PrintWords
set_option linter.unusedVariables false
set_option linter.unusedSimpArgs false
set_option maxRecDepth 100000
theorem orL_take {v : List Nat} {i y : Nat} (h : v[i]? = some y) : orL 0 (v.take (i + 1)) = orL 0 (v.take i) ||| 2 ^ y := by
 rw [take_at h]
 unfold orL
 rw [List.foldl_append]
 rfl
theorem orL_small {v : List Nat} (h : ∀ x ∈ v, x < 12) : orL 0 v < 4096 := orL_lt (by decide) h
theorem orL_mem {v : List Nat} {i : Nat} : (orL 0 v).testBit i = true ↔ i ∈ v := by rw [orL_bit]; simp
def OwnI (lo : Nat) (A : Option Addr) (c : Nat) (p : List Nat) (w : World) : Prop := (Kd.int .i64).R 3 w lo (fun k => lo ≤ k) (.slice A p.length c) (p.map Int.ofNat)
theorem OwnI.next {lo : Nat} {A : Option Addr} {c : Nat} {p : List Nat} {w w' : World} (h : OwnI lo A c p w) (hb : Below w.heap.size w w') : OwnI lo A c p w' := Kd.R_below h hb
def LeastP (lo : Nat) (l : List Src) (xs : List Int) (wo u n : Nat) (v : List Nat) (w : World) (e : Ending) (w' : World) : Prop := ∃ (RA : Option Addr) (rc : Nat), e = .returned (.slice RA (growR l xs wo u n v).length rc) ∧ Hid (IntAt RA rc ((growR l xs wo u n v).map Int.ofNat) w' ∧ Below w.heap.size w w' ∧ OwnI lo RA rc (growR l xs wo u n v) w')
theorem rafter_nil {l : List Src} {xs : List Int} {wo : Nat} {s : Src} (hv : validS l = true) (hs : s ∈ l) : Flow.after (webOf l xs wo) [] s.id.toNat = decide (s.frm.length = 0) := by
 rw [Bool.eq_iff_iff, decide_eq_true_eq]
 show (ogL l).testBit s.id.toNat = true ↔ _
 rw [ogL_bit]
 constructor
 ·rintro ⟨t, ht, h1, h2⟩
  have a1 := valid_src hv hs
  have a2 := valid_src hv ht
  rw [← valid_uniq hv ht hs (by omega)]; exact h1
 ·intro h
  exact ⟨s, hs, h, rfl⟩
theorem rafter_last {l : List Src} {xs : List Int} {wo z : Nat} {v : List Nat} {s : Src} (hv : validS l = true) (hs : s ∈ l) (hz : v.getLast? = some z) : Flow.after (webOf l xs wo) v s.id.toNat = true ↔ (z : Int) ∈ s.frm := by
 unfold Flow.after
 rw [hz]
 show (webOf l xs wo).E z s.id.toNat = true ↔ _
 rw [E_iff]
 constructor
 ·rintro ⟨t, ht, h1, y, hy, h2⟩
  have a1 := valid_src hv hs
  have a2 := valid_src hv ht
  have e := valid_uniq hv ht hs (by omega)
  have a3 := valid_rng hv a2.2.2.2.2.1 hy
  rw [← e, show (z : Int) = y by omega]; exact hy
 ·intro h
  exact ⟨s, hs, rfl, _, h, by simp⟩
def LeastD (l : List Src) (xs : List Int) (wo u n d : Nat) : Prop := ∀ (v : List Nat) (A : Option Addr) (c : Nat) (B : Option Addr) (b : Nat) (E : Option Addr) (ce : Nat) (w : World), 13 - v.length ≤ d → Beg l xs wo u v → SrcAt A c l w → IntAt B b xs w → IntAt E ce (v.map Int.ofNat) w → n ≤ 12 → ∀ lo, lo ≤ w.heap.size → OwnI lo E ce v w →
  Calls Tryd.prog 61 #[.slice A l.length c, .slice B xs.length b, .slice E v.length ce, .int .i64 ((wo ||| u : Nat) : Int), .int .i64 (n : Int)] w (LeastP lo l xs wo u n v w)
set_option maxHeartbeats 16000000 in
theorem rleast_step (l : List Src) (xs : List Int) (wo u n : Nat) (hg : givenB l xs = true) (hwo : wo < 4096) (hu : u < 4096) (d : Nat) (ih : LeastD l xs wo u n d) (v : List Nat) (A : Option Addr) (c : Nat) (B : Option Addr) (b : Nat) (E : Option Addr) (ce : Nat) (w : World) (hd : 13 - v.length ≤ d + 1) (hb : Beg l xs wo u v) (hs : SrcAt A c l w) (hi : IntAt B b xs w) (he : IntAt E ce (v.map Int.ofNat) w) (hn : n ≤ 12) (lo : Nat) (hlo : lo ≤ w.heap.size) (hlE : OwnI lo E ce v w) :
  Calls Tryd.prog 61 #[.slice A l.length c, .slice B xs.length b, .slice E v.length ce, .int .i64 ((wo ||| u : Nat) : Int), .int .i64 (n : Int)] w (LeastP lo l xs wo u n v w) := by
 have IH := Lib.hid ih; clear ih
 have HLO := Lib.hid (And.intro hlo hlE); clear hlo hlE
 have HG := Lib.hid (And.intro hg (given_valid hg))
 have HX := Lib.hid (show (wo ||| u) < 4096 from Nat.or_lt_two_pow (n := 12) hwo hu)
 have HXB := Lib.hid (show ∀ i, (wo ||| u).testBit i = (wo.testBit i || u.testBit i) from fun i => Nat.testBit_or ..)
 have HUN := Lib.hid (un_eq wo u v)
 have HDN := Lib.hid (done_iff (l := l) (xs := xs) (wo := wo) (u := u) (n := n) (v := v))
 have HB := Lib.hid hb
 have HD := Lib.hid hd
 have HN12 := Lib.hid hn
 have hml := max_len hs.rl
 have hmx := max_len hi.rx
 have hmv : v.length ≤ 12 := hb.len
 have HST := Lib.hid (And.intro hs (And.intro hi he))
 have HVL := Lib.hid hb.lt
 have HVL12 := Lib.hid hmv
 clear hg hwo hu hb hs hi he hd hn
 unfold LeastP
 have HRR := Lib.hid (show ∀ (w' : World), True from fun _ => trivial)
 generalize hX : wo ||| u = X at HX HXB HUN HDN ⊢
 have HXE := Lib.hid hX; clear hX
 go_enter Tryd.func61, Tryd.ntmps61
 go_wp2_with fail
 go_loopw [11, 12] (fun ov iv W => ∃ i : Nat, i ≤ v.length ∧ iv = .int .i64 i ∧ ov = .int .i64 (orL 0 (v.take i) : Nat) ∧ Hid (W = w)) (fun ov iv W => v.length - (intOf iv).toNat)
 case atStart => exact ⟨0, Nat.zero_le _, rfl, rfl, Lib.hid rfl⟩
 case round =>
  obtain ⟨i, hi, rfl, rfl, HI⟩ := hrel
  have hww : wr = w := HI.out
  subst hww
  by_cases hlt : i < v.length
  ·have hltI : (i : Int) < (v.length : Int) := by omega
   obtain ⟨y, hy⟩ : ∃ y, v[i]? = some y := ⟨_, List.getElem?_eq_getElem hlt⟩
   have hy12 := HVL.out y (List.mem_of_getElem? hy)
   have hIC := HST.out.2.2.rx
   rw [List.length_map] at hIC
   obtain ⟨fd, e, xy⟩ := Kd.at_int hIC (i : Int) (by omega) hltI
   cases e
   have hrd : rd (v.map Int.ofNat) (i : Int) = (y : Int) := by rw [rd_at (by rw [List.length_map]; exact hlt), List.getElem_map]; have := (List.getElem?_eq_some_iff.1 hy).2; rw [this]; rfl
   simp only [Int.toNat_natCast] at xy
   rw [hrd] at xy
   have HTK := Lib.hid (orL_take hy)
   have hol := orL_small (v := v.take i) (fun x hx => HVL.out x (List.mem_of_mem_take hx))
   have HPW := Lib.hid (rbit_any y (by omega) wr)
   have hp12 : 2 ^ y < 4096 := pow_lt12 hy12
   generalize hp : 2 ^ y = p at HTK HPW hp12
   have HU2 := Lib.hid (union_any (orL 0 (v.take i)) p hol hp12 wr)
   clear hrd hy hIC hy12 hol hp hp12
   go_wp2_with fail
   refine HPW.out.mono ?_
   rintro e w2 ⟨rfl, rfl⟩
   go_wp2_with fail
   refine HU2.out.mono ?_
   rintro e w3 ⟨rfl, rfl⟩
   go_wp2_with fail
   go_roundw
   case rel => exact ⟨i + 1, by omega, by go_num, by rw [HTK.out], Lib.hid (by first | trivial | rfl)⟩
   case measure => exact meas_up1 hlt
  ·obtain rfl : i = v.length := by omega
   have HOW := Lib.hid (show orL 0 (v.take v.length) = orL 0 v by rw [List.take_length])
   have hol := orL_small HVL.out
   have HOM := Lib.hid (fun i => orL_mem (v := v) (i := i))
   rw [HOW.out]
   generalize orL 0 v = o at hol HOM HUN HDN ⊢
   have HOL := Lib.hid hol
   have HBW := Lib.hid (Below.refl wr.heap.size wr)
   clear hol HOW
   by_cases hv0 : v.length = 0
   ·have hd0 : decide (0 < v.length) = false := decide_eq_false (by omega)
    have HEM := Lib.hid hv0
    have HND := Lib.hid (show Flow.isDone (webOf l xs wo) (bitsOf u) v n = false by
     rw [← Bool.not_eq_true]
     intro h
     obtain ⟨x, e, _⟩ := done_iff.1 h
     rw [List.eq_nil_of_length_eq_zero hv0] at e; cases e)
    clear hv0
    go_wp2_with fail
    clear hd0
    go_loopw [15] (fun iv W => ∃ i : Nat, i ≤ l.length ∧ iv = .int .i64 i ∧ Hid (Below wr.heap.size wr W ∧ ∀ t ∈ l.take i, fitsR l xs wo u n v t.id.toNat = false)) (fun iv W => l.length - (intOf iv).toNat)
    case atStart => exact ⟨0, Nat.zero_le _, rfl, Lib.hid ⟨HBW.out, fun t ht => by simp at ht⟩⟩
    case round =>
     obtain ⟨i, hi, rfl, HJ⟩ := hrel
     by_cases hil : i < l.length
     ·have hiI : (i : Int) < (l.length : Int) := by omega
      obtain ⟨s, hsi⟩ : ∃ s, l[i]? = some s := ⟨l[i], List.getElem?_eq_getElem hil⟩
      have hvs := valid_src HG.out.2 (List.mem_of_getElem? hsi)
      obtain ⟨ad, FA, fc, e, x0, x1, x2, hfc, hCf⟩ := at_S (HST.out.1.next HJ.out.1).rl hsi
      cases e
      have HSI := Lib.hid hsi
      have HSM := Lib.hid (List.mem_of_getElem? hsi)
      obtain ⟨id, hid⟩ : ∃ id : Nat, s.id = id := ⟨s.id.toNat, by omega⟩
      have hid12 : id < 12 := by omega
      have HID := Lib.hid (show s.id.toNat = id by omega)
      have HIDI := Lib.hid hid
      rw [hid] at x0
      have HCF := Lib.hid hCf
      have HFR := Lib.hid hvs
      have HSKIP := Lib.hid (fun (h : fitsR l xs wo u n v id = false) => show ∀ t ∈ l.take (i + 1), fitsR l xs wo u n v t.id.toNat = false from fun t ht => by
       rw [take_at HSI.out] at ht
       rcases List.mem_append.1 ht with ht | ht
       ·exact HJ.out.2 t ht
       ·rw [List.mem_singleton] at ht
        rw [ht, HID.out]; exact h)
      have HSTJ := Lib.hid (And.intro (HST.out.1.next HJ.out.1) (And.intro (HST.out.2.1.next HJ.out.1) (HST.out.2.2.next HJ.out.1)))
      have hfl : s.frm.length ≤ 3 := hvs.2.2.1
      clear hsi hvs hCf hid hfc x1
      have hz0 : ((v.length : Int) == 0) = true := by have := HEM.out; simp [this]
      have hg0 : decide (0 < v.length) = false := decide_eq_false (by have := HEM.out; omega)
      have HAF := Lib.hid (show Flow.after (webOf l xs wo) v id = decide (s.frm.length = 0) by
       have h := rafter_nil (xs := xs) (wo := wo) HG.out.2 HSM.out
       rw [HID.out] at h
       rw [List.eq_nil_of_length_eq_zero HEM.out]
       exact h)
      obtain ⟨bq, hbq⟩ : ∃ q, (decide (s.frm.length = 0)) = q := ⟨_, rfl⟩
      rw [hbq] at HAF
      have hfz : ((s.frm.length : Int) == 0) = bq := by rw [← hbq, Bool.eq_iff_iff, beq_iff_eq, decide_eq_true_eq]; omega
      clear hbq
      go_wp2_with fail
      clear hfz hz0
      have H0 := Lib.hid (Below.refl wr.heap.size wr)
      go_loopw [17, 18] (fun bv kv W => kv = .int .i64 0 ∧ bv = .bool bq ∧ Hid (W = wr)) (fun bv kv W => 0)
      case atStart => exact ⟨rfl, rfl, Lib.hid rfl⟩
      case round =>
       obtain ⟨rfl, rfl, HK⟩ := hrel
       have hww : wr = _ := HK.out
       subst hww
       by_cases hfe : 0 < s.frm.length
       ·have hd1 : decide (0 < s.frm.length) = true := decide_eq_true hfe
        clear hfe
        cases bq with
        |false =>
         go_wp2_with fail
         clear hd1
         have HN := Lib.hid (HSKIP.out (by
          rw [← Bool.not_eq_true]
          intro h
          have := (fits_cand h).1.1
          rw [HAF.out] at this; cases this))
         first | go_roundw | (go_wp2_with fail; go_roundw)
         case rel => exact ⟨i + 1, by omega, by go_num, Lib.hid ⟨HJ.out.1, HN.out⟩⟩
         case measure => exact meas_up1 hil
        |true =>
         go_wp2_with fail
         clear hd1
         refine (rhas_any o id HOL.out (by omega) _).mono ?_
         rintro e wa ⟨rfl, rfl⟩
         cases hob : o.testBit id with
         |true =>
          have HN := Lib.hid (HSKIP.out (by
           rw [← Bool.not_eq_true]
           intro h
           exact (fits_cand h).1.2.2.1 ((HOM.out id).1 hob)))
          clear hob
          go_wp2_with fail
          go_roundw
          case rel => exact ⟨i + 1, by omega, by go_num, Lib.hid ⟨HJ.out.1, HN.out⟩⟩
          case measure => exact meas_up1 hil
         |false =>
          have HOB := Lib.hid hob; clear hob
          go_wp2_with fail
          refine (rhas_any X id HX.out (by omega) _).mono ?_
          rintro e wb ⟨rfl, rfl⟩
          cases hxb : X.testBit id with
          |true =>
           have HN := Lib.hid (HSKIP.out (by
            rw [← Bool.not_eq_true]
            intro h
            have hc := (fits_cand h).1
            have := HXB.out id
            rw [hxb, hc.2.1, hc.2.2.2] at this; cases this))
           clear hxb
           go_wp2_with fail
           go_roundw
           case rel => exact ⟨i + 1, by omega, by go_num, Lib.hid ⟨HJ.out.1, HN.out⟩⟩
           case measure => exact meas_up1 hil
          |false =>
           have HCA := Lib.hid (show cand l xs wo u v id from by
            have h := HXB.out id
            rw [hxb] at h
            have h := h.symm
            rw [Bool.or_eq_false_iff] at h
            refine ⟨HAF.out, h.2, fun hm => ?_, h.1⟩
            have h2 := (HOM.out id).2 hm
            rw [HOB.out] at h2; cases h2)
           clear hxb
           obtain ⟨ge, hge⟩ : ∃ q, wb.heap.size = q := ⟨_, rfl⟩
           have hE0 : (Kd.int .i64).R 3 (wb.alloc (.cells #[] 3)) ge (fun k => ge ≤ k) (.slice (some ⟨ge, 0, none⟩) 0 0) [] := empty_row hge (by omega) (by omega)
           have hbE := (Below.refl wb.heap.size wb).alloc (Nat.le_refl _) (.cells #[] 3)
           have hbG : Below ge wb (wb.alloc (.cells #[] 3)) := by rw [← hge]; exact hbE
           have hzG : ge ≤ (wb.alloc (.cells #[] 3)).heap.size := by rw [← hge]; exact hbE.size
           have hVC := Kd.C_below HSTJ.out.2.2.rx hbE
           rw [List.length_map] at hVC
           have HE := Lib.hid (And.intro hE0 (And.intro hbG (And.intro hVC hzG))); clear hE0 hbE hbG hzG hVC
           have HGE := Lib.hid hge
           go_wp2_with (at_builtin; go_loud (refine Kd.R_append_rows (Kd.int .i64) (w0 := wb) (Rr := fun x cs => cs = [.int .i64 x]) ge rfl (.tmp 135) (.tmp 136) 26 3 (.int .i64 0) 8 rfl Tryd.underlying26 info3 rfl (by decide) (by decide) _ [] (v.map Int.ofNat) _ v.length ce (fun k => ge ≤ k) (fun _ => False) rfl rfl HE.out.1 HE.out.2.2.1 (fun _ _ h => h) (fun _ h => h.elim) (fun k hk => Nat.le_trans HE.out.2.2.2 hk) HE.out.2.1 HE.out.2.2.2 (by have := HVL12.out; simp only [List.length_nil]; omega) ?_))
           intro v1 w1 h1 h2 h3 h4
           try rw [List.nil_append] at h1
           obtain ⟨V1, hV1⟩ : ∃ V, v.map Int.ofNat = V := ⟨_, rfl⟩
           have hV1l : V1.length = v.length := by rw [← hV1, List.length_map]
           have HV1 := Lib.hid (And.intro hV1 hV1l)
           rw [hV1] at h1
           obtain ⟨VI, vi, rfl⟩ := Kd.R_slice h1
           have hz7 : ge ≤ w1.heap.size := by have := h2.size; have := HGE.out; omega
           have HR1 := Lib.hid (And.intro h1 (And.intro h2 hz7)); clear h1 h2 h3 h4 hz7 hV1 hV1l
           go_wp2_with (at_builtin; go_loud (refine Kd.R_append (Kd.int .i64) (w0 := wb) ge rfl (.tmp 137) (.tmp 139) 26 3 (.int .i64 0) 8 rfl Tryd.underlying26 info3 rfl (by decide) (by decide) (.slice VI V1.length vi) V1 (id : Int) [.int .i64 (id : Int)] (fun k => ge ≤ k) (fun _ => False) rfl rfl rfl (fun _ h => h.elim) (fun k hk => Nat.le_trans HR1.out.2.2 hk) HR1.out.1 HR1.out.2.1 HR1.out.2.2 (by have := HVL12.out; have := HV1.out.2; omega) ?_))
           intro v2 w2 h1 h2 h3 h4
           obtain ⟨V2, hV2⟩ : ∃ V, V1 ++ [(id : Int)] = V := ⟨_, rfl⟩
           have HV2 := Lib.hid (show V2 = (v ++ [id]).map Int.ofNat ∧ V2.length = (v ++ [id]).length by
            rw [← hV2, ← HV1.out.1]
            exact ⟨by simp, by simp⟩)
           rw [hV2] at h1
           have h1f := h1
           obtain ⟨YA, yc, rfl, hyc, hyC⟩ := Kd.R_reads h1
           have HLY := Lib.hid (show OwnI lo YA yc (v ++ [id]) w2 from by
            have hlg : lo ≤ ge := by
             have a1 := HLO.out.1
             have a2 := HJ.out.1.size
             have a3 := HGE.out
             omega
            unfold OwnI
            rw [← HV2.out.2, ← HV2.out.1]
            exact Kd.R_lower (Kd.R_mono h1f (fun k hk => Nat.le_trans hlg hk)) hlg)
           clear h1f
           have HB2 := Lib.hid (show Below wb.heap.size wb w2 by rw [HGE.out]; exact h2)
           have HY := Lib.hid (show IntAt YA yc ((v ++ [id]).map Int.ofNat) w2 by rw [← HV2.out.1]; exact ⟨hyC, hyc⟩)
           rw [HV2.out.2]
           clear h1 h2 h3 h4 hyc hyC hge hV2
           have HREC := Lib.hid (IH.out (v ++ [id]) _ c _ b YA yc w2 (by have := HD.out; have := HVL12.out; rw [List.length_append, List.length_singleton]; omega) (cand_beg HB.out HCA.out hid12) (HSTJ.out.1.next HB2.out) (HSTJ.out.2.1.next HB2.out) HY.out HN12.out lo (by have a1 := HLO.out.1; have a2 := HJ.out.1.size; have a3 := HB2.out.size; omega) HLY.out)
           rw [HXE.out] at HREC
           have HTRY := Lib.hid (growR_try (n := n) HG.out.2 HB.out hid12 HCA.out)
           have HTAKE := Lib.hid (fun hf => growR_take (n := n) HG.out.2 HB.out HND.out HSI.out HJ.out.2 (by rw [HID.out]; exact hf))
           rw [HID.out] at HTAKE
           generalize hvid : v ++ [id] = v' at HREC HTRY HTAKE ⊢
           clear hvid HY HV2 HV1
           go_wp2_with fail
           refine HREC.out.mono ?_
           rintro e w4 ⟨RA, rc, rfl, HR⟩
           have HBB := Lib.hid (HJ.out.1.trans ((HB2.out.trans (HR.out.2.1.mono HB2.out.size)).mono HJ.out.1.size))
           obtain ⟨rl, hrl⟩ : ∃ r, growR l xs wo u n v' = r := ⟨_, rfl⟩
           rw [hrl] at HR HTRY HTAKE ⊢
           clear hrl HREC
           by_cases hpos : 0 < rl.length
           ·have hd2 : decide (0 < rl.length) = true := decide_eq_true hpos
            have HT := Lib.hid (HTAKE.out (HTRY.out.1 hpos))
            clear hpos
            go_wp2_with fail
            go_ret
            exact ⟨RA, rc, by rw [HT.out]; rfl, Lib.hid ⟨by rw [HT.out]; exact HR.out.1, HBB.out, by rw [HT.out]; exact HR.out.2.2⟩⟩
           ·have hd2 : decide (0 < rl.length) = false := decide_eq_false hpos
            have HN := Lib.hid (HSKIP.out (by rw [← Bool.not_eq_true]; exact fun h => hpos (HTRY.out.2 h)))
            clear hpos
            go_wp2_with fail
            go_roundw
            case rel => exact ⟨i + 1, by omega, by go_num, Lib.hid ⟨HBB.out, HN.out⟩⟩
            case measure => exact meas_up1 hil
       ·have hd1 : decide (0 < s.frm.length) = false := decide_eq_false hfe
        clear hfe
        cases bq with
        |false =>
         go_wp2_with fail
         clear hd1
         have HN := Lib.hid (HSKIP.out (by
          rw [← Bool.not_eq_true]
          intro h
          have := (fits_cand h).1.1
          rw [HAF.out] at this; cases this))
         first | go_roundw | (go_wp2_with fail; go_roundw)
         case rel => exact ⟨i + 1, by omega, by go_num, Lib.hid ⟨HJ.out.1, HN.out⟩⟩
         case measure => exact meas_up1 hil
        |true =>
         go_wp2_with fail
         clear hd1
         refine (rhas_any o id HOL.out (by omega) _).mono ?_
         rintro e wa ⟨rfl, rfl⟩
         cases hob : o.testBit id with
         |true =>
          have HN := Lib.hid (HSKIP.out (by
           rw [← Bool.not_eq_true]
           intro h
           exact (fits_cand h).1.2.2.1 ((HOM.out id).1 hob)))
          clear hob
          go_wp2_with fail
          go_roundw
          case rel => exact ⟨i + 1, by omega, by go_num, Lib.hid ⟨HJ.out.1, HN.out⟩⟩
          case measure => exact meas_up1 hil
         |false =>
          have HOB := Lib.hid hob; clear hob
          go_wp2_with fail
          refine (rhas_any X id HX.out (by omega) _).mono ?_
          rintro e wb ⟨rfl, rfl⟩
          cases hxb : X.testBit id with
          |true =>
           have HN := Lib.hid (HSKIP.out (by
            rw [← Bool.not_eq_true]
            intro h
            have hc := (fits_cand h).1
            have := HXB.out id
            rw [hxb, hc.2.1, hc.2.2.2] at this; cases this))
           clear hxb
           go_wp2_with fail
           go_roundw
           case rel => exact ⟨i + 1, by omega, by go_num, Lib.hid ⟨HJ.out.1, HN.out⟩⟩
           case measure => exact meas_up1 hil
          |false =>
           have HCA := Lib.hid (show cand l xs wo u v id from by
            have h := HXB.out id
            rw [hxb] at h
            have h := h.symm
            rw [Bool.or_eq_false_iff] at h
            refine ⟨HAF.out, h.2, fun hm => ?_, h.1⟩
            have h2 := (HOM.out id).2 hm
            rw [HOB.out] at h2; cases h2)
           clear hxb
           obtain ⟨ge, hge⟩ : ∃ q, wb.heap.size = q := ⟨_, rfl⟩
           have hE0 : (Kd.int .i64).R 3 (wb.alloc (.cells #[] 3)) ge (fun k => ge ≤ k) (.slice (some ⟨ge, 0, none⟩) 0 0) [] := empty_row hge (by omega) (by omega)
           have hbE := (Below.refl wb.heap.size wb).alloc (Nat.le_refl _) (.cells #[] 3)
           have hbG : Below ge wb (wb.alloc (.cells #[] 3)) := by rw [← hge]; exact hbE
           have hzG : ge ≤ (wb.alloc (.cells #[] 3)).heap.size := by rw [← hge]; exact hbE.size
           have hVC := Kd.C_below HSTJ.out.2.2.rx hbE
           rw [List.length_map] at hVC
           have HE := Lib.hid (And.intro hE0 (And.intro hbG (And.intro hVC hzG))); clear hE0 hbE hbG hzG hVC
           have HGE := Lib.hid hge
           go_wp2_with (at_builtin; go_loud (refine Kd.R_append_rows (Kd.int .i64) (w0 := wb) (Rr := fun x cs => cs = [.int .i64 x]) ge rfl (.tmp 135) (.tmp 136) 26 3 (.int .i64 0) 8 rfl Tryd.underlying26 info3 rfl (by decide) (by decide) _ [] (v.map Int.ofNat) _ v.length ce (fun k => ge ≤ k) (fun _ => False) rfl rfl HE.out.1 HE.out.2.2.1 (fun _ _ h => h) (fun _ h => h.elim) (fun k hk => Nat.le_trans HE.out.2.2.2 hk) HE.out.2.1 HE.out.2.2.2 (by have := HVL12.out; simp only [List.length_nil]; omega) ?_))
           intro v1 w1 h1 h2 h3 h4
           try rw [List.nil_append] at h1
           obtain ⟨V1, hV1⟩ : ∃ V, v.map Int.ofNat = V := ⟨_, rfl⟩
           have hV1l : V1.length = v.length := by rw [← hV1, List.length_map]
           have HV1 := Lib.hid (And.intro hV1 hV1l)
           rw [hV1] at h1
           obtain ⟨VI, vi, rfl⟩ := Kd.R_slice h1
           have hz7 : ge ≤ w1.heap.size := by have := h2.size; have := HGE.out; omega
           have HR1 := Lib.hid (And.intro h1 (And.intro h2 hz7)); clear h1 h2 h3 h4 hz7 hV1 hV1l
           go_wp2_with (at_builtin; go_loud (refine Kd.R_append (Kd.int .i64) (w0 := wb) ge rfl (.tmp 137) (.tmp 139) 26 3 (.int .i64 0) 8 rfl Tryd.underlying26 info3 rfl (by decide) (by decide) (.slice VI V1.length vi) V1 (id : Int) [.int .i64 (id : Int)] (fun k => ge ≤ k) (fun _ => False) rfl rfl rfl (fun _ h => h.elim) (fun k hk => Nat.le_trans HR1.out.2.2 hk) HR1.out.1 HR1.out.2.1 HR1.out.2.2 (by have := HVL12.out; have := HV1.out.2; omega) ?_))
           intro v2 w2 h1 h2 h3 h4
           obtain ⟨V2, hV2⟩ : ∃ V, V1 ++ [(id : Int)] = V := ⟨_, rfl⟩
           have HV2 := Lib.hid (show V2 = (v ++ [id]).map Int.ofNat ∧ V2.length = (v ++ [id]).length by
            rw [← hV2, ← HV1.out.1]
            exact ⟨by simp, by simp⟩)
           rw [hV2] at h1
           have h1f := h1
           obtain ⟨YA, yc, rfl, hyc, hyC⟩ := Kd.R_reads h1
           have HLY := Lib.hid (show OwnI lo YA yc (v ++ [id]) w2 from by
            have hlg : lo ≤ ge := by
             have a1 := HLO.out.1
             have a2 := HJ.out.1.size
             have a3 := HGE.out
             omega
            unfold OwnI
            rw [← HV2.out.2, ← HV2.out.1]
            exact Kd.R_lower (Kd.R_mono h1f (fun k hk => Nat.le_trans hlg hk)) hlg)
           clear h1f
           have HB2 := Lib.hid (show Below wb.heap.size wb w2 by rw [HGE.out]; exact h2)
           have HY := Lib.hid (show IntAt YA yc ((v ++ [id]).map Int.ofNat) w2 by rw [← HV2.out.1]; exact ⟨hyC, hyc⟩)
           rw [HV2.out.2]
           clear h1 h2 h3 h4 hyc hyC hge hV2
           have HREC := Lib.hid (IH.out (v ++ [id]) _ c _ b YA yc w2 (by have := HD.out; have := HVL12.out; rw [List.length_append, List.length_singleton]; omega) (cand_beg HB.out HCA.out hid12) (HSTJ.out.1.next HB2.out) (HSTJ.out.2.1.next HB2.out) HY.out HN12.out lo (by have a1 := HLO.out.1; have a2 := HJ.out.1.size; have a3 := HB2.out.size; omega) HLY.out)
           rw [HXE.out] at HREC
           have HTRY := Lib.hid (growR_try (n := n) HG.out.2 HB.out hid12 HCA.out)
           have HTAKE := Lib.hid (fun hf => growR_take (n := n) HG.out.2 HB.out HND.out HSI.out HJ.out.2 (by rw [HID.out]; exact hf))
           rw [HID.out] at HTAKE
           generalize hvid : v ++ [id] = v' at HREC HTRY HTAKE ⊢
           clear hvid HY HV2 HV1
           go_wp2_with fail
           refine HREC.out.mono ?_
           rintro e w4 ⟨RA, rc, rfl, HR⟩
           have HBB := Lib.hid (HJ.out.1.trans ((HB2.out.trans (HR.out.2.1.mono HB2.out.size)).mono HJ.out.1.size))
           obtain ⟨rl, hrl⟩ : ∃ r, growR l xs wo u n v' = r := ⟨_, rfl⟩
           rw [hrl] at HR HTRY HTAKE ⊢
           clear hrl HREC
           by_cases hpos : 0 < rl.length
           ·have hd2 : decide (0 < rl.length) = true := decide_eq_true hpos
            have HT := Lib.hid (HTAKE.out (HTRY.out.1 hpos))
            clear hpos
            go_wp2_with fail
            go_ret
            exact ⟨RA, rc, by rw [HT.out]; rfl, Lib.hid ⟨by rw [HT.out]; exact HR.out.1, HBB.out, by rw [HT.out]; exact HR.out.2.2⟩⟩
           ·have hd2 : decide (0 < rl.length) = false := decide_eq_false hpos
            have HN := Lib.hid (HSKIP.out (by rw [← Bool.not_eq_true]; exact fun h => hpos (HTRY.out.2 h)))
            clear hpos
            go_wp2_with fail
            go_roundw
            case rel => exact ⟨i + 1, by omega, by go_num, Lib.hid ⟨HBB.out, HN.out⟩⟩
            case measure => exact meas_up1 hil
     ·obtain rfl : i = l.length := by omega
      have HE := Lib.hid (growR_end HG.out.2 HB.out HND.out (fun t ht => HJ.out.2 t (by rw [List.take_length]; exact ht)))
      go_wp2_with fail
      go_ret
      exact ⟨none, 0, by rw [HE.out]; rfl, Lib.hid ⟨by rw [HE.out]; exact ⟨Kd.C_nil _ _, Nat.le_refl _⟩, HJ.out.1, by rw [HE.out]; exact Kd.R_nil _ _ _ _ _⟩⟩
   ·have hd0 : decide (0 < v.length) = true := decide_eq_true (by omega)
    have HNE := Lib.hid (show 0 < v.length by omega); clear hv0
    obtain ⟨z, hz⟩ : ∃ z, v[v.length - 1]? = some z := ⟨_, List.getElem?_eq_getElem (by have := HNE.out; omega)⟩
    have HZ := Lib.hid (show v.getLast? = some z by rw [List.getLast?_eq_getElem?]; exact hz)
    have hIC := HST.out.2.2.rx
    rw [List.length_map] at hIC
    obtain ⟨fe, e, xz⟩ := Kd.at_int hIC ((v.length - 1 : Nat) : Int) (by omega) (by have := HNE.out; omega)
    cases e
    have hrd : rd (v.map Int.ofNat) ((v.length - 1 : Nat) : Int) = (z : Int) := by rw [rd_at (by rw [List.length_map]; have := HNE.out; omega), List.getElem_map]; have := (List.getElem?_eq_some_iff.1 hz).2; rw [this]; rfl
    simp only [Int.toNat_natCast] at xz
    rw [hrd] at xz
    have hwi : wrap64 ((v.length : Int) - 1) = ((v.length - 1 : Nat) : Int) := by have := HNE.out; have := HVL12.out; unfold wrap64; omega
    have hli : ((v.length - 1 : Nat) : Int) < (v.length : Int) := by have := HNE.out; omega
    clear hrd hz hIC
    go_wp2_with fail
    clear hd0
    go_loopw [14] (fun iv W => ∃ i : Nat, i ≤ xs.length ∧ iv = .int .i64 i ∧ Hid (W = wr ∧ ∀ y ∈ xs.take i, y = (z : Int) → ¬ n ≤ Flow.mc (webOf l xs (X ||| o)))) (fun iv W => xs.length - (intOf iv).toNat)
    case atStart => exact ⟨0, Nat.zero_le _, rfl, Lib.hid ⟨rfl, fun y hy => by simp at hy⟩⟩
    case round =>
     obtain ⟨i, hi, rfl, HI2⟩ := hrel
     have hww : wr = _ := HI2.out.1
     subst hww
     by_cases hlt2 : i < xs.length
     ·have hltJ : (i : Int) < (xs.length : Int) := by omega
      obtain ⟨y, hy⟩ : ∃ y, xs[i]? = some y := ⟨_, List.getElem?_eq_getElem hlt2⟩
      obtain ⟨fg, e, xy⟩ := Kd.at_int HST.out.2.1.rx (i : Int) (by omega) hltJ
      cases e
      have hrd : rd xs (i : Int) = y := by rw [rd_at hlt2]; exact (List.getElem?_eq_some_iff.1 hy).2
      simp only [Int.toNat_natCast] at xy
      rw [hrd] at xy
      have HYM := Lib.hid (List.mem_of_getElem? hy)
      have HTK := Lib.hid (take_at hy)
      have HMORE := Lib.hid (fun (h : y = (z : Int) → ¬ n ≤ Flow.mc (webOf l xs (X ||| o))) => show ∀ y ∈ xs.take (i + 1), y = (z : Int) → ¬ n ≤ Flow.mc (webOf l xs (X ||| o)) from fun t ht => by
       rw [HTK.out] at ht
       rcases List.mem_append.1 ht with ht | ht
       ·exact HI2.out.2 t ht
       ·rw [List.mem_singleton] at ht
        rw [ht]; exact h)
      clear hrd hy
      cases hyz : (y == (z : Int)) with
      |false =>
       have HN := Lib.hid (HMORE.out (fun h => by rw [h] at hyz; simp at hyz))
       go_wp2_with fail
       go_roundw
       case rel => exact ⟨i + 1, by omega, by go_num, Lib.hid ⟨by first | trivial | rfl, HN.out⟩⟩
       case measure => exact meas_up1 hlt2
      |true =>
       have HYZ := Lib.hid (show y = (z : Int) by simpa using hyz)
       have hxo : X ||| o < 4096 := Nat.or_lt_two_pow (n := 12) HX.out HOL.out
       have HUU := Lib.hid (union_any X o HX.out HOL.out wr)
       have HSU := Lib.hid (rsupport_any _ c l _ b xs (X ||| o) wr HST.out.1 HST.out.2.1 HG.out.1 hxo)
       clear hxo
       go_wp2_with fail
       refine HUU.out.mono ?_
       rintro e wc ⟨rfl, rfl⟩
       go_wp2_with fail
       refine HSU.out.mono ?_
       rintro e we ⟨rfl, rfl⟩
       obtain ⟨mm, hmm⟩ : ∃ m, Flow.mc (webOf l xs (X ||| o)) = m := ⟨_, rfl⟩
       have HMM := Lib.hid hmm
       rw [hmm]
       clear hmm
       by_cases hnm : n ≤ mm
       ·have hd3 : decide (n ≤ mm) = true := decide_eq_true hnm
        have HT := Lib.hid (growR_done HB.out (HDN.out.2 ⟨z, HZ.out, (sd_bit xs z).2 ⟨y, HYM.out, by rw [HYZ.out]; simp⟩, by rw [HMM.out]; exact hnm⟩))
        clear hnm hyz
        go_wp2_with fail
        go_ret
        exact ⟨some fe, ce, by rw [HT.out]; rfl, Lib.hid ⟨by rw [HT.out]; exact HST.out.2.2, HBW.out, by rw [HT.out]; exact HLO.out.2.next HBW.out⟩⟩
       ·have hd3 : decide (n ≤ mm) = false := decide_eq_false hnm
        have HN := Lib.hid (HMORE.out (fun _ => by rw [HMM.out]; exact hnm))
        clear hnm hyz
        go_wp2_with fail
        go_roundw
        case rel => exact ⟨i + 1, by omega, by go_num, Lib.hid ⟨by first | trivial | rfl, HN.out⟩⟩
        case measure => exact meas_up1 hlt2
     ·obtain rfl : i = xs.length := by omega
      have HND := Lib.hid (show Flow.isDone (webOf l xs wo) (bitsOf u) v n = false by
       rw [← Bool.not_eq_true]
       intro h
       obtain ⟨x, e, h1, h2⟩ := HDN.out.1 h
       have e2 := e.symm.trans HZ.out
       cases e2
       obtain ⟨y, hy, e3⟩ := (sd_bit xs z).1 h1
       have hyr := valid_rng HG.out.2 (given_asrt HG.out.1) hy
       exact HI2.out.2 y (by rw [List.take_length]; exact hy) (by omega) h2)
      have HWI := Lib.hid hwi
      have HXZ := Lib.hid xz
      have HLI := Lib.hid hli
      clear HI2 hwi xz hli
      go_wp2_with fail
      go_loopw [15] (fun iv W => ∃ i : Nat, i ≤ l.length ∧ iv = .int .i64 i ∧ Hid (Below wr.heap.size wr W ∧ ∀ t ∈ l.take i, fitsR l xs wo u n v t.id.toNat = false)) (fun iv W => l.length - (intOf iv).toNat)
      case atStart => exact ⟨0, Nat.zero_le _, rfl, Lib.hid ⟨HBW.out, fun t ht => by simp at ht⟩⟩
      case round =>
       obtain ⟨i, hi, rfl, HJ⟩ := hrel
       by_cases hil : i < l.length
       ·have hiI : (i : Int) < (l.length : Int) := by omega
        obtain ⟨s, hsi⟩ : ∃ s, l[i]? = some s := ⟨l[i], List.getElem?_eq_getElem hil⟩
        have hvs := valid_src HG.out.2 (List.mem_of_getElem? hsi)
        obtain ⟨ad, FA, fc, e, x0, x1, x2, hfc, hCf⟩ := at_S (HST.out.1.next HJ.out.1).rl hsi
        cases e
        have HSI := Lib.hid hsi
        have HSM := Lib.hid (List.mem_of_getElem? hsi)
        obtain ⟨id, hid⟩ : ∃ id : Nat, s.id = id := ⟨s.id.toNat, by omega⟩
        have hid12 : id < 12 := by omega
        have HID := Lib.hid (show s.id.toNat = id by omega)
        have HIDI := Lib.hid hid
        rw [hid] at x0
        have HCF := Lib.hid hCf
        have HFR := Lib.hid hvs
        have HSKIP := Lib.hid (fun (h : fitsR l xs wo u n v id = false) => show ∀ t ∈ l.take (i + 1), fitsR l xs wo u n v t.id.toNat = false from fun t ht => by
         rw [take_at HSI.out] at ht
         rcases List.mem_append.1 ht with ht | ht
         ·exact HJ.out.2 t ht
         ·rw [List.mem_singleton] at ht
          rw [ht, HID.out]; exact h)
        have HSTJ := Lib.hid (And.intro (HST.out.1.next HJ.out.1) (And.intro (HST.out.2.1.next HJ.out.1) (HST.out.2.2.next HJ.out.1)))
        have hfl : s.frm.length ≤ 3 := hvs.2.2.1
        clear hsi hvs hCf hid hfc x1
        have hz0 : ((v.length : Int) == 0) = false := by have := HNE.out; simp; intro h; rw [h] at this; simp at this
        have hg0 : decide (0 < v.length) = true := decide_eq_true HNE.out
        have HAF := Lib.hid (show Flow.after (webOf l xs wo) v id = true ↔ (z : Int) ∈ s.frm by
         have h := rafter_last (xs := xs) (wo := wo) HG.out.2 HSM.out HZ.out
         rw [HID.out] at h
         exact h)
        go_wp2_with fail
        clear hz0
        go_loopw [17, 18] (fun bv kv W => ∃ (k : Nat) (q : Bool), k ≤ s.frm.length ∧ kv = .int .i64 k ∧ bv = .bool q ∧ Hid (Below wr.heap.size wr W ∧ (q = true ↔ (z : Int) ∈ s.frm.take k))) (fun bv kv W => s.frm.length - (intOf kv).toNat)
        case atStart => exact ⟨0, false, Nat.zero_le _, rfl, rfl, Lib.hid ⟨Below.refl _ _, by simp⟩⟩
        case round =>
         obtain ⟨k, q, hk, rfl, rfl, HK⟩ := hrel
         by_cases hkl : k < s.frm.length
         ·have hkI : (k : Int) < (s.frm.length : Int) := by omega
          have hd1 : decide (k < s.frm.length) = true := decide_eq_true hkl
          obtain ⟨y, hy⟩ : ∃ y, s.frm[k]? = some y := ⟨_, List.getElem?_eq_getElem hkl⟩
          obtain ⟨fd, e, xy⟩ := Kd.at_int (Kd.C_below HCF.out HK.out.1) (k : Int) (by omega) hkI
          cases e
          have hrd : rd s.frm (k : Int) = y := by rw [rd_at hkl]; exact (List.getElem?_eq_some_iff.1 hy).2
          simp only [Int.toNat_natCast] at xy
          rw [hrd] at xy
          have HTK := Lib.hid (take_at hy)
          have x2k := pw_cell_below HK.out.1 x2
          have zk := pw_cell_below (HJ.out.1.trans (HK.out.1.mono HJ.out.1.size)) HXZ.out
          have hwi := HWI.out
          have hli := HLI.out
          have eF := cell_ext x2k
          have eY := cell_ext xy
          have eZ := cell_ext zk
          clear hrd hy
          cases q with
          |true =>
           have HN := Lib.hid (show ((true : Bool) = true ↔ (z : Int) ∈ s.frm.take (k + 1)) by
            have h := HK.out.2.1 rfl
            rw [HTK.out]
            exact ⟨fun _ => List.mem_append_left _ h, fun _ => rfl⟩)
           go_wp2_with fail
           refine region_ext (by kernel_rfl) (by kernel_rfl) ?_
           repeat (go_big_quiet_step (fail))
           refine wpQuiet_nil ?_
           rintro W' ⟨Y, rfl⟩
           clear eF eY eZ
           go_wp2_with fail
           go_roundw
           case rel => exact ⟨k + 1, true, by omega, by go_num, rfl, Lib.hid ⟨HK.out.1.trans (Y.2.below (fun _ _ h => h) HK.out.1.size), by have h := HN.out; simpa using h⟩⟩
           case measure => exact meas_up1 hkl
          |false =>
           have HKN := Lib.hid (show (z : Int) ∉ s.frm.take k from fun h => by have := HK.out.2.2 h; cases this)
           cases hyz : (y == (z : Int)) with
           |true =>
            have HN := Lib.hid (show ((true : Bool) = true ↔ (z : Int) ∈ s.frm.take (k + 1)) by
             rw [HTK.out]
             exact ⟨fun _ => List.mem_append_right _ (by rw [List.mem_singleton]; exact (beq_iff_eq.1 hyz).symm), fun _ => rfl⟩)
            go_wp2_with fail
            refine region_ext (by kernel_rfl) (by kernel_rfl) ?_
            repeat (go_big_quiet_step (fail))
            refine wpQuiet_nil ?_
            rintro W' ⟨Y, rfl⟩
            clear eF eY eZ
            go_wp2_with fail
            go_roundw
            case rel => exact ⟨k + 1, true, by omega, by go_num, rfl, Lib.hid ⟨HK.out.1.trans (Y.2.below (fun _ _ h => h) HK.out.1.size), by have h := HN.out; simpa using h⟩⟩
            case measure => exact meas_up1 hkl
           |false =>
            have HN := Lib.hid (show ((false : Bool) = true ↔ (z : Int) ∈ s.frm.take (k + 1)) by
             rw [HTK.out]
             refine ⟨fun h => (by cases h), fun h => ?_⟩
             rcases List.mem_append.1 h with h | h
             ·exact absurd h HKN.out
             ·rw [List.mem_singleton] at h
              rw [h] at hyz; simp at hyz)
            go_wp2_with fail
            refine region_ext (by kernel_rfl) (by kernel_rfl) ?_
            repeat (go_big_quiet_step (fail))
            refine wpQuiet_nil ?_
            rintro W' ⟨Y, rfl⟩
            clear eF eY eZ
            go_wp2_with fail
            go_roundw
            case rel => exact ⟨k + 1, false, by omega, by go_num, rfl, Lib.hid ⟨HK.out.1.trans (Y.2.below (fun _ _ h => h) HK.out.1.size), HN.out⟩⟩
            case measure => exact meas_up1 hkl
         ·obtain rfl : k = s.frm.length := by omega
          have hd1 : decide (s.frm.length < s.frm.length) = false := decide_eq_false (by omega)
          have x2k := pw_cell_below HK.out.1 x2
          have HAFQ := Lib.hid (show Flow.after (webOf l xs wo) v id = q by
           have h := HK.out.2
           rw [List.take_length] at h
           rw [Bool.eq_iff_iff, h]; exact HAF.out)
          clear HAF
          have HAF := HAFQ; clear HAFQ
          have HSTK := Lib.hid (And.intro (HSTJ.out.1.next HK.out.1) (And.intro (HSTJ.out.2.1.next HK.out.1) (HSTJ.out.2.2.next HK.out.1))); clear HSTJ
          have HSTJ := HSTK; clear HSTK
          have HJK := Lib.hid (And.intro (HJ.out.1.trans (HK.out.1.mono HJ.out.1.size)) HJ.out.2); clear HJ
          have HJ := HJK; clear HJK HK
          generalize q = bq at *
          cases bq with
          |false =>
           go_wp2_with fail
           clear hd1
           have HN := Lib.hid (HSKIP.out (by
            rw [← Bool.not_eq_true]
            intro h
            have := (fits_cand h).1.1
            rw [HAF.out] at this; cases this))
           first | go_roundw | (go_wp2_with fail; go_roundw)
           case rel => exact ⟨i + 1, by omega, by go_num, Lib.hid ⟨HJ.out.1, HN.out⟩⟩
           case measure => exact meas_up1 hil
          |true =>
           go_wp2_with fail
           clear hd1
           refine (rhas_any o id HOL.out (by omega) _).mono ?_
           rintro e wa ⟨rfl, rfl⟩
           cases hob : o.testBit id with
           |true =>
            have HN := Lib.hid (HSKIP.out (by
             rw [← Bool.not_eq_true]
             intro h
             exact (fits_cand h).1.2.2.1 ((HOM.out id).1 hob)))
            clear hob
            go_wp2_with fail
            go_roundw
            case rel => exact ⟨i + 1, by omega, by go_num, Lib.hid ⟨HJ.out.1, HN.out⟩⟩
            case measure => exact meas_up1 hil
           |false =>
            have HOB := Lib.hid hob; clear hob
            go_wp2_with fail
            refine (rhas_any X id HX.out (by omega) _).mono ?_
            rintro e wb ⟨rfl, rfl⟩
            cases hxb : X.testBit id with
            |true =>
             have HN := Lib.hid (HSKIP.out (by
              rw [← Bool.not_eq_true]
              intro h
              have hc := (fits_cand h).1
              have := HXB.out id
              rw [hxb, hc.2.1, hc.2.2.2] at this; cases this))
             clear hxb
             go_wp2_with fail
             go_roundw
             case rel => exact ⟨i + 1, by omega, by go_num, Lib.hid ⟨HJ.out.1, HN.out⟩⟩
             case measure => exact meas_up1 hil
            |false =>
             have HCA := Lib.hid (show cand l xs wo u v id from by
              have h := HXB.out id
              rw [hxb] at h
              have h := h.symm
              rw [Bool.or_eq_false_iff] at h
              refine ⟨HAF.out, h.2, fun hm => ?_, h.1⟩
              have h2 := (HOM.out id).2 hm
              rw [HOB.out] at h2; cases h2)
             clear hxb
             obtain ⟨ge, hge⟩ : ∃ q, wb.heap.size = q := ⟨_, rfl⟩
             have hE0 : (Kd.int .i64).R 3 (wb.alloc (.cells #[] 3)) ge (fun k => ge ≤ k) (.slice (some ⟨ge, 0, none⟩) 0 0) [] := empty_row hge (by omega) (by omega)
             have hbE := (Below.refl wb.heap.size wb).alloc (Nat.le_refl _) (.cells #[] 3)
             have hbG : Below ge wb (wb.alloc (.cells #[] 3)) := by rw [← hge]; exact hbE
             have hzG : ge ≤ (wb.alloc (.cells #[] 3)).heap.size := by rw [← hge]; exact hbE.size
             have hVC := Kd.C_below HSTJ.out.2.2.rx hbE
             rw [List.length_map] at hVC
             have HE := Lib.hid (And.intro hE0 (And.intro hbG (And.intro hVC hzG))); clear hE0 hbE hbG hzG hVC
             have HGE := Lib.hid hge
             go_wp2_with (at_builtin; go_loud (refine Kd.R_append_rows (Kd.int .i64) (w0 := wb) (Rr := fun x cs => cs = [.int .i64 x]) ge rfl (.tmp 135) (.tmp 136) 26 3 (.int .i64 0) 8 rfl Tryd.underlying26 info3 rfl (by decide) (by decide) _ [] (v.map Int.ofNat) _ v.length ce (fun k => ge ≤ k) (fun _ => False) rfl rfl HE.out.1 HE.out.2.2.1 (fun _ _ h => h) (fun _ h => h.elim) (fun k hk => Nat.le_trans HE.out.2.2.2 hk) HE.out.2.1 HE.out.2.2.2 (by have := HVL12.out; simp only [List.length_nil]; omega) ?_))
             intro v1 w1 h1 h2 h3 h4
             try rw [List.nil_append] at h1
             obtain ⟨V1, hV1⟩ : ∃ V, v.map Int.ofNat = V := ⟨_, rfl⟩
             have hV1l : V1.length = v.length := by rw [← hV1, List.length_map]
             have HV1 := Lib.hid (And.intro hV1 hV1l)
             rw [hV1] at h1
             obtain ⟨VI, vi, rfl⟩ := Kd.R_slice h1
             have hz7 : ge ≤ w1.heap.size := by have := h2.size; have := HGE.out; omega
             have HR1 := Lib.hid (And.intro h1 (And.intro h2 hz7)); clear h1 h2 h3 h4 hz7 hV1 hV1l
             go_wp2_with (at_builtin; go_loud (refine Kd.R_append (Kd.int .i64) (w0 := wb) ge rfl (.tmp 137) (.tmp 139) 26 3 (.int .i64 0) 8 rfl Tryd.underlying26 info3 rfl (by decide) (by decide) (.slice VI V1.length vi) V1 (id : Int) [.int .i64 (id : Int)] (fun k => ge ≤ k) (fun _ => False) rfl rfl rfl (fun _ h => h.elim) (fun k hk => Nat.le_trans HR1.out.2.2 hk) HR1.out.1 HR1.out.2.1 HR1.out.2.2 (by have := HVL12.out; have := HV1.out.2; omega) ?_))
             intro v2 w2 h1 h2 h3 h4
             obtain ⟨V2, hV2⟩ : ∃ V, V1 ++ [(id : Int)] = V := ⟨_, rfl⟩
             have HV2 := Lib.hid (show V2 = (v ++ [id]).map Int.ofNat ∧ V2.length = (v ++ [id]).length by
              rw [← hV2, ← HV1.out.1]
              exact ⟨by simp, by simp⟩)
             rw [hV2] at h1
             have h1f := h1
             obtain ⟨YA, yc, rfl, hyc, hyC⟩ := Kd.R_reads h1
             have HLY := Lib.hid (show OwnI lo YA yc (v ++ [id]) w2 from by
              have hlg : lo ≤ ge := by
               have a1 := HLO.out.1
               have a2 := HJ.out.1.size
               have a3 := HGE.out
               omega
              unfold OwnI
              rw [← HV2.out.2, ← HV2.out.1]
              exact Kd.R_lower (Kd.R_mono h1f (fun k hk => Nat.le_trans hlg hk)) hlg)
             clear h1f
             have HB2 := Lib.hid (show Below wb.heap.size wb w2 by rw [HGE.out]; exact h2)
             have HY := Lib.hid (show IntAt YA yc ((v ++ [id]).map Int.ofNat) w2 by rw [← HV2.out.1]; exact ⟨hyC, hyc⟩)
             rw [HV2.out.2]
             clear h1 h2 h3 h4 hyc hyC hge hV2
             have HREC := Lib.hid (IH.out (v ++ [id]) _ c _ b YA yc w2 (by have := HD.out; have := HVL12.out; rw [List.length_append, List.length_singleton]; omega) (cand_beg HB.out HCA.out hid12) (HSTJ.out.1.next HB2.out) (HSTJ.out.2.1.next HB2.out) HY.out HN12.out lo (by have a1 := HLO.out.1; have a2 := HJ.out.1.size; have a3 := HB2.out.size; omega) HLY.out)
             rw [HXE.out] at HREC
             have HTRY := Lib.hid (growR_try (n := n) HG.out.2 HB.out hid12 HCA.out)
             have HTAKE := Lib.hid (fun hf => growR_take (n := n) HG.out.2 HB.out HND.out HSI.out HJ.out.2 (by rw [HID.out]; exact hf))
             rw [HID.out] at HTAKE
             generalize hvid : v ++ [id] = v' at HREC HTRY HTAKE ⊢
             clear hvid HY HV2 HV1
             go_wp2_with fail
             refine HREC.out.mono ?_
             rintro e w4 ⟨RA, rc, rfl, HR⟩
             have HBB := Lib.hid (HJ.out.1.trans ((HB2.out.trans (HR.out.2.1.mono HB2.out.size)).mono HJ.out.1.size))
             obtain ⟨rl, hrl⟩ : ∃ r, growR l xs wo u n v' = r := ⟨_, rfl⟩
             rw [hrl] at HR HTRY HTAKE ⊢
             clear hrl HREC
             by_cases hpos : 0 < rl.length
             ·have hd2 : decide (0 < rl.length) = true := decide_eq_true hpos
              have HT := Lib.hid (HTAKE.out (HTRY.out.1 hpos))
              clear hpos
              go_wp2_with fail
              go_ret
              exact ⟨RA, rc, by rw [HT.out]; rfl, Lib.hid ⟨by rw [HT.out]; exact HR.out.1, HBB.out, by rw [HT.out]; exact HR.out.2.2⟩⟩
             ·have hd2 : decide (0 < rl.length) = false := decide_eq_false hpos
              have HN := Lib.hid (HSKIP.out (by rw [← Bool.not_eq_true]; exact fun h => hpos (HTRY.out.2 h)))
              clear hpos
              go_wp2_with fail
              go_roundw
              case rel => exact ⟨i + 1, by omega, by go_num, Lib.hid ⟨HBB.out, HN.out⟩⟩
              case measure => exact meas_up1 hil
       ·obtain rfl : i = l.length := by omega
        have HE := Lib.hid (growR_end HG.out.2 HB.out HND.out (fun t ht => HJ.out.2 t (by rw [List.take_length]; exact ht)))
        go_wp2_with fail
        go_ret
        exact ⟨none, 0, by rw [HE.out]; rfl, Lib.hid ⟨by rw [HE.out]; exact ⟨Kd.C_nil _ _, Nat.le_refl _⟩, HJ.out.1, by rw [HE.out]; exact Kd.R_nil _ _ _ _ _⟩⟩
theorem rleast_any (l : List Src) (xs : List Int) (wo u n : Nat) (hg : givenB l xs = true) (hwo : wo < 4096) (hu : u < 4096) (d : Nat) : LeastD l xs wo u n d := by
 induction d with
 |zero => intro v A c B b E ce w hd hb; have := hb.len; omega
 |succ d ih => exact fun v A c B b E ce w hd hb hs hi he hn lo h1 h2 => rleast_step l xs wo u n hg hwo hu d ih v A c B b E ce w hd hb hs hi he hn lo h1 h2
end Go.Proofs.YticngcjfofcoiaaDoor
