/- The contract of asserting. -/
import Derived.Test.YticngcjfofcoiaaDoorSf
namespace Go.Proofs.YticngcjfofcoiaaDoor
open Go.RowKit Go.Rg Go.Proofs.YticngcjfofcoiaaDoorW.PrintWords
set_option linter.unusedVariables false
set_option linter.unusedSimpArgs false
set_option maxRecDepth 100000

/-- Is the number at i one of a source, and greater than the one before it? -/
def okAt (l : List Src) (xs : List Int) (i : Nat) : Bool := (fndS l (rd xs i)).isSome && (decide (i = 0) || decide (rd xs (i - 1 : Nat) < rd xs i))
def asrt (l : List Src) (xs : List Int) : Bool := (List.range xs.length).all (okAt l xs)
theorem asrt_no {l : List Src} {xs : List Int} {i : Nat} (hi : i < xs.length) (h : okAt l xs i = false) : asrt l xs = false := by
  unfold asrt
  rw [List.all_eq_false]
  exact ⟨i, List.mem_range.2 hi, by rw [h]; decide⟩
theorem upto_succ {p : Nat → Bool} {i : Nat} (h : (List.range i).all p = true) (hp : p i = true) : (List.range (i + 1)).all p = true := by
  rw [List.range_succ, List.all_append, h]
  simp [hp]
theorem asrt_any (A : Option Addr) (c : Nat) (l : List Src) (B : Option Addr) (d : Nat) (xs : List Int) (w : World) (hr : Kd.C kS w A l.length l) (hl : ∀ s ∈ l, s.frm.length ≤ 1000) (hx : (Kd.int .i64).C w B xs.length xs) :
    Calls Tryd.prog 43 #[.slice A l.length c, .slice B xs.length d] w fun e w' => e = .returned (.bool (asrt l xs)) ∧ Below w.heap.size w w' := by
  have hm := max_len hx
  have HR := Lib.hid (And.intro hr (And.intro hl hx)); clear hr hl hx
  go_enter Tryd.func43, Tryd.ntmps43
  go_wp2_with fail
  go_loopw [11] (fun iv wr => ∃ i : Nat, i ≤ xs.length ∧ iv = .int .i64 i ∧ Hid ((List.range i).all (okAt l xs) = true ∧ Below w.heap.size w wr)) (fun iv wr => xs.length - (intOf iv).toNat)
  case atStart => exact ⟨0, Nat.zero_le _, rfl, Lib.hid ⟨rfl, Below.refl _ _⟩⟩
  case round =>
    obtain ⟨i, hi, rfl, HI⟩ := hrel
    by_cases hlt : i < xs.length
    · have hltI : (i : Int) < (xs.length : Int) := by omega
      obtain ⟨ad, e, hy⟩ := Kd.at_int (Kd.C_below HR.out.2.2 HI.out.2) (i : Int) (by omega) hltI
      cases e
      simp only [Int.toNat_natCast] at hy
      have hfd := find_any A c l (rd xs i) wr (Kd.C_below HR.out.1 HI.out.2) HR.out.2.1
      have HFD := Lib.hid hfd; clear hfd
      obtain ⟨y, hyv⟩ : ∃ y, rd xs (i : Int) = y := ⟨_, rfl⟩
      rw [hyv] at hy HFD
      go_wp2_with fail
      refine HFD.out.mono ?_
      rintro e w1 ⟨v, rfl, hR, hb⟩
      obtain ⟨VA, vc, rfl⟩ := Kd.R_slice hR
      have HB := Lib.hid (HI.out.2.trans (hb.mono HI.out.2.size)); clear hb hR hy HFD
      obtain ⟨s, hs⟩ : ∃ s, (fndS l y).getD s0 = s := ⟨_, rfl⟩
      rw [hs]
      cases hth : (fndS l y).isSome with
      | false =>
        have HN := Lib.hid (asrt_no hlt (show okAt l xs i = false by unfold okAt; rw [hyv, hth]; rfl)); clear hth hs hyv
        go_wp2_with fail
        go_ret
        exact ⟨ret_bool HN.out.symm, HB.out.alloc HB.out.size _⟩
      | true =>
        have hbA := HB.out.alloc HB.out.size (.cells #[.int .i64 s.id, .int .i64 s.kind, .slice VA s.frm.length vc] 35)
        by_cases h0 : i = 0
        · subst h0
          have HN := Lib.hid (upto_succ HI.out.1 (show okAt l xs 0 = true by unfold okAt; rw [hyv, hth]; rfl)); clear hth hs hyv
          have HA := Lib.hid hbA; clear hbA
          go_wp2_with fail
          go_roundw
          case rel => exact ⟨0 + 1, by omega, by go_num, Lib.hid ⟨HN.out, HA.out⟩⟩
          case measure => exact meas_up1 hlt
        · obtain ⟨j, rfl⟩ : ∃ j, i = j + 1 := ⟨i - 1, by omega⟩
          have hjI : (j : Int) < (xs.length : Int) := by omega
          obtain ⟨ad2, e2, hy2⟩ := Kd.at_int (Kd.C_below HR.out.2.2 hbA) (j : Int) (by omega) hjI
          cases e2
          simp only [Int.toNat_natCast] at hy2
          obtain ⟨z, hz⟩ : ∃ z, rd xs (j : Int) = z := ⟨_, rfl⟩
          rw [hz] at hy2
          have hok : okAt l xs (j + 1) = decide (z < y) := by
            unfold okAt
            rw [hyv, hth, show ((j + 1 - 1 : Nat) : Int) = (j : Int) by simp, hz]
            simp
          have hgt : ((j + 1 : Nat) : Int) > 0 := by omega
          have hwj : wrap64 (((j + 1 : Nat) : Int) - 1) = (j : Int) := by unfold wrap64; omega
          have HA := Lib.hid hbA; clear hbA hth hs hyv hz
          by_cases hzy : z < y
          · have hge : ¬ z ≥ y := by omega
            have HN := Lib.hid (upto_succ HI.out.1 (show okAt l xs (j + 1) = true by rw [hok]; exact decide_eq_true hzy)); clear hok
            go_wp2_with fail
            go_roundw
            case rel => exact ⟨j + 1 + 1, by omega, by go_num, Lib.hid ⟨HN.out, HA.out⟩⟩
            case measure => exact meas_up1 hlt
          · have hge : z ≥ y := by omega
            have HN := Lib.hid (asrt_no hlt (show okAt l xs (j + 1) = false by rw [hok]; exact decide_eq_false hzy)); clear hok
            go_wp2_with fail
            go_ret
            exact ⟨ret_bool HN.out.symm, HA.out⟩
    · obtain rfl : i = xs.length := by omega
      have HN := Lib.hid (show asrt l xs = true from HI.out.1)
      go_wp2_with fail
      go_ret
      exact ⟨ret_bool HN.out.symm, HI.out.2⟩
end Go.Proofs.YticngcjfofcoiaaDoor
