/- Contracts of Clone, Index, Contains, Compare and Equal over lists of whole numbers. -/
import Derived.Test.YticngcjfofcoiaaDoorXs
namespace Go.Proofs.YticngcjfofcoiaaDoor
open Go.RowKit Go.Rg Go.Proofs.YticngcjfofcoiaaDoorW.PrintWords
set_option linter.unusedVariables false
set_option linter.unusedSimpArgs false
def Fresh (w : World) (w' : World) (v : Value) (xs : List Int) : Prop := (Kd.int .i64).R 3 w' w.heap.size (fun k => w.heap.size ≤ k) v xs ∧ Below w.heap.size w w'
def fIdx {α : Type} (p : α → Bool) (xs : List α) : Int := match xs.findIdx? p with | some i => (i : Int) | none => -1
theorem fIdx_none {α : Type} {p : α → Bool} {xs : List α} (h : xs.any p = false) : fIdx p xs = -1 := by
 unfold fIdx
 rw [List.findIdx?_eq_none_iff.2 (by simpa using h)]
theorem fIdx_at {α : Type} {p : α → Bool} {xs : List α} {k : Nat} (hk : k < xs.length) (h : (xs.take k).any p = false) (hp : p xs[k] = true) : fIdx p xs = k := by
 unfold fIdx
 rw [List.findIdx?_eq_some_iff_getElem.2 ⟨hk, hp, fun j hj => ?_⟩]
 have h' : ∀ x ∈ xs.take k, ¬ p x = true := by simpa using h
 have := h' xs[j] (by rw [List.mem_take_iff_getElem]; exact ⟨j, by omega, rfl⟩)
 simpa using this
theorem fIdx_nonneg {α : Type} (p : α → Bool) (xs : List α) : decide (0 ≤ fIdx p xs) = xs.any p := by
 cases h : xs.any p with
 |false => rw [fIdx_none h]; rfl
 |true =>
  unfold fIdx
  have : (xs.findIdx? p).isSome = true := by rw [List.findIdx?_isSome]; exact h
  cases e : xs.findIdx? p with
  |none => rw [e] at this; cases this
  |some i => simp
theorem any_take_succ {α : Type} {p : α → Bool} {xs : List α} {k : Nat} (hk : k < xs.length) (h : (xs.take k).any p = false) (hp : p xs[k] = false) : (xs.take (k + 1)).any p = false := by
 rw [List.take_succ_eq_append_getElem hk, List.any_append, h]
 simp [hp]
theorem rd_get {xs : List Int} {k : Nat} (hk : k < xs.length) : rd xs k = xs[k] := by
 unfold rd
 simp [hk]
theorem max_len {α : Type} {d : Kd α} {w : World} {A : Option Addr} {xs : List α} (h : d.C w A xs.length xs) : xs.length ≤ 9223372036854775807 := h.2.1
set_option maxRecDepth 10000
theorem indexI_any (A : Option Addr) (c : Nat) (xs : List Int) (x : Int) (w : World) (hr : (Kd.int .i64).C w A xs.length xs) :
  Calls Tryd.prog 59 #[.slice A xs.length c, .int .i64 x] w fun e w' => e = .returned (.int .i64 (fIdx (fun y => x == y) xs)) ∧ w = w' := by
 have hm := max_len hr
 have HR := Lib.hid hr; clear hr
 go_enter Tryd.func59, Tryd.ntmps59
 go_wp2
 go_loop [8] (fun i => ∃ k : Nat, k ≤ xs.length ∧ Hid ((xs.take k).any (fun y => x == y) = false) ∧ i = .int .i64 k) (fun i => xs.length - (intOf i).toNat)
 case atStart => exact ⟨0, Nat.zero_le _, Lib.hid (by simp), rfl⟩
 case round =>
  obtain ⟨k, hk, HA, rfl⟩ := hrel
  by_cases hlt : k < xs.length
  ·have hltI : (k : Int) < (xs.length : Int) := by omega
   obtain ⟨ad, e, hx⟩ := Kd.at_int HR.out (k : Int) (by omega) hltI
   cases e
   simp only [Int.toNat_natCast] at hx
   by_cases hq : x = rd xs (k : Int)
   ·have q1 : (x == rd xs (k : Int)) = true := by simpa using hq
    have H1 := Lib.hid hq; clear hq
    go_wp2
    go_ret
    exact ⟨ret_int (fIdx_at hlt HA.out (by have := H1.out; rw [rd_get hlt] at this; simpa using this)).symm, rfl⟩
   ·have q1 : (x == rd xs (k : Int)) = false := by simpa using hq
    have H1 := Lib.hid hq; clear hq
    go_wp2
    go_round
    case rel => exact ⟨k + 1, by omega, Lib.hid (any_take_succ hlt HA.out (by have := H1.out; rw [rd_get hlt] at this; simpa using this)), by go_num⟩
    case measure => simp [intOf]; omega
  ·obtain rfl : k = xs.length := by omega
   go_wp2
   go_ret
   exact ⟨ret_int (fIdx_none (by have := HA.out; rwa [List.take_length] at this)).symm, rfl⟩
theorem containsI_any (A : Option Addr) (c : Nat) (xs : List Int) (x : Int) (w : World) (hr : (Kd.int .i64).C w A xs.length xs) :
  Calls Tryd.prog 44 #[.slice A xs.length c, .int .i64 x] w fun e w' => e = .returned (.bool (xs.contains x)) ∧ w = w' := by
 have hq : decide (0 ≤ fIdx (fun y => x == y) xs) = xs.contains x := by rw [fIdx_nonneg, List.contains_eq_any_beq]
 have HR := Lib.hid hr; clear hr
 go_enter Tryd.func44, Tryd.ntmps44
 go_wp2_with fail
 refine (indexI_any A c xs x _ HR.out).mono ?_
 rintro e w' ⟨rfl, rfl⟩
 have HQ := Lib.hid hq; clear hq
 generalize fIdx (fun y => x == y) xs = n at *
 go_wp2_with fail
 go_ret
 exact ⟨ret_bool HQ.out, rfl⟩
theorem cloneI_some (ad : Addr) (c : Nat) (xs : List Int) (w : World) (hr : (Kd.int .i64).C w (some ad) xs.length xs) (hl : xs.length ≤ 1000) :
  Calls Tryd.prog 38 #[.slice (some ad) xs.length c] w fun e w' => ∃ v, e = .returned v ∧ Fresh w w' v xs := by
 have hb : Below w.heap.size w (w.alloc (.cells #[] 3)) := (Below.refl _ _).alloc (Nat.le_refl _) _
 have hown : (Kd.int .i64).R 3 (w.alloc (.cells #[] 3)) w.heap.size (fun k => w.heap.size ≤ k) (.slice (some ⟨w.heap.size, 0, none⟩) 0 0) [] :=
  Kd.R_of_own (own_lit w w.heap.size 3 .i64 [] (Nat.le_refl _) (by simp)) (fun k hk => by simp [Value.ownBlock] at hk; omega)
 have hr2 := Kd.C_below hr hb
 have HB := Lib.hid hb; clear hb
 have HO := Lib.hid hown; clear hown
 have HR := Lib.hid hr2; clear hr2 hr
 have hz := Nat.le_refl w.heap.size
 have hsz : w.heap.size ≤ (w.alloc (.cells #[] 3)).heap.size := by simp
 have HSZ := Lib.hid hsz; clear hsz
 have heq : ∀ W, (binOp .eql 26 (.slice (some ad) xs.length c) (.slice none 0 0)).run Tryd.prog W = .ok (.bool false) W := fun W => Lib.run_eql_slice_nil W 26 3 (some ad) xs.length c 0 0 Tryd.underlying26
 go_enter Tryd.func38, Tryd.ntmps38
 go_wp2_with (at_builtin; refine Kd.R_append_rows (Kd.int .i64) (w0 := w) (Rr := fun x cs => cs = [.int .i64 x]) w.heap.size rfl (.tmp 5) (.tmp 6) 26 3 (.int .i64 0) 8 rfl Tryd.underlying26 info3 rfl (by decide) (by decide) _ [] xs (some ad) xs.length c (fun k => w.heap.size ≤ k) (fun _ => False) rfl rfl HO.out HR.out (fun _ _ h => h) (fun _ h => h.elim) (fun k hk => Nat.le_trans HSZ.out hk) HB.out HSZ.out (by simp only [List.length_nil]; omega) ?_; intro v1 w1 h1 h2 h3 h4)
 rw [List.nil_append] at h1
 have H1 := Lib.hid h1; clear h1
 have H2 := Lib.hid h2; clear h2 h3 h4
 go_wp2_with fail
 go_ret
 exact ⟨_, rfl, H1.out, H2.out⟩
theorem indexW_any (A : Option Addr) (c : Nat) (xs : List Int) (x : Int) (w : World) (hr : (Kd.int .i64).C w A xs.length xs) :
  Calls Tryd.prog 73 #[.slice A xs.length c, .int .i64 x] w fun e w' => e = .returned (.int .i64 (fIdx (fun y => x == y) xs)) ∧ w = w' := by
 have hm := max_len hr
 have HR := Lib.hid hr; clear hr
 go_enter Tryd.func73, Tryd.ntmps73
 go_wp2
 go_loop [8] (fun i => ∃ k : Nat, k ≤ xs.length ∧ Hid ((xs.take k).any (fun y => x == y) = false) ∧ i = .int .i64 k) (fun i => xs.length - (intOf i).toNat)
 case atStart => exact ⟨0, Nat.zero_le _, Lib.hid (by simp), rfl⟩
 case round =>
  obtain ⟨k, hk, HA, rfl⟩ := hrel
  by_cases hlt : k < xs.length
  ·have hltI : (k : Int) < (xs.length : Int) := by omega
   obtain ⟨ad, e, hx⟩ := Kd.at_int HR.out (k : Int) (by omega) hltI
   cases e
   simp only [Int.toNat_natCast] at hx
   by_cases hq : x = rd xs (k : Int)
   ·have q1 : (x == rd xs (k : Int)) = true := by simpa using hq
    have H1 := Lib.hid hq; clear hq
    go_wp2
    go_ret
    exact ⟨ret_int (fIdx_at hlt HA.out (by have := H1.out; rw [rd_get hlt] at this; simpa using this)).symm, rfl⟩
   ·have q1 : (x == rd xs (k : Int)) = false := by simpa using hq
    have H1 := Lib.hid hq; clear hq
    go_wp2
    go_round
    case rel => exact ⟨k + 1, by omega, Lib.hid (any_take_succ hlt HA.out (by have := H1.out; rw [rd_get hlt] at this; simpa using this)), by go_num⟩
    case measure => simp [intOf]; omega
  ·obtain rfl : k = xs.length := by omega
   go_wp2
   go_ret
   exact ⟨ret_int (fIdx_none (by have := HA.out; rwa [List.take_length] at this)).symm, rfl⟩
theorem containsW_any (A : Option Addr) (c : Nat) (xs : List Int) (x : Int) (w : World) (hr : (Kd.int .i64).C w A xs.length xs) :
  Calls Tryd.prog 68 #[.slice A xs.length c, .int .i64 x] w fun e w' => e = .returned (.bool (xs.contains x)) ∧ w = w' := by
 have hq : decide (0 ≤ fIdx (fun y => x == y) xs) = xs.contains x := by rw [fIdx_nonneg, List.contains_eq_any_beq]
 have HR := Lib.hid hr; clear hr
 go_enter Tryd.func68, Tryd.ntmps68
 go_wp2_with fail
 refine (indexW_any A c xs x _ HR.out).mono ?_
 rintro e w' ⟨rfl, rfl⟩
 have HQ := Lib.hid hq; clear hq
 generalize fIdx (fun y => x == y) xs = n at *
 go_wp2_with fail
 go_ret
 exact ⟨ret_bool HQ.out, rfl⟩
theorem cloneW_some (ad : Addr) (c : Nat) (xs : List Int) (w : World) (hr : (Kd.int .i64).C w (some ad) xs.length xs) (hl : xs.length ≤ 1000) :
  Calls Tryd.prog 67 #[.slice (some ad) xs.length c] w fun e w' => ∃ v, e = .returned v ∧ Fresh w w' v xs := by
 have hb : Below w.heap.size w (w.alloc (.cells #[] 3)) := (Below.refl _ _).alloc (Nat.le_refl _) _
 have hown : (Kd.int .i64).R 3 (w.alloc (.cells #[] 3)) w.heap.size (fun k => w.heap.size ≤ k) (.slice (some ⟨w.heap.size, 0, none⟩) 0 0) [] :=
  Kd.R_of_own (own_lit w w.heap.size 3 .i64 [] (Nat.le_refl _) (by simp)) (fun k hk => by simp [Value.ownBlock] at hk; omega)
 have hr2 := Kd.C_below hr hb
 have HB := Lib.hid hb; clear hb
 have HO := Lib.hid hown; clear hown
 have HR := Lib.hid hr2; clear hr2 hr
 have hz := Nat.le_refl w.heap.size
 have hsz : w.heap.size ≤ (w.alloc (.cells #[] 3)).heap.size := by simp
 have HSZ := Lib.hid hsz; clear hsz
 have heq : ∀ W, (binOp .eql 91 (.slice (some ad) xs.length c) (.slice none 0 0)).run Tryd.prog W = .ok (.bool false) W := fun W => Lib.run_eql_slice_nil W 91 3 (some ad) xs.length c 0 0 Tryd.underlying91
 go_enter Tryd.func67, Tryd.ntmps67
 go_wp2_with (at_builtin; refine Kd.R_append_rows (Kd.int .i64) (w0 := w) (Rr := fun x cs => cs = [.int .i64 x]) w.heap.size rfl (.tmp 5) (.tmp 6) 91 3 (.int .i64 0) 8 rfl Tryd.underlying91 info3 rfl (by decide) (by decide) _ [] xs (some ad) xs.length c (fun k => w.heap.size ≤ k) (fun _ => False) rfl rfl HO.out HR.out (fun _ _ h => h) (fun _ h => h.elim) (fun k hk => Nat.le_trans HSZ.out hk) HB.out HSZ.out (by simp only [List.length_nil]; omega) ?_; intro v1 w1 h1 h2 h3 h4)
 rw [List.nil_append] at h1
 have H1 := Lib.hid h1; clear h1
 have H2 := Lib.hid h2; clear h2 h3 h4
 go_wp2_with fail
 go_ret
 exact ⟨_, rfl, H1.out, H2.out⟩
theorem cloneW_any (A : Option Addr) (c : Nat) (xs : List Int) (w : World) (hr : (Kd.int .i64).C w A xs.length xs) (hl : xs.length ≤ 1000) (hc : xs.length ≤ c) (h0 : A = none → c = 0) :
  Calls Tryd.prog 67 #[.slice A xs.length c] w fun e w' => ∃ v, e = .returned v ∧ Fresh w w' v xs := by
 cases A with
 |some ad => exact cloneW_some ad c xs w hr hl
 |none =>
  obtain rfl := h0 rfl
  obtain rfl : xs = [] := List.eq_nil_of_length_eq_zero (by omega)
  have heq : ∀ W, (binOp .eql 91 (.slice none 0 0) (.slice none 0 0)).run Tryd.prog W = .ok (.bool true) W := fun W => Lib.run_eql_slice_nil W 91 3 none 0 0 0 0 Tryd.underlying91
  rw [List.length_nil]
  go_enter Tryd.func67, Tryd.ntmps67
  go_wp2_with fail
  go_ret
  exact ⟨_, rfl, Kd.R_nil _ _ _ _ _, Below.refl _ _⟩
def cmpV (x y : Int) : Int := if x < y then -1 else if y < x then 1 else 0
theorem nan_any (x : Int) (w : World) : Calls Tryd.prog 77 #[.int .i64 x] w fun e w' => e = .returned (.bool false) ∧ w' = w := by
 go_enter Tryd.func77, Tryd.ntmps77
 go_wp2
 go_ret
 exact ⟨by simp, rfl⟩
theorem cmp_any (x y : Int) (w : World) : Calls Tryd.prog 76 #[.int .i64 x, .int .i64 y] w fun e w' => e = .returned (.int .i64 (cmpV x y)) ∧ w' = w := by
 have h3 : (decide (x < y) = true ∧ cmpV x y = -1) ∨ (decide (x < y) = false ∧ decide (y < x) = true ∧ cmpV x y = 1) ∨ (decide (x < y) = false ∧ decide (y < x) = false ∧ cmpV x y = 0) := by
  unfold cmpV
  by_cases h1 : x < y
  ·simp [h1]
  ·by_cases h2 : y < x <;> simp [h1, h2]
 go_enter Tryd.func76, Tryd.ntmps76
 rcases h3 with ⟨h1, h4⟩ | ⟨h1, h2, h4⟩ | ⟨h1, h2, h4⟩ <;> rw [h4] <;> clear h4
 all_goals
  go_wp2_with fail
  refine (nan_any _ _).mono ?_
  rintro e w1 ⟨rfl, rfl⟩
  go_wp2_with fail
  refine (nan_any _ _).mono ?_
  rintro e w1 ⟨rfl, rfl⟩
  go_wp2_with fail
  go_ret
  exact ⟨rfl, rfl⟩
def lexC : List Int → List Int → Int
 |[], [] => 0
 |[], _ :: _ => -1
 |_ :: _, [] => 1
 |a :: r, b :: q => if a < b then -1 else if b < a then 1 else lexC r q
theorem lexC_at {a b : List Int} {i : Nat} (ha : i < a.length) (hb : i < b.length) : (cmpV a[i] b[i] ≠ 0 → lexC (a.drop i) (b.drop i) = cmpV a[i] b[i]) ∧ (cmpV a[i] b[i] = 0 → lexC (a.drop i) (b.drop i) = lexC (a.drop (i + 1)) (b.drop (i + 1))) := by
 rw [List.drop_eq_getElem_cons ha, List.drop_eq_getElem_cons hb]
 unfold cmpV
 simp only [lexC]
 by_cases h1 : a[i] < b[i]
 ·simp [h1]
 ·by_cases h2 : b[i] < a[i] <;> simp [h1, h2]
theorem lexC_over {a b : List Int} {i : Nat} (ha : i < a.length) (hb : b.length ≤ i) : lexC (a.drop i) (b.drop i) = 1 := by
 rw [List.drop_eq_getElem_cons ha, List.drop_of_length_le hb]; rfl
theorem lexC_done {a b : List Int} : lexC (a.drop a.length) (b.drop a.length) = if a.length < b.length then -1 else 0 := by
 rw [List.drop_of_length_le (Nat.le_refl _)]
 by_cases h : a.length < b.length
 ·rw [if_pos h, List.drop_eq_getElem_cons h]; rfl
 ·rw [if_neg h, List.drop_of_length_le (by omega)]; rfl
set_option maxRecDepth 100000 in
theorem compare_any (A0 : Option Addr) (c0 : Nat) (a : List Int) (A1 : Option Addr) (c1 : Nat) (b : List Int) (w : World) (ha : (Kd.int .i64).C w A0 a.length a) (hc0 : a.length ≤ c0) (hb : (Kd.int .i64).C w A1 b.length b) (hc1 : b.length ≤ c1) :
  Calls Tryd.prog 74 #[.slice A0 a.length c0, .slice A1 b.length c1] w fun e w' => e = .returned (.int .i64 (lexC a b)) ∧ Below w.heap.size w w' := by
 have hma : a.length ≤ 9223372036854775807 := ha.2.1
 have hmb : b.length ≤ 9223372036854775807 := hb.2.1
 have HA := Lib.hid (And.intro ha hb); clear ha hb
 go_enter Tryd.func74, Tryd.ntmps74
 go_wp2_with fail
 go_loopw [11] (fun iv wr => ∃ i : Nat, i ≤ a.length ∧ iv = .int .i64 i ∧ Hid (lexC a b = lexC (a.drop i) (b.drop i) ∧ Below w.heap.size w wr)) (fun iv wr => a.length - (intOf iv).toNat)
 case atStart => exact ⟨0, Nat.zero_le _, rfl, Lib.hid ⟨rfl, Below.refl _ _⟩⟩
 case round =>
  obtain ⟨i, hi, rfl, HI⟩ := hrel
  by_cases hil : i < a.length
  ·have hiI : (i : Int) < (a.length : Int) := by omega
   obtain ⟨xd, e, hx⟩ := Kd.at_int (Kd.C_below HA.out.1 HI.out.2) (i : Int) (by omega) hiI
   cases e
   simp only [Int.toNat_natCast] at hx
   rw [rd_get hil] at hx
   by_cases hib : i < b.length
   ·have hiJ : (i : Int) < (b.length : Int) := by omega
    have hiK : ¬ (b.length : Int) ≤ (i : Int) := by omega
    obtain ⟨yd, e, hy⟩ := Kd.at_int (Kd.C_below HA.out.2 HI.out.2) (i : Int) (by omega) hiJ
    cases e
    simp only [Int.toNat_natCast] at hy
    rw [rd_get hib] at hy
    have hL := lexC_at hil hib
    generalize a[i] = x at *
    generalize b[i] = y at *
    have HLX := Lib.hid hL; clear hL
    go_wp2_with fail
    refine (cmp_any x y wr).mono ?_
    rintro e w1 ⟨rfl, rfl⟩
    generalize cmpV x y = q at *
    cases hq : (q != 0) with
    |true =>
     have HN := Lib.hid (HI.out.1.trans (HLX.out.1 (by simpa using hq)))
     go_wp2_with fail
     go_ret
     exact ⟨ret_int HN.out.symm, HI.out.2⟩
    |false =>
     have HN := Lib.hid (HI.out.1.trans (HLX.out.2 (by simpa using hq)))
     go_wp2_with fail
     go_roundw
     case rel => exact ⟨i + 1, by omega, by go_num, Lib.hid ⟨HN.out, HI.out.2⟩⟩
     case measure => simp [intOf]; omega
   ·have hiK : (b.length : Int) ≤ (i : Int) := by omega
    have HN := Lib.hid (HI.out.1.trans (lexC_over hil (by omega)))
    go_wp2_with fail
    go_ret
    exact ⟨ret_int HN.out.symm, HI.out.2⟩
  ·obtain rfl : i = a.length := by omega
   have hN := HI.out.1.trans lexC_done
   by_cases hab : a.length < b.length
   ·have habI : (a.length : Int) < (b.length : Int) := by omega
    rw [if_pos hab] at hN
    have HN := Lib.hid hN; clear hN
    go_wp2_with fail
    go_ret
    exact ⟨ret_int HN.out.symm, HI.out.2⟩
   ·have habI : ¬ (a.length : Int) < (b.length : Int) := by omega
    rw [if_neg hab] at hN
    have HN := Lib.hid hN; clear hN
    go_wp2_with fail
    go_ret
    exact ⟨ret_int HN.out.symm, HI.out.2⟩
theorem compareW_any (A0 : Option Addr) (c0 : Nat) (a : List Int) (A1 : Option Addr) (c1 : Nat) (b : List Int) (w : World) (ha : (Kd.int .i64).C w A0 a.length a) (hc0 : a.length ≤ c0) (hb : (Kd.int .i64).C w A1 b.length b) (hc1 : b.length ≤ c1) :
  Calls Tryd.prog 70 #[.slice A0 a.length c0, .slice A1 b.length c1] w fun e w' => e = .returned (.int .i64 (lexC a b)) ∧ Below w.heap.size w w' := by
 have HC := Lib.hid (compare_any A0 c0 a A1 c1 b w ha hc0 hb hc1)
 clear ha hb
 go_enter Tryd.func70, Tryd.ntmps70
 go_wp2_with fail
 refine HC.out.mono ?_
 rintro e w' ⟨rfl, hb⟩
 go_wp2_with fail
 go_ret
 exact ⟨rfl, hb⟩
theorem take_step {a b : List Int} {i : Nat} (ha : i < a.length) (hb : i < b.length) (h : a.take i = b.take i) (he : a[i] = b[i]) : a.take (i + 1) = b.take (i + 1) := by
 rw [List.take_succ_eq_append_getElem ha, List.take_succ_eq_append_getElem hb, h, he]
theorem ne_at {a b : List Int} {i : Nat} (ha : i < a.length) (hb : i < b.length) (he : a[i] ≠ b[i]) : decide (a = b) = false := by
 rw [decide_eq_false_iff_not]; intro h; subst h; exact he rfl
theorem ne_len {a b : List Int} (h : a.length ≠ b.length) : decide (a = b) = false := by
 rw [decide_eq_false_iff_not]; intro e; subst e; exact h rfl
set_option maxRecDepth 100000 in
theorem equalI_any (A0 : Option Addr) (c0 : Nat) (a : List Int) (A1 : Option Addr) (c1 : Nat) (b : List Int) (w : World) (ha : (Kd.int .i64).C w A0 a.length a) (hc0 : a.length ≤ c0) (hb : (Kd.int .i64).C w A1 b.length b) (hc1 : b.length ≤ c1) :
  Calls Tryd.prog 48 #[.slice A0 a.length c0, .slice A1 b.length c1] w fun e w' => e = .returned (.bool (decide (a = b))) ∧ Below w.heap.size w w' := by
 have hma : a.length ≤ 9223372036854775807 := ha.2.1
 have hmb : b.length ≤ 9223372036854775807 := hb.2.1
 have HA := Lib.hid (And.intro ha hb); clear ha hb
 go_enter Tryd.func48, Tryd.ntmps48
 by_cases hl : a.length = b.length
 ·have hne : ((a.length : Int) != (b.length : Int)) = false := by rw [bneD]; simp [hl]
  go_wp2_with fail
  go_loopw [13] (fun iv wr => ∃ i : Nat, i ≤ a.length ∧ iv = .int .i64 i ∧ Hid (a.take i = b.take i ∧ Below w.heap.size w wr)) (fun iv wr => a.length - (intOf iv).toNat)
  case atStart => exact ⟨0, Nat.zero_le _, rfl, Lib.hid ⟨rfl, Below.refl _ _⟩⟩
  case round =>
   obtain ⟨i, hi, rfl, HI⟩ := hrel
   by_cases hil : i < a.length
   ·have hiI : (i : Int) < (a.length : Int) := by omega
    have hiJ : (i : Int) < (b.length : Int) := by omega
    have hib : i < b.length := by omega
    obtain ⟨xd, e, hx⟩ := Kd.at_int (Kd.C_below HA.out.1 HI.out.2) (i : Int) (by omega) hiI
    cases e
    obtain ⟨yd, e, hy⟩ := Kd.at_int (Kd.C_below HA.out.2 HI.out.2) (i : Int) (by omega) hiJ
    cases e
    simp only [Int.toNat_natCast] at hx hy
    rw [rd_get hil] at hx
    rw [rd_get hib] at hy
    have h1 := take_step hil hib HI.out.1
    have h2 := ne_at hil hib
    generalize a[i] = x at *
    generalize b[i] = y at *
    have eX := cell_ext hx
    have eY := cell_ext hy
    cases hxy : (x != y) with
    |false =>
     have HN := Lib.hid (h1 (by simpa using hxy)); clear h1 h2
     go_wp2_with fail
     refine region_ext (by kernel_rfl) (by kernel_rfl) ?_
     repeat (go_big_quiet_step (fail))
     refine wpQuiet_nil ?_
     rintro W' ⟨X, rfl⟩
     go_wp2_with fail
     go_roundw
     case rel => exact ⟨i + 1, by omega, by go_num, Lib.hid ⟨HN.out, HI.out.2.trans (X.2.below (fun _ _ h => h) HI.out.2.size)⟩⟩
     case measure => simp [intOf]; omega
    |true =>
     have HN := Lib.hid (h2 (by simpa using hxy)); clear h1 h2
     go_wp2_with fail
     refine region_ext (by kernel_rfl) (by kernel_rfl) ?_
     repeat (go_big_quiet_step (fail))
     refine wpQuiet_nil ?_
     rintro W' ⟨X, rfl⟩
     go_wp2_with fail
     go_ret
     exact ⟨ret_bool HN.out.symm, HI.out.2.trans (X.2.below (fun _ _ h => h) HI.out.2.size)⟩
   ·obtain rfl : i = a.length := by omega
    have HN := Lib.hid (show decide (a = b) = true by
     have := HI.out.1
     rw [List.take_length, hl, List.take_length] at this
     exact decide_eq_true this)
    have hfin : ¬ ((a.length : Int) < (b.length : Int)) := by omega
    go_wp2_with fail
    go_ret
    exact ⟨ret_bool HN.out.symm, HI.out.2⟩
 ·have hne : ((a.length : Int) != (b.length : Int)) = true := by rw [bneD]; simp; omega
  have HN := Lib.hid (ne_len hl)
  go_wp2_with fail
  go_ret
  exact ⟨ret_bool HN.out.symm, Below.refl _ _⟩
end Go.Proofs.YticngcjfofcoiaaDoor
