/- The contracts of Print, of the program and of the reference. -/
import Derived.Test.YtkbdgelfjdahpaaRparts
import Derived.Test.YtkbdgelfjdahpaaDig
namespace Go.Proofs.Ytkbdgelfjdahpaa
open Go.RowKit Go.Rg Go.Shelf
set_option linter.unusedVariables false
set_option linter.unusedSimpArgs false

def dateL (y m d : Int) : List Int := d4 y ++ [45] ++ d2 m ++ [45] ++ d2 d
def clockL (h mi : Int) : List Int := d2 h ++ [58] ++ d2 mi
theorem nums_app (a b : List Int) : strOfNums a ++ strOfNums b = strOfNums (a ++ b) := by
  have h : ∀ x y : ByteArray, (x ++ y).data = x.data ++ y.data := fun x y => ByteArray.data_append
  apply ByteArray.ext
  rw [h]
  simp [strOfNums]
theorem nums_45 : (⟨#[45]⟩ : ByteArray) = strOfNums [45] := rfl
theorem nums_58 : (⟨#[58]⟩ : ByteArray) = strOfNums [58] := rfl
theorem dateL_eq (y m d : Int) : strOfNums (d4 y) ++ ⟨#[45]⟩ ++ strOfNums (d2 m) ++ ⟨#[45]⟩ ++ strOfNums (d2 d) = strOfNums (dateL y m d) := by
  rw [nums_45]; simp only [nums_app]; rfl
theorem clockL_eq (h mi : Int) : strOfNums (d2 h) ++ ⟨#[58]⟩ ++ strOfNums (d2 mi) = strOfNums (clockL h mi) := by
  rw [nums_58]; simp only [nums_app]; rfl
theorem my_bd {n : Nat} (h : n ≤ 50000) : 0 ≤ my n ∧ my n ≤ 99999 := by unfold my; omega
theorem mm_bd {n : Nat} : 0 ≤ mm n ∧ mm n ≤ 99999 := by unfold mm; omega


theorem print_no (m o : Int) (w : World) (h : okB m o = false) :
    Calls Try.prog 13 #[.int .i64 m, .int .i64 o] w fun e w' => e = .returned (.tuple #[.string ⟨#[]⟩, .string ⟨#[]⟩, .int .i64 60]) ∧ Below w.heap.size w w' := by
  have H := Lib.hid h; clear h
  go_enter Try.func13, Try.ntmps13
  go_wp2_with fail
  refine (parts_no _ _ _ H.out).mono ?_
  rintro e w' ⟨rfl, hb⟩
  unfold civil
  go_wp2_with fail
  go_ret3
  exact ⟨rfl, hb.alloc hb.size _⟩

theorem rprint_no (m o : Int) (w : World) (h : okB m o = false) :
    Calls Try.prog 14 #[.int .i64 m, .int .i64 o] w fun e w' => e = .returned (.tuple #[.string ⟨#[]⟩, .string ⟨#[]⟩, .int .i64 60]) ∧ Below w.heap.size w w' := by
  have H := Lib.hid h; clear h
  go_enter Try.func14, Try.ntmps14
  go_wp2_with fail
  refine (rparts_no _ _ _ H.out).mono ?_
  rintro e w' ⟨rfl, hb⟩
  unfold civil
  go_wp2_with fail
  go_ret3
  exact ⟨rfl, hb.alloc hb.size _⟩

set_option maxHeartbeats 1000000 in
theorem print_yes (m o : Int) (n : Nat) (w : World) (h : okB m o = true) (hn : n ≤ 50000) (h1 : before n ≤ (m + o + 525600) / 1440) (h2 : (m + o + 525600) / 1440 < before (n + 1)) :
    Calls Try.prog 13 #[.int .i64 m, .int .i64 o] w fun e w' => e = .returned (.tuple #[.string (strOfNums (dateL (my n) (mm n) ((m + o + 525600) / 1440 - before n + 1))), .string (strOfNums (clockL ((m + o + 525600) % 1440 / 60) ((m + o + 525600) % 60))), .int .i64 0]) ∧ Below w.heap.size w w' := by
  have hd : 0 ≤ (m + o + 525600) / 1440 - before n + 1 ∧ (m + o + 525600) / 1440 - before n + 1 ≤ 99999 := by
    have := days_bd (my n) (mm n); simp only [before] at h2; omega
  have hy := my_bd hn
  have hm := @mm_bd n
  have hh : 0 ≤ (m + o + 525600) % 1440 / 60 ∧ (m + o + 525600) % 1440 / 60 ≤ 99999 := by omega
  have hi : 0 ≤ (m + o + 525600) % 60 ∧ (m + o + 525600) % 60 ≤ 99999 := by omega
  have H := Lib.hid h; clear h
  have H1 := Lib.hid h1; clear h1
  have H2 := Lib.hid h2; clear h2
  have Hd := Lib.hid hd; clear hd
  have Hy := Lib.hid hy; clear hy
  have Hm := Lib.hid hm; clear hm
  have Hh := Lib.hid hh; clear hh
  have Hi := Lib.hid hi; clear hi
  go_enter Try.func13, Try.ntmps13
  go_wp2_with fail
  refine (parts_yes _ _ n _ H.out (by omega) H1.out H2.out).mono ?_
  rintro e w' ⟨rfl, hb⟩
  unfold civil
  generalize gD : (m + o + 525600) / 1440 - before n + 1 = D at *
  have GD := Lib.hid gD; clear gD
  generalize ghh : (m + o + 525600) % 1440 / 60 = hh at *
  have Ghh := Lib.hid ghh; clear ghh
  generalize gmi : (m + o + 525600) % 60 = mi at *
  have Gmi := Lib.hid gmi; clear gmi
  generalize ((m + o + 525600) / 1440 + 4) % 7 = wd at *
  generalize gy : my n = y at *
  have Gy := Lib.hid gy; clear gy
  generalize gmo : mm n = mo at *
  have Gmo := Lib.hid gmo; clear gmo
  go_wp2_with fail
  have hb0 := heap_new (o := .cells #[.int .i64 y, .int .i64 mo, .int .i64 D, .int .i64 hh, .int .i64 mi, .int .i64 wd] 23) (W := w') rfl
  have hB := hb.alloc hb.size (.cells #[.int .i64 y, .int .i64 mo, .int .i64 D, .int .i64 hh, .int .i64 mi, .int .i64 wd] 23)
  have hsz := hb.size
  generalize hBo : w'.heap.size = Bo at *
  generalize w'.alloc (.cells #[.int .i64 y, .int .i64 mo, .int .i64 D, .int .i64 hh, .int .i64 mi, .int .i64 wd] 23) = W0 at hb0 hB ⊢
  have c0 := cell_ext (cell_of (o := 0) hb0 rfl)
  have c1 := cell_ext (cell_of (o := 1) hb0 rfl)
  have c2 := cell_ext (cell_of (o := 2) hb0 rfl)
  have c3 := cell_ext (cell_of (o := 3) hb0 rfl)
  have c4 := cell_ext (cell_of (o := 4) hb0 rfl)
  clear hBo hb0 hb
  have z4 : ∀ n, (strOfNums (d4 n)).size = 4 := fun _ => rfl
  have z2 : ∀ n, (strOfNums (d2 n)).size = 2 := fun _ => rfl
  refine region_ext (by kernel_rfl) (by kernel_rfl) ?_
  repeat (go_big_quiet_step (first | (go_at_call 25; with_reducible exact call_ext (digits4 _ _ Hy.out.1 Hy.out.2)) | (go_at_call 25; with_reducible exact call_ext (digits2 _ _ Hm.out.1 Hm.out.2)) | (go_at_call 25; with_reducible exact call_ext (digits2 _ _ Hd.out.1 Hd.out.2)) | (go_at_call 25; with_reducible exact call_ext (digits2 _ _ Hh.out.1 Hh.out.2)) | (go_at_call 25; with_reducible exact call_ext (digits2 _ _ Hi.out.1 Hi.out.2))))
  refine wpQuiet_nil ?_
  rintro W' ⟨⟨W1, hF1⟩, rfl⟩
  go_wp2_with fail
  go_ret3
  refine ⟨by rw [dateL_eq, clockL_eq, GD.out, Ghh.out, Gmi.out, Gy.out, Gmo.out]; rfl, hB.trans (hF1.below (fun k _ h => h) hB.size)⟩

set_option maxHeartbeats 1000000 in
theorem rprint_yes (m o : Int) (n : Nat) (w : World) (h : okB m o = true) (hn : n ≤ 50000) (h1 : before n ≤ (m + o + 525600) / 1440) (h2 : (m + o + 525600) / 1440 < before (n + 1)) :
    Calls Try.prog 14 #[.int .i64 m, .int .i64 o] w fun e w' => e = .returned (.tuple #[.string (strOfNums (dateL (my n) (mm n) ((m + o + 525600) / 1440 - before n + 1))), .string (strOfNums (clockL ((m + o + 525600) % 1440 / 60) ((m + o + 525600) % 60))), .int .i64 0]) ∧ Below w.heap.size w w' := by
  have hd : 0 ≤ (m + o + 525600) / 1440 - before n + 1 ∧ (m + o + 525600) / 1440 - before n + 1 ≤ 99999 := by
    have := days_bd (my n) (mm n); simp only [before] at h2; omega
  have hy := my_bd hn
  have hm := @mm_bd n
  have hh : 0 ≤ (m + o + 525600) % 1440 / 60 ∧ (m + o + 525600) % 1440 / 60 ≤ 99999 := by omega
  have hi : 0 ≤ (m + o + 525600) % 60 ∧ (m + o + 525600) % 60 ≤ 99999 := by omega
  have H := Lib.hid h; clear h
  have H1 := Lib.hid h1; clear h1
  have H2 := Lib.hid h2; clear h2
  have Hd := Lib.hid hd; clear hd
  have Hy := Lib.hid hy; clear hy
  have Hm := Lib.hid hm; clear hm
  have Hh := Lib.hid hh; clear hh
  have Hi := Lib.hid hi; clear hi
  go_enter Try.func14, Try.ntmps14
  go_wp2_with fail
  refine (rparts_yes _ _ n _ H.out (by omega) H1.out H2.out).mono ?_
  rintro e w' ⟨rfl, hb⟩
  unfold civil
  generalize gD : (m + o + 525600) / 1440 - before n + 1 = D at *
  have GD := Lib.hid gD; clear gD
  generalize ghh : (m + o + 525600) % 1440 / 60 = hh at *
  have Ghh := Lib.hid ghh; clear ghh
  generalize gmi : (m + o + 525600) % 60 = mi at *
  have Gmi := Lib.hid gmi; clear gmi
  generalize ((m + o + 525600) / 1440 + 4) % 7 = wd at *
  generalize gy : my n = y at *
  have Gy := Lib.hid gy; clear gy
  generalize gmo : mm n = mo at *
  have Gmo := Lib.hid gmo; clear gmo
  go_wp2_with fail
  have hb0 := heap_new (o := .cells #[.int .i64 y, .int .i64 mo, .int .i64 D, .int .i64 hh, .int .i64 mi, .int .i64 wd] 23) (W := w') rfl
  have hB := hb.alloc hb.size (.cells #[.int .i64 y, .int .i64 mo, .int .i64 D, .int .i64 hh, .int .i64 mi, .int .i64 wd] 23)
  have hsz := hb.size
  generalize hBo : w'.heap.size = Bo at *
  generalize w'.alloc (.cells #[.int .i64 y, .int .i64 mo, .int .i64 D, .int .i64 hh, .int .i64 mi, .int .i64 wd] 23) = W0 at hb0 hB ⊢
  have c0 := cell_ext (cell_of (o := 0) hb0 rfl)
  have c1 := cell_ext (cell_of (o := 1) hb0 rfl)
  have c2 := cell_ext (cell_of (o := 2) hb0 rfl)
  have c3 := cell_ext (cell_of (o := 3) hb0 rfl)
  have c4 := cell_ext (cell_of (o := 4) hb0 rfl)
  clear hBo hb0 hb
  have z4 : ∀ n, (strOfNums (d4 n)).size = 4 := fun _ => rfl
  have z2 : ∀ n, (strOfNums (d2 n)).size = 2 := fun _ => rfl
  refine region_ext (by kernel_rfl) (by kernel_rfl) ?_
  repeat (go_big_quiet_step (first | (go_at_call 26; with_reducible exact call_ext (rdigits4 _ _ Hy.out.1 Hy.out.2)) | (go_at_call 26; with_reducible exact call_ext (rdigits2 _ _ Hm.out.1 Hm.out.2)) | (go_at_call 26; with_reducible exact call_ext (rdigits2 _ _ Hd.out.1 Hd.out.2)) | (go_at_call 26; with_reducible exact call_ext (rdigits2 _ _ Hh.out.1 Hh.out.2)) | (go_at_call 26; with_reducible exact call_ext (rdigits2 _ _ Hi.out.1 Hi.out.2))))
  refine wpQuiet_nil ?_
  rintro W' ⟨⟨W1, hF1⟩, rfl⟩
  go_wp2_with fail
  go_ret3
  refine ⟨by rw [dateL_eq, clockL_eq, GD.out, Ghh.out, Gmi.out, Gy.out, Gmo.out]; rfl, hB.trans (hF1.below (fun k _ h => h) hB.size)⟩
end Go.Proofs.Ytkbdgelfjdahpaa
