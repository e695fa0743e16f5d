/- Plain facts of CalendarThereAndBack: what Minute and Read accept is what Parts and Print return. -/
import Derived.Test.YtkbdgelfjdahpaaOrdP
namespace Go.Proofs.Ytkbdgelfjdahpaa
open Go.RowKit Go.Rg Go.Shelf
set_option linter.unusedVariables false
set_option linter.unusedSimpArgs false

theorem size_list (s : ByteArray) : s.size = s.data.toList.length := Array.length_toList.symm
theorem eq_of_bt {s t : ByteArray} (h : s.size = t.size) (hb : ∀ j, j < s.size → bt s j = bt t j) : s = t := by
  apply ByteArray.ext
  apply Array.ext'
  rw [size_list, size_list] at h
  apply List.ext_getElem h
  intro i h1 h2
  have := hb i (by rw [size_list]; exact h1)
  unfold bt at this
  simp only [List.getD_eq_getElem?_getD, List.getElem?_eq_getElem h1, List.getElem?_eq_getElem h2, Option.getD_some] at this
  exact UInt8.toNat.inj (by omega)
theorem bt_nums (l : List Int) (j : Nat) (hj : j < l.length) (h : 0 ≤ l.getD j 0 ∧ l.getD j 0 ≤ 255) : bt (strOfNums l) j = l.getD j 0 := by
  unfold bt
  rw [strOfNums_data]
  simp only [List.getD_eq_getElem?_getD, List.getElem?_map, List.getElem?_eq_getElem hj, Option.map_some, Option.getD_some] at h ⊢
  rw [UInt8.toNat_ofNat']
  omega
theorem bt_left (a b : ByteArray) (j : Nat) (h : j < a.size) : bt (a ++ b) j = bt a j := by
  unfold bt
  rw [ByteArray.data_append]
  rw [size_list] at h
  simp [List.getD_eq_getElem?_getD, List.getElem?_append_left h]
theorem bt_right (a b : ByteArray) (j k : Nat) (h : k = a.size + j) : bt (a ++ b) k = bt b j := by
  unfold bt
  rw [ByteArray.data_append]
  rw [size_list] at h
  subst h
  simp [List.getD_eq_getElem?_getD, List.getElem?_append_right]
theorem bt_date (d t : ByteArray) (h : d.size = 10) (j : Nat) (hj : j < 10) : bt (joined d t) j = bt d j := by
  unfold joined
  rw [bt_left _ _ _ (by rw [ByteArray.size_append]; omega), bt_left _ _ _ (by omega)]
theorem bt_clock (d t : ByteArray) (h : d.size = 10) (j k : Nat) (hk : k = 11 + j) : bt (joined d t) k = bt t j := by
  unfold joined
  exact bt_right _ _ _ _ (by rw [ByteArray.size_append, h]; show k = 10 + 1 + j; omega)

/-- The bytes of a date and a clock that are printed. -/
theorem joined_nums (a b : List Int) : joined (strOfNums a) (strOfNums b) = strOfNums (a ++ [32] ++ b) := by
  unfold joined
  rw [show (⟨#[32]⟩ : ByteArray) = strOfNums [32] from rfl, nums_app, nums_app]

def line (y mo d h mi : Int) : List Int := dateL y mo d ++ [32] ++ clockL h mi
theorem line_eq (y mo d h mi : Int) : line y mo d h mi = [48 + y / 10 / 10 / 10 % 10, 48 + y / 10 / 10 % 10, 48 + y / 10 % 10, 48 + y % 10, 45, 48 + mo / 10 % 10, 48 + mo % 10, 45, 48 + d / 10 % 10, 48 + d % 10, 32, 48 + h / 10 % 10, 48 + h % 10, 58, 48 + mi / 10 % 10, 48 + mi % 10] := rfl
theorem line_bt (y mo d h mi : Int) (j : Nat) (hj : j < 16) : bt (strOfNums (line y mo d h mi)) j = (line y mo d h mi).getD j 0 := by
  apply bt_nums
  · exact hj
  · rw [line_eq]
    have : j = 0 ∨ j = 1 ∨ j = 2 ∨ j = 3 ∨ j = 4 ∨ j = 5 ∨ j = 6 ∨ j = 7 ∨ j = 8 ∨ j = 9 ∨ j = 10 ∨ j = 11 ∨ j = 12 ∨ j = 13 ∨ j = 14 ∨ j = 15 := by omega
    rcases this with rfl | rfl | rfl | rfl | rfl | rfl | rfl | rfl | rfl | rfl | rfl | rfl | rfl | rfl | rfl | rfl <;> simp only [List.getD_cons_zero, List.getD_cons_succ] <;> omega
theorem wf_line (y mo d h mi : Int) : wf (strOfNums (line y mo d h mi)) := by
  intro j hj
  unfold okb
  rw [line_bt _ _ _ _ _ _ hj, line_eq]
  have : j = 0 ∨ j = 1 ∨ j = 2 ∨ j = 3 ∨ j = 4 ∨ j = 5 ∨ j = 6 ∨ j = 7 ∨ j = 8 ∨ j = 9 ∨ j = 10 ∨ j = 11 ∨ j = 12 ∨ j = 13 ∨ j = 14 ∨ j = 15 := by omega
  have s0 : ∀ k : Nat, k ∈ [0, 1, 2, 3, 5, 6, 8, 9, 11, 12, 14, 15] → shp k = 48 := by decide +kernel
  have s1 : shp 4 = 45 := by decide +kernel
  have s2 : shp 7 = 45 := by decide +kernel
  have s3 : shp 10 = 32 := by decide +kernel
  have s4 : shp 13 = 58 := by decide +kernel
  rcases this with rfl | rfl | rfl | rfl | rfl | rfl | rfl | rfl | rfl | rfl | rfl | rfl | rfl | rfl | rfl | rfl
  all_goals simp only [List.getD_cons_zero, List.getD_cons_succ]
  all_goals first
    | (rw [s0 _ (by decide)]; simp only [if_true, Bool.and_eq_true, decide_eq_true_eq]; omega)
    | (rw [s1]; decide)
    | (rw [s2]; decide)
    | (rw [s3]; decide)
    | (rw [s4]; decide)
theorem n4_line (y mo d h mi : Int) (hy : 0 ≤ y ∧ y ≤ 9999) : n4 (strOfNums (line y mo d h mi)) 0 = y := by
  unfold n4
  rw [line_bt _ _ _ _ _ _ (by omega), line_bt _ _ _ _ _ _ (by omega), line_bt _ _ _ _ _ _ (by omega), line_bt _ _ _ _ _ _ (by omega), line_eq]
  simp only [Nat.zero_add, Nat.reduceAdd, List.getD_cons_zero, List.getD_cons_succ]
  omega
theorem n2_mo (y mo d h mi : Int) (hy : 0 ≤ mo ∧ mo ≤ 99) : n2 (strOfNums (line y mo d h mi)) 5 = mo := by
  unfold n2
  rw [line_bt _ _ _ _ _ _ (by omega), line_bt _ _ _ _ _ _ (by omega), line_eq]
  simp only [List.getD_cons_zero, List.getD_cons_succ]
  omega
theorem n2_d (y mo d h mi : Int) (hy : 0 ≤ d ∧ d ≤ 99) : n2 (strOfNums (line y mo d h mi)) 8 = d := by
  unfold n2
  rw [line_bt _ _ _ _ _ _ (by omega), line_bt _ _ _ _ _ _ (by omega), line_eq]
  simp only [List.getD_cons_zero, List.getD_cons_succ]
  omega
theorem n2_h (y mo d h mi : Int) (hy : 0 ≤ h ∧ h ≤ 99) : n2 (strOfNums (line y mo d h mi)) 11 = h := by
  unfold n2
  rw [line_bt _ _ _ _ _ _ (by omega), line_bt _ _ _ _ _ _ (by omega), line_eq]
  simp only [List.getD_cons_zero, List.getD_cons_succ]
  omega
theorem n2_mi (y mo d h mi : Int) (hy : 0 ≤ mi ∧ mi ≤ 99) : n2 (strOfNums (line y mo d h mi)) 14 = mi := by
  unfold n2
  rw [line_bt _ _ _ _ _ _ (by omega), line_bt _ _ _ _ _ _ (by omega), line_eq]
  simp only [List.getD_cons_zero, List.getD_cons_succ]
  omega

/-- Read takes back what Print wrote. -/
theorem read_back (y mo d h mi o v : Int) (hok : okC y mo d h mi o) (hv : atN y mo d h mi o = v) (h0 : 0 ≤ v ∧ v ≤ 50000000) :
    readRes (strOfNums (dateL y mo d)) (strOfNums (clockL h mi)) o = .tuple #[.int .i64 v, .int .i64 0] := by
  have hm := month_of hok.2.1
  have hd := days_bd y mo
  have hj : joined (strOfNums (dateL y mo d)) (strOfNums (clockL h mi)) = strOfNums (line y mo d h mi) := joined_nums _ _
  obtain ⟨k1, k2, k3, k4, k5⟩ := hok
  unfold readRes readOk
  rw [hj, n4_line _ _ _ _ _ (by omega), n2_mo _ _ _ _ _ (by omega), n2_d _ _ _ _ _ (by omega), n2_h _ _ _ _ _ (by omega), n2_mi _ _ _ _ _ (by omega), hv]
  rw [if_pos ⟨by rw [strOfNums_size]; rfl, by rw [strOfNums_size]; rfl, wf_line _ _ _ _ _, ⟨k1, k2, k3, k4, k5⟩, h0⟩]

/-- Print writes what Read took. -/
theorem print_back (d t : ByteArray) (h1 : d.size = 10) (h2 : t.size = 5) (hw : wf (joined d t)) :
    strOfNums (dateL (n4 (joined d t) 0) (n2 (joined d t) 5) (n2 (joined d t) 8)) = d ∧ strOfNums (clockL (n2 (joined d t) 11) (n2 (joined d t) 14)) = t := by
  have s0 : ∀ k : Nat, k ∈ [0, 1, 2, 3, 5, 6, 8, 9, 11, 12, 14, 15] → shp k = 48 := by decide +kernel
  have s1 : shp 4 = 45 := by decide +kernel
  have s2 : shp 7 = 45 := by decide +kernel
  have s4 : shp 13 = 58 := by decide +kernel
  have dg : ∀ k : Nat, k ∈ [0, 1, 2, 3, 5, 6, 8, 9, 11, 12, 14, 15] → 48 ≤ bt (joined d t) k ∧ bt (joined d t) k ≤ 57 := by
    intro k hk
    have hk16 : k < 16 := by simp at hk; omega
    have := hw k hk16
    unfold okb at this
    rw [s0 k hk] at this
    simpa using this
  have e4 : bt (joined d t) 4 = 45 := by have := hw 4 (by omega); unfold okb at this; rw [s1] at this; simpa using this
  have e7 : bt (joined d t) 7 = 45 := by have := hw 7 (by omega); unfold okb at this; rw [s2] at this; simpa using this
  have e13 : bt (joined d t) 13 = 58 := by have := hw 13 (by omega); unfold okb at this; rw [s4] at this; simpa using this
  have b := fun k hk => dg k hk
  have q0 := b 0 (by decide)
  have q1 := b 1 (by decide)
  have q2 := b 2 (by decide)
  have q3 := b 3 (by decide)
  have q5 := b 5 (by decide)
  have q6 := b 6 (by decide)
  have q8 := b 8 (by decide)
  have q9 := b 9 (by decide)
  have q11 := b 11 (by decide)
  have q12 := b 12 (by decide)
  have q14 := b 14 (by decide)
  have q15 := b 15 (by decide)
  clear b dg s0 s1 s2 s4 hw
  constructor
  · refine eq_of_bt (by rw [strOfNums_size, h1]; rfl) (fun j hj => ?_)
    rw [strOfNums_size] at hj
    have hj' : j < 10 := hj
    rw [← bt_date d t h1 j hj']
    unfold n4 n2
    simp only [Nat.zero_add, Nat.add_zero, Nat.reduceAdd]
    generalize bt (joined d t) = f at *
    have : j = 0 ∨ j = 1 ∨ j = 2 ∨ j = 3 ∨ j = 4 ∨ j = 5 ∨ j = 6 ∨ j = 7 ∨ j = 8 ∨ j = 9 := by omega
    rcases this with rfl | rfl | rfl | rfl | rfl | rfl | rfl | rfl | rfl | rfl
    all_goals rw [bt_nums _ _ (by exact hj') (by simp only [dateL, d4, d2, List.cons_append, List.nil_append, List.getD_cons_zero, List.getD_cons_succ]; omega)]
    all_goals simp only [dateL, d4, d2, List.cons_append, List.nil_append, List.getD_cons_zero, List.getD_cons_succ]
    all_goals omega
  · refine eq_of_bt (by rw [strOfNums_size, h2]; rfl) (fun j hj => ?_)
    rw [strOfNums_size] at hj
    have hj' : j < 5 := hj
    rw [← bt_clock d t h1 j (11 + j) rfl]
    unfold n2
    simp only [Nat.zero_add, Nat.add_zero, Nat.reduceAdd]
    generalize bt (joined d t) = f at *
    have : j = 0 ∨ j = 1 ∨ j = 2 ∨ j = 3 ∨ j = 4 := by omega
    rcases this with rfl | rfl | rfl | rfl | rfl
    all_goals rw [bt_nums _ _ (by exact hj') (by simp only [clockL, d2, List.cons_append, List.nil_append, List.getD_cons_zero, List.getD_cons_succ]; omega)]
    all_goals simp only [clockL, d2, List.cons_append, List.nil_append, List.getD_cons_zero, List.getD_cons_succ, Nat.reduceAdd]
    all_goals omega
end Go.Proofs.Ytkbdgelfjdahpaa
