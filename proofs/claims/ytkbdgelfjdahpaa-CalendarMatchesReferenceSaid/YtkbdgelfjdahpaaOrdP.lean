/- Plain facts of CalendarOrder: a later minute has a later date and time, and greater printed strings. -/
import Derived.Test.YtkbdgelfjdahpaaBef
import Derived.Test.YtkbdgelfjdahpaaNextW
namespace Go.Proofs.Ytkbdgelfjdahpaa
open Go.RowKit Go.Rg Go.Shelf
set_option linter.unusedVariables false
set_option linter.unusedSimpArgs false

/-- Print of m at o is p and q. -/
def PrintC (m o : Int) (p q : ByteArray) : Prop :=
  ∀ w, Calls Try.prog 13 #[.int .i64 m, .int .i64 o] w fun e w' => e = .returned (.tuple #[.string p, .string q, .int .i64 0]) ∧ Below w.heap.size w w'
theorem print_at (m o T : Int) (hT : m + o + 525600 = T) (n : Nat) (hm : 0 ≤ m ∧ m ≤ 50000000) (ho : -840 ≤ o ∧ o ≤ 840) (hn : n < 1400) (h1 : before n ≤ T / 1440) (h2 : T / 1440 < before (n + 1)) :
    PrintC m o (strOfNums (dateL (my n) (mm n) (T / 1440 - before n + 1))) (strOfNums (clockL (T % 1440 / 60) (T % 60))) := by
  subst hT
  exact fun w => print_yes m o n w (by unfold okB; simp; omega) (by omega) h1 h2

def BL (a b : List Int) : Bool := Op.bytesLess (a.map fun n => UInt8.ofNat n.toNat) (b.map fun n => UInt8.ofNat n.toNat)
theorem bl_lt (x y : Int) (r s : List Int) (h : 0 ≤ x) (hxy : x < y) (hy : y ≤ 255) : BL (x :: r) (y :: s) = true := by
  have : UInt8.ofNat x.toNat < UInt8.ofNat y.toNat := by
    rw [UInt8.lt_iff_toNat_lt]
    simp only [UInt8.toNat_ofNat']
    omega
  simp [BL, Op.bytesLess, this]
theorem bl_eq (x : Int) (r s : List Int) : BL (x :: r) (x :: s) = BL r s := by
  simp [BL, Op.bytesLess]
theorem bl_1 (x : Int) (r s : List Int) : BL ([x] ++ r) ([x] ++ s) = BL r s := bl_eq x r s
theorem bl_2 (n k : Int) (r s : List Int) (h : 0 ≤ n) (hnk : n < k) (hk : k ≤ 99) : BL (d2 n ++ r) (d2 k ++ s) = true := by
  simp only [d2, List.cons_append, List.nil_append]
  by_cases e : n / 10 % 10 = k / 10 % 10
  · rw [e, bl_eq]; exact bl_lt _ _ _ _ (by omega) (by omega) (by omega)
  · exact bl_lt _ _ _ _ (by omega) (by omega) (by omega)
theorem bl_2e (n : Int) (r s : List Int) : BL (d2 n ++ r) (d2 n ++ s) = BL r s := by
  simp only [d2, List.cons_append, List.nil_append, bl_eq]
theorem bl_4 (n k : Int) (r s : List Int) (h : 0 ≤ n) (hnk : n < k) (hk : k ≤ 9999) : BL (d4 n ++ r) (d4 k ++ s) = true := by
  simp only [d4, List.cons_append, List.nil_append]
  by_cases e : n / 10 / 10 / 10 % 10 = k / 10 / 10 / 10 % 10
  · rw [e, bl_eq]
    by_cases e2 : n / 10 / 10 % 10 = k / 10 / 10 % 10
    · rw [e2, bl_eq]
      by_cases e3 : n / 10 % 10 = k / 10 % 10
      · rw [e3, bl_eq]; exact bl_lt _ _ _ _ (by omega) (by omega) (by omega)
      · exact bl_lt _ _ _ _ (by omega) (by omega) (by omega)
    · exact bl_lt _ _ _ _ (by omega) (by omega) (by omega)
  · exact bl_lt _ _ _ _ (by omega) (by omega) (by omega)
theorem bl_4e (n : Int) (r s : List Int) : BL (d4 n ++ r) (d4 n ++ s) = BL r s := by
  simp only [d4, List.cons_append, List.nil_append, bl_eq]

def Ord5 (y mo d h mi yb mob db hb mib : Int) : Prop :=
  y < yb ∨ (y = yb ∧ mo < mob) ∨ (y = yb ∧ mo = mob ∧ d < db) ∨ (y = yb ∧ mo = mob ∧ d = db ∧ h < hb) ∨ (y = yb ∧ mo = mob ∧ d = db ∧ h = hb ∧ mi < mib)
theorem ord_bef {y mo d h mi yb mob db hb mib : Int} (k : Ord5 y mo d h mi yb mob db hb mib) : bef y mo d h mi yb mob db hb mib = true := by
  simp only [bef, lex, five]
  rcases k with k | ⟨rfl, k⟩ | ⟨rfl, rfl, k⟩ | ⟨rfl, rfl, rfl, k⟩ | ⟨rfl, rfl, rfl, rfl, k⟩ <;> simp [k, Int.ne_of_lt k]
theorem ord_bef2 {y mo d h mi yb mob db hb mib : Int} (k : Ord5 y mo d h mi yb mob db hb mib) : bef yb mob db hb mib y mo d h mi = false := by
  simp only [bef, lex, five]
  rcases k with k | ⟨rfl, k⟩ | ⟨rfl, rfl, k⟩ | ⟨rfl, rfl, rfl, k⟩ | ⟨rfl, rfl, rfl, rfl, k⟩ <;> simp [Int.le_of_lt k, (Int.ne_of_lt k).symm]
theorem ord_str {y mo d h mi yb mob db hb mib : Int} (k : Ord5 y mo d h mi yb mob db hb mib) (b1 : 0 ≤ y ∧ yb ≤ 9999) (b2 : 0 ≤ mo ∧ mob ≤ 99) (b3 : 0 ≤ d ∧ db ≤ 99) (b4 : 0 ≤ h ∧ hb ≤ 99) (b5 : 0 ≤ mi ∧ mib ≤ 99) :
    Op.bytesLess (strOfNums (dateL y mo d) ++ strOfNums (clockL h mi)).toList (strOfNums (dateL yb mob db) ++ strOfNums (clockL hb mib)).toList = true := by
  rw [nums_app, nums_app, Lib.toList_data, Lib.toList_data, strOfNums_data, strOfNums_data]
  show BL _ _ = true
  simp only [dateL, clockL, List.append_assoc]
  rcases k with k | ⟨rfl, k⟩ | ⟨rfl, rfl, k⟩ | ⟨rfl, rfl, rfl, k⟩ | ⟨rfl, rfl, rfl, rfl, k⟩
  · exact bl_4 _ _ _ _ (by omega) k (by omega)
  · rw [bl_4e, bl_1]
    exact bl_2 _ _ _ _ (by omega) k (by omega)
  · rw [bl_4e, bl_1, bl_2e, bl_1]
    exact bl_2 _ _ _ _ (by omega) k (by omega)
  · rw [bl_4e, bl_1, bl_2e, bl_1, bl_2e]
    exact bl_2 _ _ _ _ (by omega) k (by omega)
  · rw [bl_4e, bl_1, bl_2e, bl_1, bl_2e, bl_2e, bl_1]
    have := bl_2 mi mib [] [] (by omega) k (by omega)
    simpa using this

theorem order_plain (m m2 o : Int) (hm : 0 ≤ m ∧ m < m2) (hm2 : m2 ≤ 50000000) (ho : -840 ≤ o ∧ o ≤ 840) :
    ∃ y mo d h mi wd yb mob db hb mib wdb P Q R S, PartsC m o (civil y mo d h mi wd) ∧ PartsC m2 o (civil yb mob db hb mib wdb) ∧ PrintC m o P Q ∧ PrintC m2 o R S ∧
      bef y mo d h mi yb mob db hb mib = true ∧ bef yb mob db hb mib y mo d h mi = false ∧ Op.bytesLess (P ++ Q).toList (R ++ S).toList = true ∧ P.size = 10 ∧ Q.size = 5 ∧ R.size = 10 ∧ S.size = 5 := by
  obtain ⟨T, hT⟩ : ∃ T, m + o + 525600 = T := ⟨_, rfl⟩
  obtain ⟨U, hU⟩ : ∃ U, m2 + o + 525600 = U := ⟨_, rfl⟩
  obtain ⟨n, hn, n1, n2⟩ := month_at (T / 1440) (by omega) (by omega)
  obtain ⟨k, hk, k1, k2⟩ := month_at (U / 1440) (by omega) (by omega)
  have cA : PartsC m o _ := fun w => parts_at m o T hT n w (by omega) ho hn n1 n2
  have cB : PartsC m2 o _ := fun w => parts_at m2 o U hU k w (by omega) ho hk k1 k2
  have cP := print_at m o T hT n (by omega) ho hn n1 n2
  have cR := print_at m2 o U hU k (by omega) ho hk k1 k2
  have d1 := days_bd (my n) (mm n)
  have d2' := days_bd (my k) (mm k)
  have s1 := before_step n
  have s2 := before_step k
  have hnk : n ≤ k := by
    by_cases h : n ≤ k
    · exact h
    · have := before_mono (show k + 1 ≤ n by omega); omega
  have ho5 : Ord5 (my n) (mm n) (T / 1440 - before n + 1) (T % 1440 / 60) (T % 60) (my k) (mm k) (U / 1440 - before k + 1) (U % 1440 / 60) (U % 60) := by
    by_cases e : n = k
    · subst e
      by_cases e1 : T / 1440 = U / 1440
      · by_cases e2 : T % 1440 / 60 = U % 1440 / 60
        · exact .inr (.inr (.inr (.inr ⟨rfl, rfl, by omega, e2, by omega⟩)))
        · exact .inr (.inr (.inr (.inl ⟨rfl, rfl, by omega, by omega⟩)))
      · exact .inr (.inr (.inl ⟨rfl, rfl, by omega⟩))
    · by_cases e1 : my n = my k
      · exact .inr (.inl ⟨e1, by unfold my mm at *; omega⟩)
      · exact .inl (by unfold my at *; omega)
  refine ⟨_, _, _, _, _, _, _, _, _, _, _, _, _, _, _, _, cA, cB, cP, cR, ord_bef ho5, ord_bef2 ho5, ord_str ho5 (by unfold my; omega) (by unfold mm; omega) (by omega) (by omega) (by omega), ?_, ?_, ?_, ?_⟩ <;> rw [strOfNums_size] <;> rfl
end Go.Proofs.Ytkbdgelfjdahpaa
