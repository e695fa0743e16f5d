/- Plain facts of the reference's Read: it takes what calendar.Read takes. -/
import Derived.Test.YtkbdgelfjdahpaaRnum
namespace Go.Proofs.Ytkbdgelfjdahpaa
open Go.RowKit Go.Rg Go.Shelf
set_option linter.unusedVariables false
set_option linter.unusedSimpArgs false

def civOk (y mo d h mi o : Int) : Prop := okC y mo d h mi o ∧ (0 ≤ atN y mo d h mi o ∧ atN y mo d h mi o ≤ 50000000)
open Classical in
noncomputable def civRes (y mo d h mi o : Int) : Value := if civOk y mo d h mi o then .tuple #[.int .i64 (atN y mo d h mi o), .int .i64 0] else .tuple #[.int .i64 0, .int .i64 60]

theorem ext_sz (s : ByteArray) (a n : Nat) (h : a + n ≤ s.size) : (s.extract a (a + n)).size = n := by rw [ByteArray.size_extract]; omega
theorem dig_ext (s : ByteArray) (a n j : Nat) (hj : j < n) (h : a + n ≤ s.size) : dig (s.extract a (a + n)) j ↔ dig s (a + j) := by
  unfold dig; rw [bt_extract s a n j hj h]
theorem numV_yes (s : ByteArray) (a n : Nat) (h : a + n ≤ s.size) (hd : ∀ j, j < n → dig s (a + j)) : numV (s.extract a (a + n)) = numOf (s.extract a (a + n)) n := by
  have e := ext_sz s a n h
  unfold numV
  rw [if_pos (fun j hj => (dig_ext s a n j (by omega) h).2 (hd j (by omega))), e]
theorem numV_no (s : ByteArray) (a n : Nat) (h : a + n ≤ s.size) (j : Nat) (hj : j < n) (hd : ¬ dig s (a + j)) : numV (s.extract a (a + n)) = -1 := by
  have e := ext_sz s a n h
  unfold numV
  rw [if_neg (fun hh => hd ((dig_ext s a n j hj h).1 (hh j (by omega))))]
theorem num2 (s : ByteArray) (a : Nat) (h : a + 2 ≤ s.size) (d0 : dig s (a + 0)) (d1 : dig s (a + 1)) : numV (s.extract a (a + 2)) = n2 s a := by
  rw [numV_yes s a 2 h (fun j hj => by have : j = 0 ∨ j = 1 := by omega
                                       rcases this with rfl | rfl <;> assumption)]
  simp only [numOf, bt_extract s a 2 0 (by omega) h, bt_extract s a 2 1 (by omega) h, n2]
  omega
theorem num4 (s : ByteArray) (a : Nat) (h : a + 4 ≤ s.size) (d0 : dig s (a + 0)) (d1 : dig s (a + 1)) (d2 : dig s (a + 2)) (d3 : dig s (a + 3)) : numV (s.extract a (a + 4)) = n4 s a := by
  rw [numV_yes s a 4 h (fun j hj => by have : j = 0 ∨ j = 1 ∨ j = 2 ∨ j = 3 := by omega
                                       rcases this with rfl | rfl | rfl | rfl <;> assumption)]
  simp only [numOf, bt_extract s a 4 0 (by omega) h, bt_extract s a 4 1 (by omega) h, bt_extract s a 4 2 (by omega) h, bt_extract s a 4 3 (by omega) h, n4]
  omega
theorem n2_congr {s t : ByteArray} {a b : Nat} (h : ∀ j, j < 2 → bt s (a + j) = bt t (b + j)) : n2 s a = n2 t b := by
  unfold n2; rw [h 0 (by omega), h 1 (by omega)]
theorem n4_congr {s t : ByteArray} {a b : Nat} (h : ∀ j, j < 4 → bt s (a + j) = bt t (b + j)) : n4 s a = n4 t b := by
  unfold n4; rw [h 0 (by omega), h 1 (by omega), h 2 (by omega), h 3 (by omega)]

theorem rread_plain (date clock : ByteArray) (o : Int) (hd : date.size = 10) (hc : clock.size = 5) (h4 : bt date 4 = 45) (h7 : bt date 7 = 45) (h2 : bt clock 2 = 58) :
    readRes date clock o = civRes (numV (date.extract 0 4)) (numV (date.extract 5 7)) (numV (date.extract 8 10)) (numV (clock.extract 0 2)) (numV (clock.extract 3 5)) o := by
  have s0 : ∀ k : Nat, k ∈ [0, 1, 2, 3, 5, 6, 8, 9, 11, 12, 14, 15] → shp k = 48 := by decide +kernel
  have e4 : bt (joined date clock) 4 = 45 := by rw [bt_date _ _ hd _ (by omega)]; exact h4
  have e7 : bt (joined date clock) 7 = 45 := by rw [bt_date _ _ hd _ (by omega)]; exact h7
  have e13 : bt (joined date clock) 13 = 58 := by rw [bt_clock _ _ hd 2 13 rfl]; exact h2
  have e10 : bt (joined date clock) 10 = 32 := by
    unfold joined
    rw [bt_left _ _ _ (by rw [ByteArray.size_append, hd]; show 10 < 10 + 1; omega), bt_right _ _ 0 _ (by omega)]; rfl
  have hD : ∀ j, j < 10 → bt (joined date clock) j = bt date j := fun j hj => bt_date _ _ hd j hj
  have hC : ∀ j, bt (joined date clock) (11 + j) = bt clock j := fun j => bt_clock _ _ hd j _ rfl
  by_cases g : (dig date 0 ∧ dig date 1 ∧ dig date 2 ∧ dig date 3) ∧ (dig date 5 ∧ dig date 6) ∧ (dig date 8 ∧ dig date 9) ∧ (dig clock 0 ∧ dig clock 1) ∧ (dig clock 3 ∧ dig clock 4)
  · obtain ⟨⟨g0, g1, g2, g3⟩, ⟨g5, g6⟩, ⟨g8, g9⟩, ⟨g11, g12⟩, g14, g15⟩ := g
    have x1 : numV (date.extract 0 4) = n4 (joined date clock) 0 := (num4 date 0 (by omega) g0 g1 g2 g3).trans (n4_congr (fun j hj => (hD _ (by omega)).symm))
    have x2 : numV (date.extract 5 7) = n2 (joined date clock) 5 := (num2 date 5 (by omega) g5 g6).trans (n2_congr (fun j hj => (hD _ (by omega)).symm))
    have x3 : numV (date.extract 8 10) = n2 (joined date clock) 8 := (num2 date 8 (by omega) g8 g9).trans (n2_congr (fun j hj => (hD _ (by omega)).symm))
    have x4 : numV (clock.extract 0 2) = n2 (joined date clock) 11 := (num2 clock 0 (by omega) g11 g12).trans (n2_congr (fun j hj => by rw [hC j]; congr 1; omega))
    have x5 : numV (clock.extract 3 5) = n2 (joined date clock) 14 := (num2 clock 3 (by omega) g14 g15).trans (n2_congr (fun j hj => by rw [show 14 + j = 11 + (3 + j) by omega, hC]))
    have hw : wf (joined date clock) := by
      intro j hj
      unfold okb
      have dg : ∀ k, dig (joined date clock) k → (decide (48 ≤ bt (joined date clock) k) && decide (bt (joined date clock) k ≤ 57)) = true := by
        intro k hk; simp [hk.1, hk.2]
      have D : ∀ k, k < 10 → dig date k → dig (joined date clock) k := fun k hk h => by unfold dig at *; rw [hD k hk]; exact h
      have C : ∀ k, dig clock k → dig (joined date clock) (11 + k) := fun k h => by unfold dig at *; rw [hC k]; exact h
      have : j = 0 ∨ j = 1 ∨ j = 2 ∨ j = 3 ∨ j = 4 ∨ j = 5 ∨ j = 6 ∨ j = 7 ∨ j = 8 ∨ j = 9 ∨ j = 10 ∨ j = 11 ∨ j = 12 ∨ j = 13 ∨ j = 14 ∨ j = 15 := by omega
      have s1 : shp 4 = 45 := by decide +kernel
      have s2 : shp 7 = 45 := by decide +kernel
      have s3 : shp 10 = 32 := by decide +kernel
      have s4 : shp 13 = 58 := by decide +kernel
      rcases this with rfl | rfl | rfl | rfl | rfl | rfl | rfl | rfl | rfl | rfl | rfl | rfl | rfl | rfl | rfl | rfl
      · rw [s0 _ (by decide), if_pos rfl]; exact dg _ (D _ (by omega) g0)
      · rw [s0 _ (by decide), if_pos rfl]; exact dg _ (D _ (by omega) g1)
      · rw [s0 _ (by decide), if_pos rfl]; exact dg _ (D _ (by omega) g2)
      · rw [s0 _ (by decide), if_pos rfl]; exact dg _ (D _ (by omega) g3)
      · rw [s1, e4]; decide
      · rw [s0 _ (by decide), if_pos rfl]; exact dg _ (D _ (by omega) g5)
      · rw [s0 _ (by decide), if_pos rfl]; exact dg _ (D _ (by omega) g6)
      · rw [s2, e7]; decide
      · rw [s0 _ (by decide), if_pos rfl]; exact dg _ (D _ (by omega) g8)
      · rw [s0 _ (by decide), if_pos rfl]; exact dg _ (D _ (by omega) g9)
      · rw [s3, e10]; decide
      · rw [s0 _ (by decide), if_pos rfl]; exact dg _ (C 0 g11)
      · rw [s0 _ (by decide), if_pos rfl]; exact dg _ (C 1 g12)
      · rw [s4, e13]; decide
      · rw [s0 _ (by decide), if_pos rfl]; exact dg _ (C 3 g14)
      · rw [s0 _ (by decide), if_pos rfl]; exact dg _ (C 4 g15)
    rw [x1, x2, x3, x4, x5]
    unfold readRes civRes
    by_cases k : civOk (n4 (joined date clock) 0) (n2 (joined date clock) 5) (n2 (joined date clock) 8) (n2 (joined date clock) 11) (n2 (joined date clock) 14) o
    · rw [if_pos ⟨hd, hc, hw, k.1, k.2⟩, if_pos k]
    · rw [if_neg (fun h => k ⟨h.2.2.2.1, h.2.2.2.2⟩), if_neg k]
  · have hnw : ¬ wf (joined date clock) := by
      intro hw
      apply g
      have D : ∀ k, k ∈ [0, 1, 2, 3, 5, 6, 8, 9] → dig date k := by
        intro k hk
        have h1 := hw k (by simp at hk; omega)
        unfold okb at h1
        rw [s0 k (by simp at hk ⊢; omega), if_pos rfl, hD k (by simp at hk; omega)] at h1
        simpa [dig] using h1
      have C : ∀ k, k ∈ [0, 1, 3, 4] → dig clock k := by
        intro k hk
        have h1 := hw (11 + k) (by simp at hk; omega)
        unfold okb at h1
        rw [s0 (11 + k) (by simp at hk ⊢; omega), if_pos rfl, hC k] at h1
        simpa [dig] using h1
      exact ⟨⟨D 0 (by decide), D 1 (by decide), D 2 (by decide), D 3 (by decide)⟩, ⟨D 5 (by decide), D 6 (by decide)⟩, ⟨D 8 (by decide), D 9 (by decide)⟩, ⟨C 0 (by decide), C 1 (by decide)⟩, C 3 (by decide), C 4 (by decide)⟩
    have hl : readRes date clock o = .tuple #[.int .i64 0, .int .i64 60] := by unfold readRes; rw [if_neg (fun h => hnw h.2.2.1)]
    have hcn : ¬ civOk (numV (date.extract 0 4)) (numV (date.extract 5 7)) (numV (date.extract 8 10)) (numV (clock.extract 0 2)) (numV (clock.extract 3 5)) o := by
      intro k
      apply g
      have m := month_of k.1.2.1
      obtain ⟨⟨k1, _⟩, ⟨k3, _⟩, ⟨k5, _⟩, ⟨k6, _⟩, _⟩ := k.1
      have N : ∀ (s : ByteArray) (a n : Nat), a + n ≤ s.size → 0 ≤ numV (s.extract a (a + n)) → ∀ j, j < n → dig s (a + j) := by
        intro s a n h h0 j hj
        by_cases e : dig s (a + j)
        · exact e
        · rw [numV_no s a n h j hj e] at h0; omega
      have N1 := N date 0 4 (by omega) (show 0 ≤ numV (date.extract 0 4) by omega)
      have N2 := N date 5 2 (by omega) (show 0 ≤ numV (date.extract 5 7) by omega)
      have N3 := N date 8 2 (by omega) (show 0 ≤ numV (date.extract 8 10) by omega)
      have N4 := N clock 0 2 (by omega) (show 0 ≤ numV (clock.extract 0 2) by omega)
      have N5 := N clock 3 2 (by omega) (show 0 ≤ numV (clock.extract 3 5) by omega)
      exact ⟨⟨N1 0 (by omega), N1 1 (by omega), N1 2 (by omega), N1 3 (by omega)⟩, ⟨N2 0 (by omega), N2 1 (by omega)⟩, ⟨N3 0 (by omega), N3 1 (by omega)⟩, ⟨N4 0 (by omega), N4 1 (by omega)⟩, N5 0 (by omega), N5 1 (by omega)⟩
    rw [hl]
    unfold civRes
    rw [if_neg hcn]
end Go.Proofs.Ytkbdgelfjdahpaa
