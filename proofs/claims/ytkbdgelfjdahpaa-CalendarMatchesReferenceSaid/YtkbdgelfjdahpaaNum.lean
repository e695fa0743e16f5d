/- The contracts of Read's number and of isIn at bytes. -/
import Derived.Test.YtkbdgelfjdahpaaRg
import Derived.Test.YtkbdgelfjdahpaaProg
import Derived.KernelRfl
import Derived.WalkLawsBesides
import Derived.WalkSpells
import Derived.Outline
import Derived.Lib.Hide
import Derived.LoopN
import Derived.Lib.ConvBytes
import Derived.Lib.IndexBytes
namespace Go.Proofs.Ytkbdgelfjdahpaa
open Go.RowKit Go.Rg Go.Shelf
set_option linter.unusedVariables false
set_option linter.unusedSimpArgs false

def bt (s : ByteArray) (j : Nat) : Int := ((s.data.toList.getD j 0).toNat : Int)
theorem bt_bd (s : ByteArray) (j : Nat) : 0 ≤ bt s j ∧ bt s j ≤ 255 := by
  unfold bt; have := (s.data.toList.getD j 0).toNat_lt; omega
def n2 (s : ByteArray) (f : Nat) : Int := (bt s (f + 0) - 48) * 10 + (bt s (f + 1) - 48)
def n4 (s : ByteArray) (f : Nat) : Int := (((bt s (f + 0) - 48) * 10 + (bt s (f + 1) - 48)) * 10 + (bt s (f + 2) - 48)) * 10 + (bt s (f + 3) - 48)
theorem bt_extract (s : ByteArray) (f n j : Nat) (hj : j < n) (hf : f + n ≤ s.size) : bt (s.extract f (f + n)) j = bt s (f + j) := by
  unfold bt
  rw [show (s.extract f (f + n)).data = s.data.extract f (f + n) from ByteArray.data_extract]
  have hs : f + n ≤ s.data.size := hf
  simp [List.getD, List.getElem?_take, hj]

theorem isInB_any (x lo hi : Int) (w : World) :
    Calls Try.prog 29 #[.int .u8 x, .int .u8 lo, .int .u8 hi] w fun e w' => e = .returned (.bool (decide (lo ≤ x) && decide (x ≤ hi))) ∧ w = w' := by
  by_cases h : lo ≤ x <;> by_cases h2 : x ≤ hi
  all_goals
    go_enter Try.func29, Try.ntmps29
    go_wp2
    go_ret
    refine ⟨by congr; simp [h, h2], rfl⟩

theorem below_bytes (w : World) (e : TypeId) (s : ByteArray) : Below w.heap.size w (Lib.bytesWorld w e s) :=
  ⟨rfl, rfl, rfl, by rw [Lib.bytesWorld_size]; omega, fun k hk => Lib.bytesWorld_at_old w e s k hk⟩

theorem number2 (s : ByteArray) (f : Nat) (x y : Int) (hx : x = f) (hy : y = f + 2) (hf : f + 2 ≤ s.size) (hs : s.size ≤ 100) (p : Addr) (w : World) (hc : w.cell? p = some (.string s))
    (d0 : 48 ≤ bt s (f + 0) ∧ bt s (f + 0) ≤ 57) (d1 : 48 ≤ bt s (f + 1) ∧ bt s (f + 1) ≤ 57) :
    Calls Try.prog 28 #[.int .i64 x, .int .i64 y, .pointer (some p)] w fun e w' => e = .returned (.int .i64 (n2 s f)) ∧ Below w.heap.size w w' := by
  subst hx
  subst hy
  have hsz : (s.extract f (f + 2)).size = 2 := by simp [ByteArray.size_extract]; omega
  have k0 : (Lib.bytesWorld w 5 (s.extract f (f + 2))).cell? ⟨w.heap.size, 0, none⟩ = some (.int .u8 (bt s (f + 0))) := by
    rw [Lib.bytesWorld_cell _ _ _ _ (by rw [hsz]; omega), ← bt_extract s f 2 0 (by omega) hf]; rfl
  have k1 : (Lib.bytesWorld w 5 (s.extract f (f + 2))).cell? ⟨w.heap.size, 1, none⟩ = some (.int .u8 (bt s (f + 1))) := by
    rw [Lib.bytesWorld_cell _ _ _ _ (by rw [hsz]; omega), ← bt_extract s f 2 1 (by omega) hf]; rfl
  have hcv := fun (W : World) (t : ByteArray) => Lib.run_convert_string_bytes (P := Try.prog) W 9 48 5 t Try.underlying9 Try.underlying48 Try.underlying5
  have Hsz := Lib.hid hsz
  clear hsz
  go_enter Try.func28, Try.ntmps28
  go_wp2_with fail
  have hB := below_bytes w 5 (s.extract f (f + 2))
  generalize Lib.bytesWorld w 5 (s.extract f (f + 2)) = W1 at *
  clear hcv hc
  obtain ⟨d0, d0'⟩ := d0
  generalize hx0 : bt s (f + 0) = x0 at *
  have Hx0 := Lib.hid hx0
  clear hx0
  obtain ⟨d1, d1'⟩ := d1
  generalize hx1 : bt s (f + 1) = x1 at *
  have Hx1 := Lib.hid hx1
  clear hx1
  refine wp_loop_rounds 3 ?_
  rw [rounds_succ]
  go_wp2_with fail
  rw [rounds_succ]
  go_wp2_with fail
  rw [rounds_succ]
  go_wp2_with fail
  go_ret
  refine ⟨?_, hB⟩
  unfold n2
  rw [Hx0.out, Hx1.out]
  rfl

theorem number4 (s : ByteArray) (f : Nat) (x y : Int) (hx : x = f) (hy : y = f + 4) (hf : f + 4 ≤ s.size) (hs : s.size ≤ 100) (p : Addr) (w : World) (hc : w.cell? p = some (.string s))
    (d0 : 48 ≤ bt s (f + 0) ∧ bt s (f + 0) ≤ 57) (d1 : 48 ≤ bt s (f + 1) ∧ bt s (f + 1) ≤ 57) (d2 : 48 ≤ bt s (f + 2) ∧ bt s (f + 2) ≤ 57) (d3 : 48 ≤ bt s (f + 3) ∧ bt s (f + 3) ≤ 57) :
    Calls Try.prog 28 #[.int .i64 x, .int .i64 y, .pointer (some p)] w fun e w' => e = .returned (.int .i64 (n4 s f)) ∧ Below w.heap.size w w' := by
  subst hx
  subst hy
  have hsz : (s.extract f (f + 4)).size = 4 := by simp [ByteArray.size_extract]; omega
  have k0 : (Lib.bytesWorld w 5 (s.extract f (f + 4))).cell? ⟨w.heap.size, 0, none⟩ = some (.int .u8 (bt s (f + 0))) := by
    rw [Lib.bytesWorld_cell _ _ _ _ (by rw [hsz]; omega), ← bt_extract s f 4 0 (by omega) hf]; rfl
  have k1 : (Lib.bytesWorld w 5 (s.extract f (f + 4))).cell? ⟨w.heap.size, 1, none⟩ = some (.int .u8 (bt s (f + 1))) := by
    rw [Lib.bytesWorld_cell _ _ _ _ (by rw [hsz]; omega), ← bt_extract s f 4 1 (by omega) hf]; rfl
  have k2 : (Lib.bytesWorld w 5 (s.extract f (f + 4))).cell? ⟨w.heap.size, 2, none⟩ = some (.int .u8 (bt s (f + 2))) := by
    rw [Lib.bytesWorld_cell _ _ _ _ (by rw [hsz]; omega), ← bt_extract s f 4 2 (by omega) hf]; rfl
  have k3 : (Lib.bytesWorld w 5 (s.extract f (f + 4))).cell? ⟨w.heap.size, 3, none⟩ = some (.int .u8 (bt s (f + 3))) := by
    rw [Lib.bytesWorld_cell _ _ _ _ (by rw [hsz]; omega), ← bt_extract s f 4 3 (by omega) hf]; rfl
  have hcv := fun (W : World) (t : ByteArray) => Lib.run_convert_string_bytes (P := Try.prog) W 9 48 5 t Try.underlying9 Try.underlying48 Try.underlying5
  have Hsz := Lib.hid hsz
  clear hsz
  go_enter Try.func28, Try.ntmps28
  go_wp2_with fail
  have hB := below_bytes w 5 (s.extract f (f + 4))
  generalize Lib.bytesWorld w 5 (s.extract f (f + 4)) = W1 at *
  clear hcv hc
  obtain ⟨d0, d0'⟩ := d0
  generalize hx0 : bt s (f + 0) = x0 at *
  have Hx0 := Lib.hid hx0
  clear hx0
  obtain ⟨d1, d1'⟩ := d1
  generalize hx1 : bt s (f + 1) = x1 at *
  have Hx1 := Lib.hid hx1
  clear hx1
  obtain ⟨d2, d2'⟩ := d2
  generalize hx2 : bt s (f + 2) = x2 at *
  have Hx2 := Lib.hid hx2
  clear hx2
  obtain ⟨d3, d3'⟩ := d3
  generalize hx3 : bt s (f + 3) = x3 at *
  have Hx3 := Lib.hid hx3
  clear hx3
  refine wp_loop_rounds 5 ?_
  rw [rounds_succ]
  go_wp2_with fail
  rw [rounds_succ]
  go_wp2_with fail
  rw [rounds_succ]
  go_wp2_with fail
  rw [rounds_succ]
  go_wp2_with fail
  rw [rounds_succ]
  go_wp2_with fail
  go_ret
  refine ⟨?_, hB⟩
  unfold n4
  rw [Hx0.out, Hx1.out, Hx2.out, Hx3.out]
  rfl
end Go.Proofs.Ytkbdgelfjdahpaa
