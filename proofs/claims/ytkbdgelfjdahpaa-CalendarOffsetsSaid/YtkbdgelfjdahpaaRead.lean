/- The contract of calendar.Read. -/
import Derived.Test.YtkbdgelfjdahpaaNum
import Derived.Test.YtkbdgelfjdahpaaAt
import Derived.Laws.RangeString
namespace Go.Proofs.Ytkbdgelfjdahpaa
open Go.RowKit Go.Rg Go.Shelf
set_option linter.unusedVariables false
set_option linter.unusedSimpArgs false

def shpS : ByteArray := ⟨#[48, 48, 48, 48, 45, 48, 48, 45, 48, 48, 32, 48, 48, 58, 48, 48]⟩
def shp (j : Nat) : Int := bt shpS j
def okb (s : ByteArray) (j : Nat) : Bool := if shp j = 48 then decide (48 ≤ bt s j) && decide (bt s j ≤ 57) else decide (bt s j = shp j)
def wf (s : ByteArray) : Prop := ∀ j, j < 16 → okb s j = true
def joined (date clock : ByteArray) : ByteArray := date ++ ⟨#[32]⟩ ++ clock
def readOk (date clock : ByteArray) (o : Int) : Prop := date.size = 10 ∧ clock.size = 5 ∧ wf (joined date clock) ∧
  okC (n4 (joined date clock) 0) (n2 (joined date clock) 5) (n2 (joined date clock) 8) (n2 (joined date clock) 11) (n2 (joined date clock) 14) o ∧
  (0 ≤ atN (n4 (joined date clock) 0) (n2 (joined date clock) 5) (n2 (joined date clock) 8) (n2 (joined date clock) 11) (n2 (joined date clock) 14) o ∧
   atN (n4 (joined date clock) 0) (n2 (joined date clock) 5) (n2 (joined date clock) 8) (n2 (joined date clock) 11) (n2 (joined date clock) 14) o ≤ 50000000)
open Classical in
noncomputable def readRes (date clock : ByteArray) (o : Int) : Value :=
  if readOk date clock o then .tuple #[.int .i64 (atN (n4 (joined date clock) 0) (n2 (joined date clock) 5) (n2 (joined date clock) 8) (n2 (joined date clock) 11) (n2 (joined date clock) 14) o), .int .i64 0] else .tuple #[.int .i64 0, .int .i64 60]

theorem joined_size (date clock : ByteArray) : (joined date clock).size = date.size + 1 + clock.size := by
  unfold joined; simp [ByteArray.size_append]; rfl

theorem bt_at (s : ByteArray) (k : Nat) : ∀ h : k < s.size, ((s[k]'h).toNat : Int) = bt s k := by
  intro h
  have hd : k < s.data.size := h
  have e : s.data.toList.getD k 0 = s.data[k]'hd := by
    rw [List.getD_eq_getElem?_getD, Array.getElem?_toList, Array.getElem?_eq_getElem hd]; rfl
  unfold bt
  rw [e]; rfl

theorem run_next_at {P : Program} {W : World} {r k : Nat} {s : ByteArray} (h : W.heap[r]? = some (.stringIter s k)) (hk : k < s.size) (ty : TypeId) :
    (Instr.next (.pointer (some ⟨r, 0, none⟩)) true ty).run P W = .ok (.tuple #[.bool true, .int .i64 k, .int .i32 (Utf8.decode s k).1]) (W.putObj r (.stringIter s (k + (Utf8.decode s k).2))) := by
  simp [Instr.next, getObj, setObj, Sem.run_bind, Sem.run, h, hk, Result.andThen, World.putObj, goInt]
theorem run_next_over {P : Program} {W : World} {r k : Nat} {s : ByteArray} (h : W.heap[r]? = some (.stringIter s k)) (hk : ¬ k < s.size) (ty : TypeId) :
    (Instr.next (.pointer (some ⟨r, 0, none⟩)) true ty).run P W = .ok (.tuple #[.bool false]) W := by
  simp [Instr.next, getObj, Sem.run, h, hk]
theorem decode_bt (s : ByteArray) (k : Nat) (h : k < s.size) (hb : bt s k < 128) : (Utf8.decode s k).2 = 1 := by
  rw [decode_ascii s k h (by have := bt_at s k h; omega)]

theorem shp_val : ∀ k, k < 16 → shp k = 48 ∨ shp k = 45 ∨ shp k = 32 ∨ shp k = 58 := by decide +kernel

structure RD (w : World) (s : ByteArray) (k : Nat) (W : World) : Prop where
  below : Below w.heap.size w W
  b0 : W.heap[w.heap.size]? = some (.cells #[.string s] 9 (0, 0))
  b1 : W.heap[w.heap.size + 1]? = some (.stringIter s k)

theorem RD.ext {w : World} {s : ByteArray} {k : Nat} {A : World} (h : RD w s k A) (x : Ext A) : RD w s k x.val :=
  ⟨h.below.trans (x.2.below (fun _ _ h => h) h.below.size), block_ext h.b0 x, block_ext h.b1 x⟩

theorem isInB_yes (x lo hi : Int) (w : World) (h : lo ≤ x ∧ x ≤ hi) :
    Calls Try.prog 29 #[.int .u8 x, .int .u8 lo, .int .u8 hi] w fun e w' => e = .returned (.bool true) ∧ w = w' := by
  have := isInB_any x lo hi w
  simpa [h.1, h.2] using this
theorem isInB_no (x lo hi : Int) (w : World) (h : ¬ (lo ≤ x ∧ x ≤ hi)) :
    Calls Try.prog 29 #[.int .u8 x, .int .u8 lo, .int .u8 hi] w fun e w' => e = .returned (.bool false) ∧ w = w' := by
  refine (isInB_any x lo hi w).mono fun e w' ⟨he, hw⟩ => ⟨by rw [he]; congr; simp; omega, hw⟩

set_option maxHeartbeats 2000000 in
theorem read_any (date clock : ByteArray) (o : Int) (w : World) (hd : date.size ≤ 100) (hc : clock.size ≤ 100) :
    Calls Try.prog 17 #[.string date, .string clock, .int .i64 o] w fun e w' => e = .returned (readRes date clock o) ∧ Below w.heap.size w w' := by
  by_cases h10 : date.size = 10 ∧ clock.size = 5
  · have hsz : (joined date clock).size = 16 := by rw [joined_size, h10.1, h10.2]
    have hj : date ++ ⟨#[32]⟩ ++ clock = joined date clock := rfl
    have t2 : ((date.size : Int) != 10) = false := by simp [h10.1]
    have t3 : (((joined date clock).size : Int) != 16) = false := by simp [hsz]
    have Hsz := Lib.hid hsz
    have H10 := Lib.hid h10
    have Hwf : ∀ k, k < 16 → okb (joined date clock) k = false → readRes date clock o = .tuple #[.int .i64 0, .int .i64 60] := fun k hk hb => by
      unfold readRes
      rw [if_neg (fun hh => by have := hh.2.2.1 k hk; rw [hb] at this; cases this)]
    have HWF := Lib.hid Hwf
    clear Hwf hsz h10
    go_enter Try.func17, Try.ntmps17
    go_wp2_with fail
    have hR0 : RD w (joined date clock) 0 ((w.alloc (.cells #[.string (joined date clock)] 9)).iter (joined date clock) 0) :=
      ⟨((Below.refl w.heap.size w).alloc (Nat.le_refl _) _).alloc (by simp) _, heap_old (heap_new rfl), by have := World.iter_heap (w.alloc (.cells #[.string (joined date clock)] 9)) (joined date clock) 0; rwa [World.size_alloc] at this⟩
    generalize ((w.alloc (.cells #[.string (joined date clock)] 9)).iter (joined date clock) 0) = W0 at hR0 ⊢
    go_loopw [10] (fun iv wr => ∃ k : Nat, k ≤ 16 ∧ (∀ j, j < k → okb (joined date clock) j = true) ∧ RD w (joined date clock) k wr) (fun iv wr => match wr.heap[w.heap.size + 1]? with | some (.stringIter _ k) => 16 - k | _ => 0)
    case atStart => exact ⟨0, Nat.zero_le _, fun j hj => by omega, hR0⟩
    case round =>
      clear hR0
      obtain ⟨k, hk, hall, hR⟩ := hrel
      have HALL := Lib.hid hall
      clear hall
      by_cases hk16 : k < 16
      · have hks : k < (joined date clock).size := by rw [Hsz.out]; exact hk16
        have hx := run_next_at (P := Try.prog) hR.b1 hks
        have hW' : RD w (joined date clock) (k + (Utf8.decode (joined date clock) k).2) (wr.putObj (w.heap.size + 1) (.stringIter (joined date clock) (k + (Utf8.decode (joined date clock) k).2))) := by
          have hlt := (Array.getElem?_eq_some_iff.1 hR.b1).1
          refine ⟨hR.below.trans (((Fr.refl (fun k => k = w.heap.size + 1) wr).putObj _ _ (fun _ => rfl)).below (fun k hk => by omega) hR.below.size), ?_, World.putObj_heap_same hlt⟩
          rw [World.putObj_heap_other (by omega)]; exact hR.b0
        generalize wr.putObj (w.heap.size + 1) (.stringIter (joined date clock) (k + (Utf8.decode (joined date clock) k).2)) = W1 at hx hW'
        have hmeas : (match wr.heap[w.heap.size + 1]? with | some (.stringIter _ k) => 16 - k | _ => 0) = 16 - k := by rw [hR.b1]
        have Hm := Lib.hid hmeas
        clear hmeas hR
        have c0 := cell_of (o := 0) hW'.b0 rfl
        have c0x := cell_ext c0
        have hbt := bt_at (joined date clock) k
        have hbs : ∀ h, (((⟨#[48, 48, 48, 48, 45, 48, 48, 45, 48, 48, 32, 48, 48, 58, 48, 48]⟩ : ByteArray)[k]'h).toNat : Int) = shp k := bt_at shpS k
        have hss : (⟨#[48, 48, 48, 48, 45, 48, 48, 45, 48, 48, 32, 48, 48, 58, 48, 48]⟩ : ByteArray).size = 16 := rfl
        have hbb := bt_bd (joined date clock) k
        have hkI : (k : Int) < (joined date clock).size := by omega
        have hkI2 : (k : Int) < 16 := by omega
        have HW := Lib.hid hW'
        clear hW'
        by_cases g : 48 ≤ bt (joined date clock) k ∧ bt (joined date clock) k ≤ 57
        · have hdec := decode_bt _ _ hks (show bt (joined date clock) k < 128 by omega)
          have Hdec := Lib.hid hdec
          clear hdec
          go_wp2_with fail
          refine (isInB_yes _ _ _ _ g).mono ?_
          rintro e w' ⟨rfl, rfl⟩
          by_cases gs : shp k = 48
          · have hok : okb (joined date clock) k = true := by unfold okb; rw [if_pos gs]; simp [g.1, g.2]
            have Hok := Lib.hid hok
            have q1 : (shp k == 48) = true := by simpa using gs
            clear hok gs g
            go_wp2_with fail
            refine region_ext (by kernel_rfl) (by kernel_rfl) ?_
            repeat (go_big_quiet_step (fail))
            refine wpQuiet_nil ?_
            rintro W' ⟨X, rfl⟩
            have hX := HW.out.ext X
            go_wp2_with fail
            rw [Hdec.out] at hX
            refine ⟨⟨k + 1, by omega, fun j hj => ?_, hX⟩, ?_⟩
            · by_cases e : j = k
              · subst e; exact Hok.out
              · exact HALL.out j (by omega)
            · rw [Hm.out, hX.b1]; simp only []; omega
          · have hok : okb (joined date clock) k = false := by
              unfold okb; rw [if_neg gs]; simp only [decide_eq_false_iff_not]
              intro e
              have := shp_val k hk16
              omega
            have Hok := Lib.hid hok
            have q1 : (shp k == 48) = false := by simpa using gs
            clear hok gs g
            go_wp2_with fail
            refine region_ext (by kernel_rfl) (by kernel_rfl) ?_
            repeat (go_big_quiet_step (fail))
            refine wpQuiet_nil ?_
            rintro W' ⟨X, rfl⟩
            have hX := HW.out.ext X
            go_wp2_with fail
            go_ret2
            exact ⟨by rw [HWF.out k hk16 Hok.out]; rfl, hX.below⟩
        · go_wp2_with fail
          refine (isInB_no _ _ _ _ g).mono ?_
          rintro e w' ⟨rfl, rfl⟩
          by_cases gs : shp k = 48
          · have hok : okb (joined date clock) k = false := by unfold okb; rw [if_pos gs]; simp; omega
            have Hok := Lib.hid hok
            have q1 : (shp k == 48) = true := by simpa using gs
            clear hok gs g
            go_wp2_with fail
            refine region_ext (by kernel_rfl) (by kernel_rfl) ?_
            repeat (go_big_quiet_step (fail))
            refine wpQuiet_nil ?_
            rintro W' ⟨X, rfl⟩
            have hX := HW.out.ext X
            go_wp2_with fail
            go_ret2
            exact ⟨by rw [HWF.out k hk16 Hok.out]; rfl, hX.below⟩
          · by_cases ge : bt (joined date clock) k = shp k
            · have hok : okb (joined date clock) k = true := by unfold okb; rw [if_neg gs]; simpa using ge
              have hdec := decode_bt _ _ hks (show bt (joined date clock) k < 128 by rw [ge]; have := shp_val k hk16; omega)
              have Hdec := Lib.hid hdec
              have Hok := Lib.hid hok
              have q1 : (shp k == 48) = false := by simpa using gs
              have q2 : (bt (joined date clock) k == shp k) = true := by simpa using ge
              have q3 : (bt (joined date clock) k != shp k) = false := by simp [bne, q2]
              clear hok gs g ge hdec
              go_wp2_with fail
              refine region_ext (by kernel_rfl) (by kernel_rfl) ?_
              repeat (go_big_quiet_step (fail))
              refine wpQuiet_nil ?_
              rintro W' ⟨X, rfl⟩
              have hX := HW.out.ext X
              go_wp2_with fail
              rw [Hdec.out] at hX
              refine ⟨⟨k + 1, by omega, fun j hj => ?_, hX⟩, ?_⟩
              · by_cases e : j = k
                · subst e; exact Hok.out
                · exact HALL.out j (by omega)
              · rw [Hm.out, hX.b1]; simp only []; omega
            · have hok : okb (joined date clock) k = false := by unfold okb; rw [if_neg gs]; simpa using ge
              have Hok := Lib.hid hok
              have q1 : (shp k == 48) = false := by simpa using gs
              have q2 : (bt (joined date clock) k == shp k) = false := by simpa using ge
              have q3 : (bt (joined date clock) k != shp k) = true := by simp [bne, q2]
              clear hok gs g ge
              go_wp2_with fail
              refine region_ext (by kernel_rfl) (by kernel_rfl) ?_
              repeat (go_big_quiet_step (fail))
              refine wpQuiet_nil ?_
              rintro W' ⟨X, rfl⟩
              have hX := HW.out.ext X
              go_wp2_with fail
              go_ret2
              exact ⟨by rw [HWF.out k hk16 Hok.out]; rfl, hX.below⟩
      · obtain rfl : k = 16 := by omega
        have hx := run_next_over (P := Try.prog) hR.b1 (by rw [Hsz.out]; omega)
        have hwf : wf (joined date clock) := fun j hj => HALL.out j hj
        have dig : ∀ j, j < 16 → shp j = 48 → 48 ≤ bt (joined date clock) j ∧ bt (joined date clock) j ≤ 57 := fun j hj hs => by
          have := hwf j hj
          unfold okb at this
          rw [if_pos hs] at this
          simpa using this
        have Hx := Lib.hid dig
        have Hwf := Lib.hid hwf
        have hbx := hR.below
        have hcx : wr.cell? ⟨w.heap.size, 0, none⟩ = some (.string (joined date clock)) := cell_of hR.b0 rfl
        have hlx := (Array.getElem?_eq_some_iff.1 hR.b0).1
        clear dig hwf HALL hR
        go_wp2_with fail
        refine (number4 (joined date clock) 0 0 4 rfl rfl (by rw [Hsz.out]; omega) (by rw [Hsz.out]; omega) _ _ hcx (Hx.out (0 + 0) (by omega) (by decide +kernel)) (Hx.out (0 + 1) (by omega) (by decide +kernel)) (Hx.out (0 + 2) (by omega) (by decide +kernel)) (Hx.out (0 + 3) (by omega) (by decide +kernel))).mono ?_
        rintro e v0 ⟨rfl, hb0⟩
        replace hbx := hbx.trans (hb0.mono hbx.size)
        replace hcx := (hb0.cell (p := ⟨w.heap.size, 0, none⟩) hlx).trans hcx
        replace hlx := Nat.lt_of_lt_of_le hlx hb0.size
        clear hb0
        go_wp2_with fail
        refine (number2 (joined date clock) 5 5 7 rfl rfl (by rw [Hsz.out]; omega) (by rw [Hsz.out]; omega) _ _ hcx (Hx.out (5 + 0) (by omega) (by decide +kernel)) (Hx.out (5 + 1) (by omega) (by decide +kernel))).mono ?_
        rintro e v1 ⟨rfl, hb1⟩
        replace hbx := hbx.trans (hb1.mono hbx.size)
        replace hcx := (hb1.cell (p := ⟨w.heap.size, 0, none⟩) hlx).trans hcx
        replace hlx := Nat.lt_of_lt_of_le hlx hb1.size
        clear hb1
        go_wp2_with fail
        refine (number2 (joined date clock) 8 8 10 rfl rfl (by rw [Hsz.out]; omega) (by rw [Hsz.out]; omega) _ _ hcx (Hx.out (8 + 0) (by omega) (by decide +kernel)) (Hx.out (8 + 1) (by omega) (by decide +kernel))).mono ?_
        rintro e v2 ⟨rfl, hb2⟩
        replace hbx := hbx.trans (hb2.mono hbx.size)
        replace hcx := (hb2.cell (p := ⟨w.heap.size, 0, none⟩) hlx).trans hcx
        replace hlx := Nat.lt_of_lt_of_le hlx hb2.size
        clear hb2
        go_wp2_with fail
        refine (number2 (joined date clock) 11 11 13 rfl rfl (by rw [Hsz.out]; omega) (by rw [Hsz.out]; omega) _ _ hcx (Hx.out (11 + 0) (by omega) (by decide +kernel)) (Hx.out (11 + 1) (by omega) (by decide +kernel))).mono ?_
        rintro e v3 ⟨rfl, hb3⟩
        replace hbx := hbx.trans (hb3.mono hbx.size)
        replace hcx := (hb3.cell (p := ⟨w.heap.size, 0, none⟩) hlx).trans hcx
        replace hlx := Nat.lt_of_lt_of_le hlx hb3.size
        clear hb3
        go_wp2_with fail
        refine (number2 (joined date clock) 14 14 16 rfl rfl (by rw [Hsz.out]; omega) (by rw [Hsz.out]; omega) _ _ hcx (Hx.out (14 + 0) (by omega) (by decide +kernel)) (Hx.out (14 + 1) (by omega) (by decide +kernel))).mono ?_
        rintro e v4 ⟨rfl, hb4⟩
        replace hbx := hbx.trans (hb4.mono hbx.size)
        replace hcx := (hb4.cell (p := ⟨w.heap.size, 0, none⟩) hlx).trans hcx
        replace hlx := Nat.lt_of_lt_of_le hlx hb4.size
        clear hb4
        go_wp2_with fail
        refine (at_any (n4 (joined date clock) 0) (n2 (joined date clock) 5) (n2 (joined date clock) 8) (n2 (joined date clock) 11) (n2 (joined date clock) 14) 0 o _).mono ?_
        rintro e v5 ⟨rfl, hb5⟩
        replace hbx := hbx.trans (hb5.mono hbx.size)
        clear hb5 hcx hlx
        by_cases hok : okC (n4 (joined date clock) 0) (n2 (joined date clock) 5) (n2 (joined date clock) 8) (n2 (joined date clock) 11) (n2 (joined date clock) 14) o ∧ (0 ≤ atN (n4 (joined date clock) 0) (n2 (joined date clock) 5) (n2 (joined date clock) 8) (n2 (joined date clock) 11) (n2 (joined date clock) 14) o ∧ atN (n4 (joined date clock) 0) (n2 (joined date clock) 5) (n2 (joined date clock) 8) (n2 (joined date clock) 11) (n2 (joined date clock) 14) o ≤ 50000000)
        · have hat : atRes (n4 (joined date clock) 0) (n2 (joined date clock) 5) (n2 (joined date clock) 8) (n2 (joined date clock) 11) (n2 (joined date clock) 14) o = .tuple #[.int .i64 (atN (n4 (joined date clock) 0) (n2 (joined date clock) 5) (n2 (joined date clock) 8) (n2 (joined date clock) 11) (n2 (joined date clock) 14) o), .bool true] := by
            unfold atRes; rw [if_pos hok.1]; simp [hok.2.1, hok.2.2]
          have hres : readRes date clock o = .tuple #[.int .i64 (atN (n4 (joined date clock) 0) (n2 (joined date clock) 5) (n2 (joined date clock) 8) (n2 (joined date clock) 11) (n2 (joined date clock) 14) o), .int .i64 0] := by
            unfold readRes; rw [if_pos ⟨H10.out.1, H10.out.2, Hwf.out, hok.1, hok.2⟩]
          have HR := Lib.hid hres
          rw [hat]
          clear hok hat hres
          go_wp2_with fail
          go_ret2
          exact ⟨by rw [HR.out]; rfl, hbx⟩
        · have hat : ∃ N, atRes (n4 (joined date clock) 0) (n2 (joined date clock) 5) (n2 (joined date clock) 8) (n2 (joined date clock) 11) (n2 (joined date clock) 14) o = .tuple #[.int .i64 N, .bool false] := by
            unfold atRes
            split
            · rename_i hk
              refine ⟨atN (n4 (joined date clock) 0) (n2 (joined date clock) 5) (n2 (joined date clock) 8) (n2 (joined date clock) 11) (n2 (joined date clock) 14) o, ?_⟩
              congr
              simp
              have : ¬ (0 ≤ atN (n4 (joined date clock) 0) (n2 (joined date clock) 5) (n2 (joined date clock) 8) (n2 (joined date clock) 11) (n2 (joined date clock) 14) o ∧ atN (n4 (joined date clock) 0) (n2 (joined date clock) 5) (n2 (joined date clock) 8) (n2 (joined date clock) 11) (n2 (joined date clock) 14) o ≤ 50000000) := fun hh => hok ⟨hk, hh⟩
              omega
            · exact ⟨0, rfl⟩
          obtain ⟨N, hat⟩ := hat
          have hres : readRes date clock o = .tuple #[.int .i64 0, .int .i64 60] := by
            unfold readRes; rw [if_neg (fun hh => hok ⟨hh.2.2.2.1, hh.2.2.2.2⟩)]
          have HR := Lib.hid hres
          rw [hat]
          clear hok hat hres
          go_wp2_with fail
          go_ret2
          exact ⟨by rw [HR.out]; rfl, hbx⟩
  · have hres : readRes date clock o = .tuple #[.int .i64 0, .int .i64 60] := by
      unfold readRes; rw [if_neg (fun hh => h10 ⟨hh.1, hh.2.1⟩)]
    have HR := Lib.hid hres
    have hj : date ++ ⟨#[32]⟩ ++ clock = joined date clock := rfl
    have hjs := joined_size date clock
    by_cases h1 : date.size = 10
    · have t2 : ((date.size : Int) != 10) = false := by simp [h1]
      have t3 : (((joined date clock).size : Int) != 16) = true := by simp; omega
      clear hres h10 h1 hjs
      go_enter Try.func17, Try.ntmps17
      go_wp2_with fail
      go_ret2
      exact ⟨by rw [HR.out]; rfl, (Below.refl w.heap.size w).alloc (Nat.le_refl _) _⟩
    · have t2 : ((date.size : Int) != 10) = true := by simp; omega
      clear hres h10 h1 hjs
      go_enter Try.func17, Try.ntmps17
      go_wp2_with fail
      go_ret2
      exact ⟨by rw [HR.out]; rfl, (Below.refl w.heap.size w).alloc (Nat.le_refl _) _⟩
end Go.Proofs.Ytkbdgelfjdahpaa
