/- The contract of calendar.Parts. -/
import Derived.Test.YtkbdgelfjdahpaaMonths
import Derived.Test.YtkbdgelfjdahpaaRq
namespace Go.Proofs.Ytkbdgelfjdahpaa
open Go.RowKit Go.Rg Go.Shelf
set_option linter.unusedVariables false
set_option linter.unusedSimpArgs false
attribute [local go_sem] Oper.semAt_some

def okB (m o : Int) : Bool := decide (0 ≤ m) && decide (m ≤ 50000000) && (decide (-840 ≤ o) && decide (o ≤ 840))

theorem parts_no (m o : Int) (w : World) (h : okB m o = false) :
    Calls Try.prog 11 #[.int .i64 m, .int .i64 o] w fun e w' => e = .returned (.tuple #[civil 0 0 0 0 0 0, .int .i64 60]) ∧ Below w.heap.size w w' := by
  unfold okB at h
  cases hm : (decide (0 ≤ m) && decide (m ≤ 50000000)) with
  | false =>
    have Hm := Lib.hid hm; clear hm h
    go_enter Try.func11, Try.ntmps11
    go_wp2_with fail
    refine (isIn_any _ _ _ _).mono ?_
    rintro e w' ⟨rfl, rfl⟩
    rw [Hm.out]
    go_wp2_with fail
    refine bodyPost_ret (v := .tuple #[civil 0 0 0 0 0 0, .int .i64 60]) (by simp [results, Try.results11, go_sem, civil]) rfl ⟨rfl, ?_⟩
    exact ((Below.refl _ _).alloc (Nat.le_refl _) _).alloc (by simp) _
  | true =>
    have ho : (decide (-840 ≤ o) && decide (o ≤ 840)) = false := by rw [hm] at h; simpa using h
    have Hm := Lib.hid hm; clear hm h
    have Ho := Lib.hid ho; clear ho
    go_enter Try.func11, Try.ntmps11
    go_wp2_with fail
    refine (isIn_any _ _ _ _).mono ?_
    rintro e w' ⟨rfl, rfl⟩
    rw [Hm.out]
    go_wp2_with fail
    refine (isIn_any _ _ _ _).mono ?_
    rintro e w' ⟨rfl, rfl⟩
    rw [Ho.out]
    go_wp2_with fail
    refine bodyPost_ret (v := .tuple #[civil 0 0 0 0 0 0, .int .i64 60]) (by simp [results, Try.results11, go_sem, civil]) rfl ⟨rfl, ?_⟩
    exact ((Below.refl _ _).alloc (Nat.le_refl _) _).alloc (by simp) _

/-- Between two rounds of Parts' loop. -/
structure PI (w : World) (day rest : Int) (n i : Nat) (W : World) : Prop where
  below : Below w.heap.size w W
  sz : w.heap.size + 4 ≤ W.heap.size
  b0 : W.heap[w.heap.size]? = some (.cells #[.int .i64 0, .int .i64 0, .int .i64 0, .int .i64 0, .int .i64 0, .int .i64 0] 23 (0, 0))
  b1 : W.heap[w.heap.size + 1]? = some (.cells #[.int .i64 0] 28 (0, 0))
  b2 : W.heap[w.heap.size + 1 + 1]? = some (.cells #[.int .i64 day] 3 (0, 0))
  b3 : W.heap[w.heap.size + 1 + 1 + 1]? = some (.cells #[.int .i64 rest] 3 (0, 0))
  le : i ≤ n
theorem PI.fr {w : World} {day rest : Int} {n i : Nat} {A B : World} {S : Nat → Prop} (h : PI w day rest n i A) (hf : Fr S A B) (hS : ∀ k, k < w.heap.size + 4 → ¬ S k) : PI w day rest n i B := by
  have hz := h.sz
  have hz2 := hf.size
  refine ⟨h.below.trans (hf.below (fun k hk => hS k (by omega)) (by omega)), by omega, ?_, ?_, ?_, ?_, h.le⟩
  · rw [hf.block _ (by omega) (hS _ (by omega))]; exact h.b0
  · rw [hf.block _ (by omega) (hS _ (by omega))]; exact h.b1
  · rw [hf.block _ (by omega) (hS _ (by omega))]; exact h.b2
  · rw [hf.block _ (by omega) (hS _ (by omega))]; exact h.b3
/-- Behind a return out of it. -/
structure PX (w : World) (day rest mi : Int) (n i : Nat) (W : World) : Prop where
  below : Below w.heap.size w W
  sz : w.heap.size + 4 ≤ W.heap.size
  b0 : W.heap[w.heap.size]? = some (.cells #[.int .i64 (my n), .int .i64 (mm n), .int .i64 (day - before n + 1), .int .i64 (rest / 60), .int .i64 mi, .int .i64 ((day + 4) % 7)] 23 (0, 0))
  b1 : W.heap[w.heap.size + 1]? = some (.cells #[.int .i64 0] 28 (0, 0))
theorem PX.fr {w : World} {day rest mi : Int} {n i : Nat} {A B : World} {S : Nat → Prop} (h : PX w day rest mi n i A) (hf : Fr S A B) (hS : ∀ k, k < w.heap.size + 4 → ¬ S k) : PX w day rest mi n i B := by
  have hz := h.sz
  have hz2 := hf.size
  refine ⟨h.below.trans (hf.below (fun k hk => hS k (by omega)) (by omega)), by omega, ?_, ?_⟩
  · rw [hf.block _ (by omega) (hS _ (by omega))]; exact h.b0
  · rw [hf.block _ (by omega) (hS _ (by omega))]; exact h.b1

/-- Behind the loop's assignments. -/
def PA (w : World) (m o : Int) (n i s z : Nat) (x : Nat) (a' : Act) (W : World) : Prop :=
  PI w ((m + o + 525600) / 1440) ((m + o + 525600) % 1440) n i W ∧ x = i ∧ ∃ B, z ≤ B ∧ w.heap.size + 6 ≤ B ∧ W.heap[B]? = some (.cells #[.int .i64 (my i), .int .i64 (mm i), .int .i64 0, .int .i64 0, .int .i64 0, .int .i64 0] 23 (0, 0)) ∧ a' = { tmps := #[.int .i64 m, .int .i64 o, undef, undef, .pointer (some ⟨w.heap.size, 0, none⟩), .pointer (some ⟨w.heap.size + 1, 0, none⟩), .int .i64 (m + o + 525600), .pointer (some ⟨w.heap.size + 1 + 1, 0, none⟩), .pointer (some ⟨w.heap.size + 1 + 1 + 1, 0, none⟩), .pointer (some ⟨B, 0, none⟩), .int .i64 (before i), .int .i64 m, .bool true, .bool false, .bool false, .int .i64 o, .bool true, .bool false, .bool false, undef, .int .i64 m, .int .i64 o, .int .i64 (m + o), .int .i64 (m + o + 525600), .int .i64 (m + o + 525600), .int .i64 ((m + o + 525600) / 1440), .int .i64 (m + o + 525600), .int .i64 ((m + o + 525600) % 1440), .func (.func 34) #[] #[], civil (my i) (mm i) 0 0 0 0, .int .i64 (before i), undef, undef, undef, undef, undef, undef, undef, undef, undef, undef, undef, undef, undef, undef, undef, undef, undef, undef, undef, undef, undef, undef, undef, undef, undef, undef], defers := [] }

theorem before_mono {a b : Nat} (h : a ≤ b) : before a ≤ before b := by
  induction b with
  | zero => have : a = 0 := by omega
            subst this; exact Int.le_refl _
  | succ b ih =>
    by_cases e : a = b + 1
    · subst e; exact Int.le_refl _
    · have := ih (by omega)
      have := days_bd (my b) (mm b)
      simp only [before]; omega

theorem parts_yes (m o : Int) (n : Nat) (w : World) (h : okB m o = true) (hn : n ≤ 100000) (h1 : before n ≤ (m + o + 525600) / 1440) (h2 : (m + o + 525600) / 1440 < before (n + 1)) :
    Calls Try.prog 11 #[.int .i64 m, .int .i64 o] w fun e w' => e = .returned (.tuple #[civil (my n) (mm n) ((m + o + 525600) / 1440 - before n + 1) ((m + o + 525600) % 1440 / 60) ((m + o + 525600) % 60) (((m + o + 525600) / 1440 + 4) % 7), .int .i64 0]) ∧ Below w.heap.size w w' := by
  unfold okB at h
  simp only [Bool.and_eq_true] at h
  have hm : (decide (0 ≤ m) && decide (m ≤ 50000000)) = true := by simp only [Bool.and_eq_true]; exact h.1
  have ho : (decide (-840 ≤ o) && decide (o ≤ 840)) = true := by simp only [Bool.and_eq_true]; exact h.2
  have b1 : 0 ≤ m ∧ m ≤ 50000000 := by simpa using h.1
  have b2 : -840 ≤ o ∧ o ≤ 840 := by simpa using h.2
  obtain ⟨b1a, b1b⟩ := b1
  obtain ⟨b2a, b2b⟩ := b2
  have Hm := Lib.hid hm; clear hm h
  have Ho := Lib.hid ho; clear ho
  have H1 := Lib.hid h1; clear h1
  have H2 := Lib.hid h2; clear h2
  refine calls_of_wp_marks Try.func11 rfl ?_
  simp only [Try.ntmps11, List.size_toArray, List.length_cons, List.length_nil, Nat.reduceAdd, Nat.reduceSub, Array.replicate_succ, Array.replicate_zero, List.push_toArray, List.append_toArray, List.nil_append, List.cons_append]
  go_wp2_with fail
  refine (isIn_any _ _ _ _).mono ?_
  rintro e w' ⟨rfl, rfl⟩
  rw [Hm.out]
  go_wp2_with fail
  refine (isIn_any _ _ _ _).mono ?_
  rintro e w' ⟨rfl, rfl⟩
  rw [Ho.out]
  go_wp2_with fail
  refine (months_any _).mono ?_
  rintro e w' ⟨rfl, rfl⟩
  go_wp2_with fail
  have d1 : 0 ≤ (m + o + 525600) / 1440 ∧ (m + o + 525600) / 1440 ≤ 40000 := by omega
  have d2 : 0 ≤ (m + o + 525600) % 1440 ∧ (m + o + 525600) % 1440 < 1440 := by omega
  obtain ⟨d1a, d1b⟩ := d1
  obtain ⟨d2a, d2b⟩ := d2
  obtain ⟨W0, hW0⟩ : ∃ W0, (((w.alloc (.cells #[.int .i64 0, .int .i64 0, .int .i64 0, .int .i64 0, .int .i64 0, .int .i64 0] 23)).alloc (.cells #[.int .i64 0] 28)).alloc (.cells #[.int .i64 ((m + o + 525600) / 1440)] 3)).alloc (.cells #[.int .i64 ((m + o + 525600) % 1440)] 3) = W0 := ⟨_, rfl⟩
  rw [hW0]
  have hP0 : PI w ((m + o + 525600) / 1440) ((m + o + 525600) % 1440) n 0 W0 := by
    rw [← hW0]
    refine ⟨?_, by simp, heap_old (heap_old (heap_old (heap_new rfl))), heap_old (heap_old (heap_new (by simp))), heap_old (heap_new (by simp)), heap_new (by simp), Nat.zero_le _⟩
    exact ((((Below.refl _ _).alloc (Nat.le_refl _) _).alloc (by simp) _).alloc (by simp <;> omega) _).alloc (by simp <;> omega) _
  have hz0 : W0.heap.size = w.heap.size + 4 := by rw [← hW0]; simp
  clear hW0
  refine wp_range (α := Nat) (w.heap.size + 4) hz0 (gf := 34) (lb := #[]) rfl (enters_of Try.func34 (by kernel_rfl) rfl) (months_iter n (by omega)) (fun _ => rfl) (fun k => k = w.heap.size ∨ k = w.heap.size + 1)
    (fun _ _ => trivial) (by simp <;> omega) (fun _ _ => ⟨fun h => h, fun h => h⟩)
    (fun i s W => PI w ((m + o + 525600) / 1440) ((m + o + 525600) % 1440) n i W) (fun c i W => c = .ret ∧ PX w ((m + o + 525600) / 1440) ((m + o + 525600) % 1440) ((m + o + 525600) % 60) n i W)
    ?hI ?hIx (fun i s W h => h.le) ?h0
    (fun i s z x a' W => PA w m o n i s z x a' W)
    ?hA ?hassign ?hbody ?hdone ?hstop
  case hI => intro i s A B h hs hf; exact h.fr hf (fun k hk => by simp; omega)
  case hIx => rintro c i A B ⟨rfl, h⟩ hs hf; exact ⟨rfl, h.fr hf (fun k hk => by simp; omega)⟩
  case h0 => intro W hf hz; exact hP0.fr hf (fun k hk h => h)
  case hA =>
    rintro i s z x a' X Y ⟨h, rfl, B, hB, hB4, hb, rfl⟩ hs hf hz
    refine ⟨h.fr hf (fun k hk => by omega), rfl, B, hB, hB4, ?_, rfl⟩
    rw [hf.block B (Array.getElem?_eq_some_iff.1 hb).1 (by omega)]; exact hb
  case hassign =>
    intro l i s x W hx hi hs hsW
    obtain rfl : i = x := by simpa using hx
    simp only [monthArgs, civil]
    gi_wp2
    exact ⟨(Fr.refl _ _).alloc _, hi.fr ((Fr.refl (fun _ => False) _).alloc _) (fun k hk h => h), rfl, _, Nat.le_refl _, by omega, heap_new rfl, rfl⟩
  case hbody =>
    rintro l i s z x a' W hx ⟨h, rfl, B, hB, hB4, hb, rfl⟩ hs hsz hz
    have c2 := cell_ext (cell_of (o := 0) h.b2 rfl)
    have cy := cell_ext (cell_of (o := 0) hb rfl)
    have cm := cell_ext (cell_of (o := 1) hb rfl)
    have hb0 := before_bd x
    have hdd := days_bd (my x) (mm x)
    have hle := h.le
    have hlt : w.heap.size + 4 ≤ W.heap.size := h.sz
    gi_wp2_with fail
    refine region_ext_round (by kernel_rfl) (by kernel_rfl) (by kernel_rfl) (fun ⟨_, _, h⟩ => h) ?_
    repeat (go_big_quiet_step ((go_at_call 19; exact call_ext (days_any _ _ _))))
    refine wpQuiet_nil ?_
    rintro w' ⟨X, rfl⟩
    obtain ⟨W1, hF1⟩ := X
    dsimp only
    have h1 := h.fr hF1 (fun k hk h => h)
    have hb1 := (hF1.block B (Array.getElem?_eq_some_iff.1 hb).1 (fun h => h)).trans hb
    have hz1 := hF1.size
    clear c2 cy cm
    by_cases hlt2 : (m + o + 525600) / 1440 < before x + days (my x) (mm x)
    · have hxn : x = n := by
        by_cases e : x = n
        · exact e
        · have := before_mono (show x + 1 ≤ n by omega)
          have h1 := H1.out
          simp only [before] at this
          omega
      subst hxn
      have hge := H1.out
      clear hb h
      gi_wp2_with fail
      have c2 := cell_extB (B := fun k => k = B) (cell_of (o := 0) h1.b2 rfl) (by show ¬ (w.heap.size + 1 + 1 = B); omega)
      have c3 := cell_extB (B := fun k => k = B) (cell_of (o := 0) h1.b3 rfl) (by show ¬ (w.heap.size + 1 + 1 + 1 = B); omega)
      have hB1 := (Array.getElem?_eq_some_iff.1 hb1).1
      have f0 := fun o => frozen_of (o := o) hb1
      have cb := fun o v => cell_of (o := o) (v := v) hb1
      have cb2 := cb 2 _ rfl
      have cb3 := cb 3 _ rfl
      have cb4 := cb 4 _ rfl
      have cb5 := cb 5 _ rfl
      clear cb
      refine region_seq_round (fun k => k = B) [([0, 1, 2, 3, 4, 5, 6, 7, 8, 9, 10, 11], 12), ([13], 14), ([15], 16), ([17], 18)] [] (by kernel_rfl) (by kernel_rfl) (by kernel_rfl) (fun _ _ _ _ h => h) (fun ⟨_, _, h⟩ => h) ?_
      simp only [seqQ, pick_cons, pick_nil, nthO_succ, nthO_zero]
      repeat (go_big_quiet_step (fail))
      refine wpQuiet_nil ?_
      go_wp2
      refine ⟨⟨⟨_, ((Fr.refl (fun k => k = B) W1).setCell _ _ (fun _ => rfl)).drew⟩, rfl⟩, ?_⟩
      repeat (go_big_quiet_step (fail))
      refine wpQuiet_nil ?_
      go_wp2
      refine ⟨⟨⟨_, (((Fr.refl (fun k => k = B) W1).setCell _ _ (fun _ => rfl)).setCell _ _ (fun _ => rfl)).drew⟩, rfl⟩, ?_⟩
      repeat (go_big_quiet_step (fail))
      refine wpQuiet_nil ?_
      go_wp2
      refine ⟨⟨⟨_, ((((Fr.refl (fun k => k = B) W1).setCell _ _ (fun _ => rfl)).setCell _ _ (fun _ => rfl)).setCell _ _ (fun _ => rfl)).drew⟩, rfl⟩, ?_⟩
      repeat (go_big_quiet_step (fail))
      refine wpQuiet_nil ?_
      go_wp2
      have hF3 := (((((Fr.refl (fun k => k = B) W1).setCell ⟨B, 2, none⟩ (.int .i64 ((m + o + 525600) / 1440 - before x + 1)) (fun _ => rfl)).setCell ⟨B, 3, none⟩ (.int .i64 ((m + o + 525600) % 1440 / 60)) (fun _ => rfl)).setCell ⟨B, 4, none⟩ (.int .i64 ((m + o + 525600) % 60)) (fun _ => rfl)).setCell ⟨B, 5, none⟩ (.int .i64 (((m + o + 525600) / 1440 + 4) % 7)) (fun _ => rfl)).drew
      refine ⟨⟨⟨_, hF3⟩, rfl⟩, ?_⟩
      refine wpQuiet_nil ?_
      have hb3 : ((((W1.setCell ⟨B, 2, none⟩ (.int .i64 ((m + o + 525600) / 1440 - before x + 1))).setCell ⟨B, 3, none⟩ (.int .i64 ((m + o + 525600) % 1440 / 60))).setCell ⟨B, 4, none⟩ (.int .i64 ((m + o + 525600) % 60))).setCell ⟨B, 5, none⟩ (.int .i64 (((m + o + 525600) / 1440 + 4) % 7))).drew.heap[B]? = _ := heap_set (o := 5) (.int .i64 (((m + o + 525600) / 1440 + 4) % 7)) (heap_set (o := 4) (.int .i64 ((m + o + 525600) % 60)) (heap_set (o := 3) (.int .i64 ((m + o + 525600) % 1440 / 60)) (heap_set (o := 2) (.int .i64 ((m + o + 525600) / 1440 - before x + 1)) hb1)))
      generalize ((((W1.setCell ⟨B, 2, none⟩ (.int .i64 ((m + o + 525600) / 1440 - before x + 1))).setCell ⟨B, 3, none⟩ (.int .i64 ((m + o + 525600) % 1440 / 60))).setCell ⟨B, 4, none⟩ (.int .i64 ((m + o + 525600) % 60))).setCell ⟨B, 5, none⟩ (.int .i64 (((m + o + 525600) / 1440 + 4) % 7))).drew = W3 at hb3 hF3 ⊢
      clear f0 cb2 cb3 cb4 cb5 c2 c3 hb1
      have h3 := h1.fr hF3 (fun k hk => by omega)
      clear h1
      have hne : B ≠ w.heap.size := by omega
      have hne1 : B ≠ w.heap.size + 1 := by omega
      have hB3 := (Array.getElem?_eq_some_iff.1 hb3).1
      have f1 := fun o => frozen_of (o := o) h3.b0
      have f2 := fun o => frozen_of (o := o) h3.b1
      have cb := fun o v => cell_of (o := o) (v := v) hb3
      have cb0 := cb 0 _ rfl
      have cb1 := cb 1 _ rfl
      have cb2 := cb 2 _ rfl
      have cb3 := cb 3 _ rfl
      have cb4 := cb 4 _ rfl
      have cb5 := cb 5 _ rfl
      have c0 := fun o v => cell_of (o := o) (v := v) h3.b0
      have c00 := c0 0 _ rfl
      have c01 := c0 1 _ rfl
      have c02 := c0 2 _ rfl
      have c03 := c0 3 _ rfl
      have c04 := c0 4 _ rfl
      have c05 := c0 5 _ rfl
      have c1 := cell_of (o := 0) h3.b1 rfl
      have Hb3 := Lib.hid hb3
      have H3 := Lib.hid h3
      have HF3 := Lib.hid hF3
      have HF1 := Lib.hid hF1
      clear cb c0 hb3 h3 hF3 hF1
      gi_wp2
      have h3 := H3.out
      have G := ((HF1.out.mono (T := fun k => (k = w.heap.size ∨ k = w.heap.size + 1) ∨ (w.heap.size + 4 + 2 ≤ k ∧ k < s) ∨ z ≤ k) (fun _ _ h => h.elim))).trans' HF3.out (fun i _ e => .inr (.inr (by omega)))
      refine ⟨((((((G.setCell _ _ (fun _ => .inl (.inl rfl))).setCell _ _ (fun _ => .inl (.inl rfl))).setCell _ _ (fun _ => .inl (.inl rfl))).setCell _ _ (fun _ => .inl (.inl rfl))).setCell _ _ (fun _ => .inl (.inl rfl))).setCell _ _ (fun _ => .inl (.inl rfl))).setCell _ _ (fun _ => .inl (.inr rfl)), rfl, ?_, ?_, ?_, ?_⟩
      · exact ((((((h3.below.setCell (p := ⟨w.heap.size, 0, none⟩) (Nat.le_refl _) _).setCell (p := ⟨w.heap.size, 1, none⟩) (Nat.le_refl _) _).setCell (p := ⟨w.heap.size, 2, none⟩) (Nat.le_refl _) _).setCell (p := ⟨w.heap.size, 3, none⟩) (Nat.le_refl _) _).setCell (p := ⟨w.heap.size, 4, none⟩) (Nat.le_refl _) _).setCell (p := ⟨w.heap.size, 5, none⟩) (Nat.le_refl _) _).setCell (p := ⟨w.heap.size + 1, 0, none⟩) (Nat.le_succ _) _
      · simp only [World.setCell, Array.size_modify]; exact h3.sz
      · exact heap_set_ne _ (Nat.ne_of_lt (Nat.lt_succ_self _)) (heap_set _ (heap_set _ (heap_set _ (heap_set _ (heap_set _ (heap_set _ h3.b0))))))
      · have nn : w.heap.size + 1 ≠ w.heap.size := Nat.succ_ne_self _
        exact heap_set _ (heap_set_ne _ nn (heap_set_ne _ nn (heap_set_ne _ nn (heap_set_ne _ nn (heap_set_ne _ nn (heap_set_ne _ nn h3.b1))))))
    · have hxn : x + 1 ≤ n := by
        by_cases e : x = n
        · have h2 := H2.out; rw [← e] at h2; simp only [before] at h2; omega
        · omega
      gi_wp2
      exact ⟨hF1.mono (fun _ _ h => h.elim), ⟨h1.below, h1.sz, h1.b0, h1.b1, h1.b2, h1.b3, hxn⟩⟩
  case hdone => intro k s W hx; cases hx
  case hstop =>
    rintro c i x W hx ⟨rfl, h⟩ hs hD
    go_wp2
    refine leave_mark (v := .tuple #[civil (my n) (mm n) (((m + o + 525600) / 1440) - before n + 1) (((m + o + 525600) % 1440) / 60) ((m + o + 525600) % 60) ((((m + o + 525600) / 1440) + 4) % 7), .int .i64 0]) hD (fun W' hf hz => ?_)
    have h' := h.fr hf (fun k hk => by omega)
    have c0 := fun o v => cell_of (o := o) (v := v) h'.b0
    have e0 := c0 0 _ rfl
    have e1 := c0 1 _ rfl
    have e2 := c0 2 _ rfl
    have e3 := c0 3 _ rfl
    have e4 := c0 4 _ rfl
    have e5 := c0 5 _ rfl
    have e6 := cell_of (o := 0) h'.b1 rfl
    clear c0
    exact ⟨by simp [results, Try.results11, go_sem, civil, e0, e1, e2, e3, e4, e5, e6], rfl, h'.below⟩
end Go.Proofs.Ytkbdgelfjdahpaa
