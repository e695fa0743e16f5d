/- The contract of calendar.at. -/
import Derived.Test.YtkbdgelfjdahpaaParts
namespace Go.Proofs.Ytkbdgelfjdahpaa
open Go.RowKit Go.Rg Go.Shelf
set_option linter.unusedVariables false
set_option linter.unusedSimpArgs false
attribute [local go_sem] Oper.semAt_some

theorem isIn_yes (x lo hi : Int) (w : World) (h : lo ≤ x ∧ x ≤ hi) :
    Calls Try.prog 22 #[.int .i64 x, .int .i64 lo, .int .i64 hi] w fun e w' => e = .returned (.bool true) ∧ w = w' := by
  have := isIn_any x lo hi w
  simpa [h.1, h.2] using this
theorem isIn_no (x lo hi : Int) (w : World) (h : ¬ (lo ≤ x ∧ x ≤ hi)) :
    Calls Try.prog 22 #[.int .i64 x, .int .i64 lo, .int .i64 hi] w fun e w' => e = .returned (.bool false) ∧ w = w' := by
  refine (isIn_any x lo hi w).mono fun e w' ⟨he, hw⟩ => ⟨by rw [he]; congr; simp; omega, hw⟩

def okC (y m d h mi o : Int) : Prop := (1999 ≤ y ∧ y ≤ 2200) ∧ (1 ≤ d ∧ d ≤ days y m) ∧ (0 ≤ h ∧ h ≤ 23) ∧ (0 ≤ mi ∧ mi ≤ 59) ∧ (-840 ≤ o ∧ o ≤ 840)
instance (y m d h mi o : Int) : Decidable (okC y m d h mi o) := by unfold okC; infer_instance
def nOf (y m : Int) : Nat := ((y - 1999) * 12 + (m - 1)).toNat
def atN (y m d h mi o : Int) : Int := (before (nOf y m) + d - 1) * 1440 + h * 60 + mi - o - 525600

structure AI (w : World) (y m d h mi wd o : Int) (W : World) : Prop where
  below : Below w.heap.size w W
  sz : w.heap.size + 2 ≤ W.heap.size
  b0 : W.heap[w.heap.size]? = some (.cells #[.int .i64 y, .int .i64 m, .int .i64 d, .int .i64 h, .int .i64 mi, .int .i64 wd] 23 (0, 0))
  b1 : W.heap[w.heap.size + 1]? = some (.cells #[.int .i64 o] 3 (0, 0))
theorem AI.fr {w : World} {y m d h mi wd o : Int} {A B : World} {S : Nat → Prop} (k : AI w y m d h mi wd o A) (hf : Fr S A B) (hS : ∀ k, k < w.heap.size + 2 → ¬ S k) : AI w y m d h mi wd o B := by
  have hz := k.sz
  have hz2 := hf.size
  refine ⟨k.below.trans (hf.below (fun k hk => hS k (by omega)) (by omega)), by omega, ?_, ?_⟩
  · rw [hf.block _ (by omega) (hS _ (by omega))]; exact k.b0
  · rw [hf.block _ (by omega) (hS _ (by omega))]; exact k.b1

def atRes (y m d h mi o : Int) : Value := if okC y m d h mi o then .tuple #[.int .i64 (atN y m d h mi o), .bool (decide (0 ≤ atN y m d h mi o) && decide (atN y m d h mi o ≤ 50000000))] else .tuple #[.int .i64 0, .bool false]

theorem month_of {y m d : Int} (h : 1 ≤ d ∧ d ≤ days y m) : 1 ≤ m ∧ m ≤ 12 := by
  unfold days at h
  split at h
  · omega
  · omega
theorem my_n {y m : Int} (h1 : 1999 ≤ y) (h2 : 1 ≤ m ∧ m ≤ 12) : my (nOf y m) = y := by unfold my nOf; omega
theorem mm_n {y m : Int} (h1 : 1999 ≤ y) (h2 : 1 ≤ m ∧ m ≤ 12) : mm (nOf y m) = m := by unfold mm nOf; omega
theorem n_of {y m : Int} {i : Nat} (h1 : my i = y) (h2 : mm i = m) : i = nOf y m := by unfold my mm at *; unfold nOf; omega

/-- Between two rounds of at's loop. -/
structure AL (w : World) (y m d h mi wd o : Int) (Bo : Nat) (v : Int) (W : World) : Prop where
  ai : AI w y m d h mi wd o W
  lt : w.heap.size + 2 ≤ Bo
  bo : W.heap[Bo]? = some (.cells #[.int .i64 v] 3 (0, 0))
theorem AL.fr {w : World} {y m d h mi wd o v : Int} {Bo : Nat} {A B : World} {S : Nat → Prop} (k : AL w y m d h mi wd o Bo v A) (hf : Fr S A B) (hS : ∀ k, k ≤ Bo → ¬ S k) : AL w y m d h mi wd o Bo v B :=
  ⟨k.ai.fr hf (fun i hi => hS i (by have := k.lt; omega)), k.lt, (hf.block _ (Array.getElem?_eq_some_iff.1 k.bo).1 (hS _ (Nat.le_refl _))).trans k.bo⟩

def AA (w : World) (y m d h mi wd o : Int) (Bo i s z x : Nat) (a' : Act) (W : World) : Prop :=
  AL w y m d h mi wd o Bo 0 W ∧ i ≤ nOf y m ∧ x = i ∧ ∃ B, z ≤ B ∧ Bo + 3 ≤ B ∧ W.heap[B]? = some (.cells #[.int .i64 (my i), .int .i64 (mm i), .int .i64 0, .int .i64 0, .int .i64 0, .int .i64 0] 23 (0, 0)) ∧
    a' = { tmps := #[.agg #[.int .i64 y, .int .i64 m, .int .i64 d, .int .i64 h, .int .i64 mi, .int .i64 wd], .int .i64 o, .pointer (some ⟨w.heap.size, 0, none⟩), .pointer (some ⟨w.heap.size + 1, 0, none⟩), .int .i64 0, .bool false, .bool true, .pointer (some ⟨Bo, 0, none⟩), .pointer (some ⟨B, 0, none⟩), .int .i64 (before i), .pointer (some ⟨w.heap.size, 0, none⟩), .int .i64 y, .bool true, .bool true, .pointer (some ⟨w.heap.size, 2, none⟩), .int .i64 d, .pointer (some ⟨w.heap.size, 0, none⟩), .int .i64 y, .pointer (some ⟨w.heap.size, 1, none⟩), .int .i64 m, .int .i64 (days y m), .bool true, .bool true, .bool true, .bool false, .bool false, .pointer (some ⟨w.heap.size, 3, none⟩), .int .i64 h, .bool true, .bool false, .bool false, .bool false, .pointer (some ⟨w.heap.size, 4, none⟩), .int .i64 mi, .bool true, .bool false, .bool false, .bool false, .int .i64 o, .bool true, .bool false, .bool false, .func (.func 34) #[] #[], civil (my i) (mm i) 0 0 0 0, .int .i64 (before i), undef, undef, undef, undef, undef, undef, undef, undef, undef, undef, undef, undef, undef, undef, undef, undef, undef, undef, undef, undef, undef, undef, undef, undef, undef, undef, undef, undef, undef, undef, undef], defers := [] }

set_option maxHeartbeats 1000000 in
theorem at_any (y m d h mi wd o : Int) (w : World) :
    Calls Try.prog 27 #[civil y m d h mi wd, .int .i64 o] w fun e w' => e = .returned (atRes y m d h mi o) ∧ Below w.heap.size w w' := by
  unfold civil
  have dd := days_bd y m
  refine calls_of_wp_marks Try.func27 rfl ?_
  simp only [Try.ntmps27, List.size_toArray, List.length_cons, List.length_nil, Nat.reduceAdd, Nat.reduceSub, Array.replicate_succ, Array.replicate_zero, List.push_toArray, List.append_toArray, List.nil_append, List.cons_append]
  go_wp2_with fail
  have hP0 : AI w y m d h mi wd o ((w.alloc (.cells #[.int .i64 y, .int .i64 m, .int .i64 d, .int .i64 h, .int .i64 mi, .int .i64 wd] 23)).alloc (.cells #[.int .i64 o] 3)) :=
    ⟨((Below.refl _ _).alloc (Nat.le_refl _) _).alloc (by simp) _, by simp, heap_old (heap_new rfl), heap_new (by simp)⟩
  generalize ((w.alloc (.cells #[.int .i64 y, .int .i64 m, .int .i64 d, .int .i64 h, .int .i64 mi, .int .i64 wd] 23)).alloc (.cells #[.int .i64 o] 3)) = W0 at hP0 ⊢
  have c0 := cell_ext (cell_of (o := 0) hP0.b0 rfl)
  have c1 := cell_ext (cell_of (o := 1) hP0.b0 rfl)
  have c2 := cell_ext (cell_of (o := 2) hP0.b0 rfl)
  refine region_ext (by kernel_rfl) (by kernel_rfl) ?_
  by_cases h1 : 1999 ≤ y ∧ y ≤ 2200
  · by_cases h2 : 1 ≤ d ∧ d ≤ days y m
    · repeat (go_big_quiet_step (first | (go_at_call 19; exact call_ext (days_any _ _ _)) | (go_at_call 22; exact call_ext_same (isIn_yes _ _ _ _ h1)) | (go_at_call 22; exact call_ext_same (isIn_yes _ _ _ _ h2))))
      refine wpQuiet_nil ?_
      rintro w' ⟨⟨W1, hF1⟩, rfl⟩
      have hP1 := hP0.fr hF1 (fun k hk h => h)
      clear c0 c1 c2 hP0
      have d3 := cell_of (o := 3) hP1.b0 rfl
      have d4 := cell_of (o := 4) hP1.b0 rfl
      have d6 := cell_of (o := 0) hP1.b1 rfl
      have hl1 := hP1.sz
      have H1 := Lib.hid h1
      have H2 := Lib.hid h2
      clear h1 h2
      go_wp2_with fail
      by_cases h3 : 0 ≤ h ∧ h ≤ 23
      · refine (isIn_yes _ _ _ _ h3).mono ?_
        rintro e w' ⟨rfl, rfl⟩
        have H3 := Lib.hid h3
        clear h3
        go_wp2_with fail
        by_cases h4 : 0 ≤ mi ∧ mi ≤ 59
        · refine (isIn_yes _ _ _ _ h4).mono ?_
          rintro e w' ⟨rfl, rfl⟩
          have H4 := Lib.hid h4
          clear h4
          go_wp2_with fail
          by_cases h5 : -840 ≤ o ∧ o ≤ 840
          · refine (isIn_yes _ _ _ _ h5).mono ?_
            rintro e w' ⟨rfl, rfl⟩
            have hok : okC y m d h mi o := ⟨H1.out, H2.out, H3.out, H4.out, h5⟩
            have Hok := Lib.hid hok
            clear h5 hok H1 H2 H3 H4
            go_wp2_with fail
            refine (months_any _).mono ?_
            rintro e w' ⟨rfl, rfl⟩
            go_wp2_with fail
            obtain ⟨Bo, hBo⟩ : ∃ Bo, w'.heap.size = Bo := ⟨_, rfl⟩
            rw [hBo]
            have hL0 : AL w y m d h mi wd o Bo 0 (w'.alloc (.cells #[.int .i64 0] 3)) := ⟨hP1.fr ((Fr.refl (fun _ => False) _).alloc _) (fun k hk h => h), by omega, heap_new hBo⟩
            have hz0 : (w'.alloc (.cells #[.int .i64 0] 3)).heap.size = Bo + 1 := by simp [hBo]
            generalize w'.alloc (.cells #[.int .i64 0] 3) = W2 at hL0 hz0 ⊢
            clear d3 d4 d6 hl1 hP1 hBo hF1
            have hmo := month_of Hok.out.2.1
            have hn : nOf y m ≤ 3000 := by have := Hok.out.1; unfold nOf; omega
            refine wp_range (α := Nat) (Bo + 1) hz0 (gf := 34) (lb := #[]) rfl (enters_of Try.func34 (by kernel_rfl) rfl) (months_iter (nOf y m) (by omega)) (fun _ => rfl) (fun k => k = Bo)
              (fun _ _ => trivial) (by simp) (fun _ _ => ⟨fun h => h, fun h => h⟩)
              (fun i s W => AL w y m d h mi wd o Bo 0 W ∧ i ≤ nOf y m) (fun c i W => c = .exit 0 ∧ AL w y m d h mi wd o Bo (atN y m d h mi o) W)
              ?hI ?hIx (fun i s W h => h.2) ?h0 (fun i s z x a' W => AA w y m d h mi wd o Bo i s z x a' W) ?hA ?hassign ?hbody ?hdone ?hstop
            case hI => rintro i s A B ⟨h, hi⟩ hs hf; exact ⟨h.fr hf (fun k hk => by simp; omega), hi⟩
            case hIx => rintro c i A B ⟨rfl, h⟩ hs hf; exact ⟨rfl, h.fr hf (fun k hk => by simp; omega)⟩
            case h0 => intro W hf hz; exact ⟨hL0.fr hf (fun k hk h => h), Nat.zero_le _⟩
            case hA =>
              rintro i s z x a' X Y ⟨h, hi, rfl, B, hB, hB4, hb, rfl⟩ hs hf hz
              refine ⟨h.fr hf (fun k hk => by omega), hi, rfl, B, hB, hB4, ?_, rfl⟩
              rw [hf.block B (Array.getElem?_eq_some_iff.1 hb).1 (by omega)]; exact hb
            case hassign =>
              intro l i s x W hx hi hs hsW
              obtain rfl : i = x := by simpa using hx
              simp only [monthArgs, civil]
              gi_wp2
              exact ⟨(Fr.refl _ _).alloc _, hi.1.fr ((Fr.refl (fun _ => False) _).alloc _) (fun k hk h => h), hi.2, rfl, _, Nat.le_refl _, by omega, heap_new rfl, rfl⟩
            case hbody =>
              rintro l i s z x a' W hx ⟨hl, hi, rfl, B, hB, hB4, hb, rfl⟩ hs hsz hz
              have e0 := cell_of (o := 0) hl.ai.b0 rfl
              have e1 := cell_of (o := 1) hl.ai.b0 rfl
              have e2 := cell_of (o := 2) hl.ai.b0 rfl
              have e3 := cell_of (o := 3) hl.ai.b0 rfl
              have e4 := cell_of (o := 4) hl.ai.b0 rfl
              have e5 := cell_of (o := 0) hl.ai.b1 rfl
              have m0 := cell_of (o := 0) hb rfl
              have m1 := cell_of (o := 1) hb rfl
              have fo := frozen_of (o := 0) hl.bo
              have co := cell_of (o := 0) hl.bo rfl
              have hlo := (Array.getElem?_eq_some_iff.1 hl.bo).1
              have hbb := before_bd x
              by_cases g1 : my x = y
              · have t1 : (my x == y) = true := by simpa using g1
                by_cases g2 : mm x = m
                · have t2 : (mm x == m) = true := by simpa using g2
                  have hxn := n_of g1 g2
                  have hva : atN y m d h mi o = (before x + d - 1) * 1440 + h * 60 + mi - o - 525600 := by unfold atN; rw [← hxn]
                  have Hva := Lib.hid hva
                  have Hok2 := Hok.out
                  obtain ⟨o1, o2, ⟨o3, o3'⟩, ⟨o4, o4'⟩, o5, o5'⟩ := Hok2
                  obtain ⟨o2, o2'⟩ := o2
                  clear g1 g2 hxn hva o1
                  gi_wp2
                  have hs2 := heap_set (o := 0) (.int .i64 ((before x + d - 1) * 1440 + h * 60 + mi - o - 525600)) hl.bo
                  have hf2 : Fr (fun k => k = Bo) W (W.setCell ⟨Bo, 0, none⟩ (.int .i64 ((before x + d - 1) * 1440 + h * 60 + mi - o - 525600))) := (Fr.refl _ W).setCell _ _ (fun _ => rfl)
                  have hlt := hl.lt
                  refine ⟨hf2.mono (fun k _ h => .inl h), rfl, hl.ai.fr hf2 (fun k hk => by omega), hl.lt, ?_⟩
                  rw [Hva.out]; exact hs2
                · have t2 : (mm x == m) = false := by simpa using g2
                  have hne : x + 1 ≤ nOf y m := by
                    have : x ≠ nOf y m := fun e => g2 (by rw [e]; exact mm_n Hok.out.1.1 hmo)
                    omega
                  clear g1 g2
                  gi_wp2
                  exact ⟨Fr.refl _ _, hl, hne⟩
              · have t1 : (my x == y) = false := by simpa using g1
                have hne : x + 1 ≤ nOf y m := by
                  have : x ≠ nOf y m := fun e => g1 (by rw [e]; exact my_n Hok.out.1.1 hmo)
                  omega
                clear g1
                gi_wp2
                exact ⟨Fr.refl _ _, hl, hne⟩
            case hdone => intro k s W hx; cases hx
            case hstop =>
              rintro c i x W hx ⟨rfl, hl⟩ hs hD
              go_wp2_with fail
              have co := cell_ext (cell_of (o := 0) hl.bo rfl)
              by_cases hr : 0 ≤ atN y m d h mi o ∧ atN y m d h mi o ≤ 50000000
              · have hres : atRes y m d h mi o = .tuple #[.int .i64 (atN y m d h mi o), .bool true] := by
                  unfold atRes; rw [if_pos Hok.out]; simp [hr.1, hr.2]
                have HR := Lib.hid hres
                have Hr := Lib.hid hr
                clear hres hr
                refine region_ext (by kernel_rfl) (by kernel_rfl) ?_
                repeat (go_big_quiet_step ((go_at_call 22; exact call_ext_same (isIn_yes _ _ _ _ Hr.out))))
                refine wpQuiet_nil ?_
                rintro w' ⟨⟨W1, hF1⟩, rfl⟩
                go_wp2
                have hD1 := (hF1.block _ (Array.getElem?_eq_some_iff.1 hD).1 (fun h => h)).trans hD
                refine leave_mark (v := .tuple #[.int .i64 (atN y m d h mi o), .bool true]) hD1 (fun W' hf hz => ⟨by simp [results, Try.results27, go_sem], by rw [HR.out], ?_⟩)
                exact ((hl.fr hF1 (fun k _ h => h)).fr hf (fun k hk => by omega)).ai.below
              · have hres : atRes y m d h mi o = .tuple #[.int .i64 (atN y m d h mi o), .bool false] := by
                  unfold atRes; rw [if_pos Hok.out]; congr; simp; omega
                have HR := Lib.hid hres
                have Hr := Lib.hid hr
                clear hres hr
                refine region_ext (by kernel_rfl) (by kernel_rfl) ?_
                repeat (go_big_quiet_step ((go_at_call 22; exact call_ext_same (isIn_no _ _ _ _ Hr.out))))
                refine wpQuiet_nil ?_
                rintro w' ⟨⟨W1, hF1⟩, rfl⟩
                go_wp2
                have hD1 := (hF1.block _ (Array.getElem?_eq_some_iff.1 hD).1 (fun h => h)).trans hD
                refine leave_mark (v := .tuple #[.int .i64 (atN y m d h mi o), .bool false]) hD1 (fun W' hf hz => ⟨by simp [results, Try.results27, go_sem], by rw [HR.out], ?_⟩)
                exact ((hl.fr hF1 (fun k _ h => h)).fr hf (fun k hk => by omega)).ai.below
          · refine (isIn_no _ _ _ _ h5).mono ?_
            rintro e w' ⟨rfl, rfl⟩
            have Hno : atRes y m d h mi o = .tuple #[.int .i64 0, .bool false] := by unfold atRes; rw [if_neg (fun hh => h5 hh.2.2.2.2)]
            have HR := Lib.hid Hno
            clear Hno h5
            go_wp2
            exact ⟨.tuple #[.int .i64 0, .bool false], by simp [results, Try.results27, go_sem], by rw [HR.out], hP1.below⟩
        · refine (isIn_no _ _ _ _ h4).mono ?_
          rintro e w' ⟨rfl, rfl⟩
          have Hno : atRes y m d h mi o = .tuple #[.int .i64 0, .bool false] := by unfold atRes; rw [if_neg (fun hh => h4 hh.2.2.2.1)]
          have HR := Lib.hid Hno
          clear Hno h4
          go_wp2
          exact ⟨.tuple #[.int .i64 0, .bool false], by simp [results, Try.results27, go_sem], by rw [HR.out], hP1.below⟩
      · refine (isIn_no _ _ _ _ h3).mono ?_
        rintro e w' ⟨rfl, rfl⟩
        have Hno : atRes y m d h mi o = .tuple #[.int .i64 0, .bool false] := by unfold atRes; rw [if_neg (fun hh => h3 hh.2.2.1)]
        have HR := Lib.hid Hno
        clear Hno h3
        go_wp2
        exact ⟨.tuple #[.int .i64 0, .bool false], by simp [results, Try.results27, go_sem], by rw [HR.out], hP1.below⟩
    · have Hno : atRes y m d h mi o = .tuple #[.int .i64 0, .bool false] := by unfold atRes; rw [if_neg (fun hh => h2 hh.2.1)]
      have H1 := Lib.hid h1
      have H2 := Lib.hid h2
      have HR := Lib.hid Hno
      clear h1 h2 Hno
      repeat (go_big_quiet_step (first | (go_at_call 19; exact call_ext (days_any _ _ _)) | (go_at_call 22; exact call_ext_same (isIn_yes _ _ _ _ H1.out)) | (go_at_call 22; exact call_ext_same (isIn_no _ _ _ _ H2.out))))
      refine wpQuiet_nil ?_
      rintro w' ⟨X, rfl⟩
      go_wp2
      exact ⟨.tuple #[.int .i64 0, .bool false], by simp [results, Try.results27, go_sem], by rw [HR.out], (hP0.fr X.2 (fun k hk h => h)).below⟩
  · have Hno : atRes y m d h mi o = .tuple #[.int .i64 0, .bool false] := by unfold atRes; rw [if_neg (fun hh => h1 hh.1)]
    have H1 := Lib.hid h1
    have HR := Lib.hid Hno
    clear h1 Hno
    repeat (go_big_quiet_step ((go_at_call 22; exact call_ext_same (isIn_no _ _ _ _ H1.out))))
    refine wpQuiet_nil ?_
    rintro w' ⟨X, rfl⟩
    go_wp2
    exact ⟨.tuple #[.int .i64 0, .bool false], by simp [results, Try.results27, go_sem], by rw [HR.out], (hP0.fr X.2 (fun k hk h => h)).below⟩
end Go.Proofs.Ytkbdgelfjdahpaa
