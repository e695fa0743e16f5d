/- Rights: merged texts (Sp Sn Mw Ha Qa Qb Qc Qd Rb Rc Rd): lemmas and contracts of functions that the laws reach. -/
import Derived.Test.YtnabgijdbcdpmaaDoorZc
namespace Go.Proofs.YtnabgijdbcdpmaaDoor
open Go.RowKit Go.Rg Go.Proofs.YtnabgijdbcdpmaaDoor.PRightsMatchesReference Go.Proofs.YtnabgijdbcdpmaaDoorW.PrintWords
set_option linter.unusedVariables false
set_option linter.unusedSimpArgs false

theorem slicerow {W : World} {g : Nat} {e : TypeId} {xss : List (List Int)} {cs : List Value} (hl : xss.length ≤ 9223372036854775807) (h : W.heap[g]? = some (.cells cs.toArray e (0, 0)))
    (hc : ∀ (j : Nat) (xs : List Int), xss[j]? = some xs → ∃ (A : Option Addr) (c : Nat), cs[j]? = some (Value.slice A xs.length c) ∧ xs.length ≤ c ∧ (Kd.int .i64).C W A xs.length xs) : (Kd.slice 3 (Kd.int .i64)).C W (some ⟨g, 0, none⟩) xss.length xss := by
  refine ⟨rfl, hl, fun _ => ⟨_, rfl, fun j p hj => ?_⟩⟩
  obtain ⟨A, c, h1, h2, h3⟩ := hc j p hj
  refine ⟨[.slice A p.length c], rfl, ⟨A, c, rfl, h2, h3⟩, fun i u hi => ?_⟩
  cases i with
  | zero =>
    obtain rfl : Value.slice A p.length c = u := by simpa using hi
    rw [add_plain]
    refine cell_of h ?_
    simpa [Kd.slice] using h1
  | succ i => simp at hi
theorem needs1 {W : World} {g a : Nat} {e e' : TypeId} {xs : List Int} (hl : xs.length ≤ 9223372036854775807) (h : W.heap[g]? = some (.cells #[.slice (some ⟨a, 0, none⟩) xs.length xs.length] e (0, 0))) (ha : W.heap[a]? = some (.cells (nums .i64 xs).toArray e' (0, 0))) :
    (Kd.slice 3 (Kd.int .i64)).C W (some ⟨g, 0, none⟩) 1 [xs] :=
  slicerow (xss := [xs]) (by simp) h fun j ys hj => by
    cases j with
    | zero =>
      obtain rfl : xs = ys := by simpa using hj
      exact ⟨_, _, rfl, Nat.le_refl _, introw hl ha⟩
    | succ j => simp at hj
theorem needs2 {W : World} {g a b : Nat} {e e' e2 : TypeId} {xs ys : List Int} (hl : xs.length ≤ 9223372036854775807) (hl2 : ys.length ≤ 9223372036854775807) (h : W.heap[g]? = some (.cells #[.slice (some ⟨a, 0, none⟩) xs.length xs.length, .slice (some ⟨b, 0, none⟩) ys.length ys.length] e (0, 0))) (ha : W.heap[a]? = some (.cells (nums .i64 xs).toArray e' (0, 0))) (hb : W.heap[b]? = some (.cells (nums .i64 ys).toArray e2 (0, 0))) :
    (Kd.slice 3 (Kd.int .i64)).C W (some ⟨g, 0, none⟩) 2 [xs, ys] :=
  slicerow (xss := [xs, ys]) (by simp) h fun j zs hj => by
    match j with
    | 0 =>
      obtain rfl : xs = zs := by simpa using hj
      exact ⟨_, _, rfl, Nat.le_refl _, introw hl ha⟩
    | 1 =>
      obtain rfl : ys = zs := by simpa using hj
      exact ⟨_, _, rfl, Nat.le_refl _, introw hl2 hb⟩
    | j + 2 => simp at hj

def ew1 : Wt := ⟨0, 0, 0, 2, [[1, 2]]⟩
def ew2 : Wt := ⟨0, 0, 0, 3, [[1, 2]]⟩
def ew3 : Wt := ⟨0, 0, 0, 1, [[2], [1, 3]]⟩
def ew4 : Wt := ⟨0, 0, 0, 1, [[4]]⟩
def ew5 : Wt := ⟨0, 0, 0, 0, []⟩
def ec0 : Cl := ⟨0, 0, 0, 0, 0, 0, 0, 0⟩
theorem ex1 : solve1 exL exU ew1 = [2] ∧ solve2 exL exU ew1 = [] ∧ solveE exL exU ew1 = 0 := by decide +kernel
theorem ex2 : solve1 exL exU ew2 = [] ∧ solve2 exL exU ew2 = [3, 5] ∧ solveE exL exU ew2 = 0 := by decide +kernel
theorem ex3 : solve1 exL exU ew3 = [] ∧ solve2 exL exU ew3 = [3, 4] ∧ solveE exL exU ew3 = 0 := by decide +kernel
theorem ex4 : solve1 exL exU ew4 = [] ∧ solve2 exL exU ew4 = [] ∧ solveE exL exU ew4 = 0 := by decide +kernel
theorem ex5 : solve1 exL exU ew5 = [] ∧ solve2 exL exU ew5 = [] ∧ solveE exL exU ew5 = 290 := by decide +kernel
theorem ex6 : brokenL exL exU ew3 [2, 1] = [3] ∧ brokenE exL exU ew3 [2, 1] = 0 ∧ lawB exL exU ew3 [2, 3] = false ∧ forbB exL exU ew3 [3, 4] = true ∧ forbB exL exU ew3 [3] = false := by decide +kernel
theorem ex7 : vldL exL = true ∧ vldL [ec0] = false ∧ vldW ew3 = true ∧ vldW ew5 = false ∧ applies ⟨1, 1, 255, 255, 0, 50000000, 0, 0⟩ ew3 = true ∧ applies ec0 ew3 = false := by decide +kernel
end Go.Proofs.YtnabgijdbcdpmaaDoor

namespace Go.Proofs.YtnabgijdbcdpmaaDoor
open Go.RowKit Go.Rg Go.Proofs.YtnabgijdbcdpmaaDoor.PRightsMatchesReference Go.Proofs.YtnabgijdbcdpmaaDoorW.PrintWords
set_option linter.unusedVariables false
set_option linter.unusedSimpArgs false

/-- The example's rows, as they lie. -/
structure EX (w : World) (A : Option Addr) (c : Nat) (UA : Option Addr) (uc : Nat) (W : World) : Prop where
  below : Below w.heap.size w W
  kinds : Kinds W
  rl : Kd.C k40 W A exL.length exL
  ru : (Kd.int .i64).C W UA exU.length exU
theorem EX.next {w W W' : World} {A : Option Addr} {c : Nat} {UA : Option Addr} {uc : Nat} (h : EX w A c UA uc W) (hb : Below W.heap.size W W') : EX w A c UA uc W' :=
  ⟨h.below.trans (hb.mono h.below.size), h.kinds.next hb, Kd.C_below h.rl hb, Kd.C_below h.ru hb⟩
theorem EX.args {w W : World} {A : Option Addr} {c : Nat} {UA : Option Addr} {uc : Nat} (h : EX w A c UA uc W) {wt : Wt} {WA : Option Addr} {wn : Nat} (hw : (Kd.slice 3 (Kd.int .i64)).C W WA wt.needs.length wt.needs) : Args W A c exL UA uc exU wt WA wn :=
  ⟨h.kinds, h.rl, h.ru, hw⟩

theorem no_out {P : Program} {fn : Func} {R : Ending → World → Prop} {K : Act → World → Prop} {a : Act} {w : World} (hR : ∀ w, ¬ R .outgrown w) (h : Exit.then K (bodyPost P fn R) .outgrown a w) : False := hR _ h
theorem clrow1 {W : World} {g : Nat} {e : TypeId} (h : W.heap[g]? = some (.cells #[.int .i64 0, .int .i64 0, .int .i64 0, .int .i64 0, .int .i64 0, .int .i64 0, .int .i64 0, .int .i64 0] e (0, 0))) : Kd.C k40 W (some ⟨g, 0, none⟩) 1 [ec0] := by
  refine ⟨rfl, by decide, fun _ => ⟨_, rfl, fun j p hj => ?_⟩⟩
  cases j with
  | zero =>
    obtain rfl : ec0 = p := by simpa using hj
    refine ⟨_, rfl, k40_mk W ec0, fun i u hi => ?_⟩
    rw [add_plain]
    refine cell_of h ?_
    simpa [ec0] using hi
  | succ j => simp at hj
theorem lit1 (W : World) (xs : List Int) (hl : xs.length ≤ 9223372036854775807) :
    Below W.heap.size W ((W.alloc (.cells (nums .i64 xs).toArray 3)).alloc (.cells #[.slice (some ⟨W.heap.size, 0, none⟩) xs.length xs.length] 23)) ∧
      (Kd.slice 3 (Kd.int .i64)).C ((W.alloc (.cells (nums .i64 xs).toArray 3)).alloc (.cells #[.slice (some ⟨W.heap.size, 0, none⟩) xs.length xs.length] 23)) (some ⟨W.heap.size + 1, 0, none⟩) 1 [xs] :=
  ⟨((Below.refl _ _).alloc (Nat.le_refl _) _).alloc (by simp) _, needs1 hl (heap_new (by simp)) (heap_old (heap_new rfl))⟩
theorem lit2 (W : World) (xs ys : List Int) (hl : xs.length ≤ 9223372036854775807) (hl2 : ys.length ≤ 9223372036854775807) :
    Below W.heap.size W (((W.alloc (.cells (nums .i64 xs).toArray 3)).alloc (.cells (nums .i64 ys).toArray 3)).alloc (.cells #[.slice (some ⟨W.heap.size, 0, none⟩) xs.length xs.length, .slice (some ⟨W.heap.size + 1, 0, none⟩) ys.length ys.length] 23)) ∧
      (Kd.slice 3 (Kd.int .i64)).C (((W.alloc (.cells (nums .i64 xs).toArray 3)).alloc (.cells (nums .i64 ys).toArray 3)).alloc (.cells #[.slice (some ⟨W.heap.size, 0, none⟩) xs.length xs.length, .slice (some ⟨W.heap.size + 1, 0, none⟩) ys.length ys.length] 23)) (some ⟨W.heap.size + 2, 0, none⟩) 2 [xs, ys] :=
  ⟨(((Below.refl _ _).alloc (Nat.le_refl _) _).alloc (by simp) _).alloc (by simp; omega) _, needs2 hl hl2 (heap_new (by simp)) (heap_old (heap_old (heap_new rfl))) (heap_old (heap_new (by simp)))⟩
theorem ilit (W : World) (xs : List Int) (hl : xs.length ≤ 9223372036854775807) :
    Below W.heap.size W (W.alloc (.cells (nums .i64 xs).toArray 3)) ∧ (Kd.int .i64).C (W.alloc (.cells (nums .i64 xs).toArray 3)) (some ⟨W.heap.size, 0, none⟩) xs.length xs :=
  ⟨(Below.refl _ _).alloc (Nat.le_refl _) _, introw hl (heap_new rfl)⟩
theorem ex_solve {w W : World} {A : Option Addr} {c : Nat} {UA : Option Addr} {uc : Nat} (h : EX w A c UA uc W) (wt : Wt) (WA : Option Addr) (wn : Nat) (hw : (Kd.slice 3 (Kd.int .i64)).C W WA wt.needs.length wt.needs) {a b : List Int} {e : Int} (hx : solve1 exL exU wt = a ∧ solve2 exL exU wt = b ∧ solveE exL exU wt = e) :
    Calls Tryd.prog 20 #[.slice A exL.length c, .slice UA exU.length uc, wtv wt WA wn] W fun en w' => ∃ A1 c1 A2 c2, en = .returned (.tuple #[.slice A1 a.length c1, .slice A2 b.length c2, .int .i64 e]) ∧ (Kd.int .i64).C w' A1 a.length a ∧ a.length ≤ c1 ∧ (Kd.int .i64).C w' A2 b.length b ∧ b.length ≤ c2 ∧ Below W.heap.size W w' := by
  obtain ⟨rfl, rfl, rfl⟩ := hx
  refine (Solve_any A c exL UA uc exU wt WA wn W (h.args hw)).mono ?_
  rintro en w' ⟨v1, v2, rfl, h1, h2, hb⟩
  obtain ⟨A1, c1, rfl, hc1, hC1⟩ := Kd.R_reads h1
  obtain ⟨A2, c2, rfl, hc2, hC2⟩ := Kd.R_reads h2
  exact ⟨A1, c1, A2, c2, rfl, hC1, hc1, hC2, hc2, hb⟩

set_option maxRecDepth 100000 in
set_option maxHeartbeats 2000000 in
theorem sane_any (w : World) (hK : Kinds w) : Calls Tryd.prog 9 #[] w fun e w' => e = .returned (.bool true) ∧ Below w.heap.size w w' := by
  have HK := Lib.hid hK; clear hK
  go_enter Tryd.func9, Tryd.ntmps9
  go_wp2_with fail
  refine (example_any w).mono ?_
  rintro e w1 ⟨A, c, UA, uc, rfl, hc, huc, hC, hUC, hb1⟩
  have HE := Lib.hid (show EX w A c UA uc w1 from ⟨hb1, HK.out.next hb1, hC, hUC⟩)
  have HC := Lib.hid (And.intro hc huc)
  clear hb1 hc huc hC hUC HK
  go_wp2_with fail
  have hl := lit1 w1 [1, 2] (by simp)
  refine (ex_solve (HE.out.next hl.1) ew1 _ _ hl.2 ex1).mono ?_
  rintro e w2 ⟨A1, c1, B1, b1, rfl, h1, hc1, h2, hc2, hb⟩
  have HB := Lib.hid (hl.1.trans (hb.mono hl.1.size)); clear hl hb
  have HE_ := Lib.hid (HE.out.next HB.out); clear HE; have HE := HE_; clear HE_
  clear HB
  have HA1 := Lib.hid (And.intro h1 hc1)
  clear h1 h2 hc1 hc2
  go_wp2_with fail
  have hl := lit1 w2 [1, 2] (by simp)
  refine (ex_solve (HE.out.next hl.1) ew2 _ _ hl.2 ex2).mono ?_
  rintro e w3 ⟨A2, c2, B2, b2, rfl, h1, hc1, h2, hc2, hb⟩
  have HB := Lib.hid (hl.1.trans (hb.mono hl.1.size)); clear hl hb
  have HE_ := Lib.hid (HE.out.next HB.out); clear HE; have HE := HE_; clear HE_
  have H_ := Lib.hid (And.intro (Kd.C_below HA1.out.1 HB.out) HA1.out.2); clear HA1; have HA1 := H_; clear H_
  clear HB
  have HB2 := Lib.hid (And.intro h2 hc2)
  clear h1 h2 hc1 hc2
  go_wp2_with fail
  have hl := lit2 w3 [2] [1, 3] (by simp) (by simp)
  refine (ex_solve (HE.out.next hl.1) ew3 _ _ hl.2 ex3).mono ?_
  rintro e w4 ⟨A3, c3, B3, b3, rfl, h1, hc1, h2, hc2, hb⟩
  have HB := Lib.hid (hl.1.trans (hb.mono hl.1.size)); clear hl hb
  have HE_ := Lib.hid (HE.out.next HB.out); clear HE; have HE := HE_; clear HE_
  have H_ := Lib.hid (And.intro (Kd.C_below HA1.out.1 HB.out) HA1.out.2); clear HA1; have HA1 := H_; clear H_
  have H_ := Lib.hid (And.intro (Kd.C_below HB2.out.1 HB.out) HB2.out.2); clear HB2; have HB2 := H_; clear H_
  clear HB
  have HB3 := Lib.hid (And.intro h2 hc2)
  clear h1 h2 hc1 hc2
  go_wp2_with fail
  have hl := lit1 w4 [4] (by simp)
  refine (ex_solve (HE.out.next hl.1) ew4 _ _ hl.2 ex4).mono ?_
  rintro e w5 ⟨A4, c4, B4, b4, rfl, h1, hc1, h2, hc2, hb⟩
  have HB := Lib.hid (hl.1.trans (hb.mono hl.1.size)); clear hl hb
  have HE_ := Lib.hid (HE.out.next HB.out); clear HE; have HE := HE_; clear HE_
  have H_ := Lib.hid (And.intro (Kd.C_below HA1.out.1 HB.out) HA1.out.2); clear HA1; have HA1 := H_; clear H_
  have H_ := Lib.hid (And.intro (Kd.C_below HB2.out.1 HB.out) HB2.out.2); clear HB2; have HB2 := H_; clear H_
  have H_ := Lib.hid (And.intro (Kd.C_below HB3.out.1 HB.out) HB3.out.2); clear HB3; have HB3 := H_; clear H_
  clear HB
  clear h1 h2 hc1 hc2
  go_wp2_with fail
  have hl : Below w5.heap.size w5 w5 ∧ (Kd.slice 3 (Kd.int .i64)).C w5 none 0 [] := ⟨Below.refl _ _, Kd.C_nil _ _⟩
  refine (ex_solve (HE.out.next hl.1) ew5 _ _ hl.2 ex5).mono ?_
  rintro e w6 ⟨A5, c5, B5, b5, rfl, h1, hc1, h2, hc2, hb⟩
  have HB := Lib.hid (hl.1.trans (hb.mono hl.1.size)); clear hl hb
  have HE_ := Lib.hid (HE.out.next HB.out); clear HE; have HE := HE_; clear HE_
  have H_ := Lib.hid (And.intro (Kd.C_below HA1.out.1 HB.out) HA1.out.2); clear HA1; have HA1 := H_; clear H_
  have H_ := Lib.hid (And.intro (Kd.C_below HB2.out.1 HB.out) HB2.out.2); clear HB2; have HB2 := H_; clear H_
  have H_ := Lib.hid (And.intro (Kd.C_below HB3.out.1 HB.out) HB3.out.2); clear HB3; have HB3 := H_; clear H_
  clear HB
  clear h1 h2 hc1 hc2
  go_wp2_with fail
  have hl := ilit w6 [2] (by simp)
  refine (ints_any A1 c1 [2] _ _ [2] _ (Kd.C_below HA1.out.1 hl.1) HA1.out.2 hl.2 (Nat.le_refl _)).mono ?_
  rintro e w7 ⟨rfl, hb⟩
  have HB := Lib.hid (hl.1.trans (hb.mono hl.1.size)); clear hl hb
  clear HA1
  have HE_ := Lib.hid (HE.out.next HB.out); clear HE; have HE := HE_; clear HE_
  have H_ := Lib.hid (And.intro (Kd.C_below HB2.out.1 HB.out) HB2.out.2); clear HB2; have HB2 := H_; clear H_
  have H_ := Lib.hid (And.intro (Kd.C_below HB3.out.1 HB.out) HB3.out.2); clear HB3; have HB3 := H_; clear H_
  clear HB
  go_wp2_with fail
  have hl := ilit w7 [3, 5] (by simp)
  refine (ints_any B2 b2 [3, 5] _ _ [3, 5] _ (Kd.C_below HB2.out.1 hl.1) HB2.out.2 hl.2 (Nat.le_refl _)).mono ?_
  rintro e w8 ⟨rfl, hb⟩
  have HB := Lib.hid (hl.1.trans (hb.mono hl.1.size)); clear hl hb
  clear HB2
  have HE_ := Lib.hid (HE.out.next HB.out); clear HE; have HE := HE_; clear HE_
  have H_ := Lib.hid (And.intro (Kd.C_below HB3.out.1 HB.out) HB3.out.2); clear HB3; have HB3 := H_; clear H_
  clear HB
  go_wp2_with fail
  have hl := ilit w8 [3, 4] (by simp)
  refine (ints_any B3 b3 [3, 4] _ _ [3, 4] _ (Kd.C_below HB3.out.1 hl.1) HB3.out.2 hl.2 (Nat.le_refl _)).mono ?_
  rintro e w9 ⟨rfl, hb⟩
  have HB := Lib.hid (hl.1.trans (hb.mono hl.1.size)); clear hl hb
  clear HB3
  have HE_ := Lib.hid (HE.out.next HB.out); clear HE; have HE := HE_; clear HE_
  clear HB
  go_wp2_with fail
  have hl := lit2 w9 [2] [1, 3] (by simp) (by simp)
  have hB : Below w9.heap.size w9 (((((w9.alloc (.cells #[.int .i64 2] 3)).alloc (.cells #[.int .i64 1, .int .i64 3] 3)).alloc (.cells #[.slice (some ⟨w9.heap.size, 0, none⟩) 1 1, .slice (some ⟨w9.heap.size + 1, 0, none⟩) 2 2] 23)).alloc (.cells #[.int .i64 0, .int .i64 0, .int .i64 0, .int .i64 1, .slice (some ⟨w9.heap.size + 2, 0, none⟩) 2 2] 29)).alloc (.cells #[.int .i64 2, .int .i64 1] 3)) := (hl.1.alloc (by simp; omega) (.cells #[.int .i64 0, .int .i64 0, .int .i64 0, .int .i64 1, .slice (some ⟨w9.heap.size + 2, 0, none⟩) 2 2] 29)).alloc (by simp; omega) (.cells #[.int .i64 2, .int .i64 1] 3)
  have hN : (Kd.slice 3 (Kd.int .i64)).C (((((w9.alloc (.cells #[.int .i64 2] 3)).alloc (.cells #[.int .i64 1, .int .i64 3] 3)).alloc (.cells #[.slice (some ⟨w9.heap.size, 0, none⟩) 1 1, .slice (some ⟨w9.heap.size + 1, 0, none⟩) 2 2] 23)).alloc (.cells #[.int .i64 0, .int .i64 0, .int .i64 0, .int .i64 1, .slice (some ⟨w9.heap.size + 2, 0, none⟩) 2 2] 29)).alloc (.cells #[.int .i64 2, .int .i64 1] 3)) (some ⟨w9.heap.size + 2, 0, none⟩) 2 [[2], [1, 3]] := Kd.C_alloc (Kd.C_alloc hl.2 _) _
  have hT : (((((w9.alloc (.cells #[.int .i64 2] 3)).alloc (.cells #[.int .i64 1, .int .i64 3] 3)).alloc (.cells #[.slice (some ⟨w9.heap.size, 0, none⟩) 1 1, .slice (some ⟨w9.heap.size + 1, 0, none⟩) 2 2] 23)).alloc (.cells #[.int .i64 0, .int .i64 0, .int .i64 0, .int .i64 1, .slice (some ⟨w9.heap.size + 2, 0, none⟩) 2 2] 29)).alloc (.cells #[.int .i64 2, .int .i64 1] 3)).heap[w9.heap.size + 3]? = some (.cells #[.int .i64 0, .int .i64 0, .int .i64 0, .int .i64 1, .slice (some ⟨w9.heap.size + 2, 0, none⟩) 2 2] 29 (0, 0)) := heap_old (heap_new (by simp))
  have hP : (Kd.int .i64).C (((((w9.alloc (.cells #[.int .i64 2] 3)).alloc (.cells #[.int .i64 1, .int .i64 3] 3)).alloc (.cells #[.slice (some ⟨w9.heap.size, 0, none⟩) 1 1, .slice (some ⟨w9.heap.size + 1, 0, none⟩) 2 2] 23)).alloc (.cells #[.int .i64 0, .int .i64 0, .int .i64 0, .int .i64 1, .slice (some ⟨w9.heap.size + 2, 0, none⟩) 2 2] 29)).alloc (.cells #[.int .i64 2, .int .i64 1] 3)) (some ⟨w9.heap.size + 4, 0, none⟩) 2 [2, 1] := introw (xs := [2, 1]) (by simp) (heap_new (by simp))
  refine (Broken_any A c exL UA uc exU ew3 _ _ _ _ [2, 1] _ ((HE.out.next hB).args hN) hP (Nat.le_refl _)).mono ?_
  rintro e w10 ⟨v, rfl, hR, hb⟩
  rw [ex6.1] at hR
  rw [ex6.2.1]
  obtain ⟨A6, c6, rfl, hc6, hC6⟩ := Kd.R_reads hR
  have HE_ := Lib.hid ((HE.out.next hB).next hb); clear HE; have HE := HE_; clear HE_
  have HN := Lib.hid (And.intro (Kd.C_below hN hb) ((hb.block _ (Array.getElem?_eq_some_iff.1 hT).1).trans hT))
  have HX := Lib.hid (And.intro hC6 hc6)
  clear hl hB hN hT hP hR hb hC6 hc6
  go_wp2_with fail
  simp only [List.append_eq, List.cons_append, List.nil_append]
  refine region_seqP (fun _ => False) [([0, 1, 2, 3, 4, 5, 6], 7), ([], 8), ([9, 10, 11, 12, 13], 14), ([], 15), ([16, 17, 18, 19, 20, 21], 22), ([], 23), ([24, 25, 26, 27, 28], 29), ([], 30), ([31, 32, 33, 34], 35), ([36, 37, 38], 39), ([], 40), ([41, 42, 43, 44], 45), ([46, 47, 48], 49), ([50, 51, 52, 53, 54, 55, 56], 57), ([58, 59, 60, 61], 62)] [63, 64, 65] (by kernel_rfl) (by kernel_rfl) (fun _ _ d _ _ h => by cases d <;> exact h) (fun ⟨_, _, h⟩ => no_out (fun _ h => nomatch h.1) h) ?_
  obtain ⟨wd, hwd⟩ : ∃ wd, wd = { w10 with drawn := w10.drawn + 1 } := ⟨_, rfl⟩
  rw [← hwd]
  have HF := Lib.hid (show Fr (fun _ => False) w10 wd by rw [hwd]; exact (Fr.refl _ _).drew)
  clear hwd
  simp only [seqQ, pick_cons, pick_nil, nthO_succ, nthO_zero]

  have d0 := cell_extB (B := fun _ => False) (show w10.cell? ⟨w9.heap.size + 3, 0, none⟩ = some (.int .i64 0) from cell_of HN.out.2 rfl) (fun h => h)
  have d1 := cell_extB (B := fun _ => False) (show w10.cell? ⟨w9.heap.size + 3, 1, none⟩ = some (.int .i64 0) from cell_of HN.out.2 rfl) (fun h => h)
  have d2 := cell_extB (B := fun _ => False) (show w10.cell? ⟨w9.heap.size + 3, 2, none⟩ = some (.int .i64 0) from cell_of HN.out.2 rfl) (fun h => h)
  have d3 := cell_extB (B := fun _ => False) (show w10.cell? ⟨w9.heap.size + 3, 3, none⟩ = some (.int .i64 1) from cell_of HN.out.2 rfl) (fun h => h)
  have d4 := cell_extB (B := fun _ => False) (show w10.cell? ⟨w9.heap.size + 3, 4, none⟩ = some (.slice (some ⟨w9.heap.size + 2, 0, none⟩) 2 2) from cell_of HN.out.2 rfl) (fun h => h)
  obtain ⟨ad, hAd, x0, x1, x2, x3, x4, x5, x6, x7⟩ := at_T40 HE.out.rl 0 (by decide) (by decide)
  cases hAd
  have y0 := cell_extB (B := fun _ => False) (show w10.cell? ad = some (.int .i64 1) from x0) (fun h => h)
  have y1 := cell_extB (B := fun _ => False) (show w10.cell? ⟨ad.block, ad.off + 1, none⟩ = some (.int .i64 1) from x1) (fun h => h)
  have y2 := cell_extB (B := fun _ => False) (show w10.cell? ⟨ad.block, ad.off + 2, none⟩ = some (.int .i64 255) from x2) (fun h => h)
  have y3 := cell_extB (B := fun _ => False) (show w10.cell? ⟨ad.block, ad.off + 3, none⟩ = some (.int .i64 255) from x3) (fun h => h)
  have y4 := cell_extB (B := fun _ => False) (show w10.cell? ⟨ad.block, ad.off + 4, none⟩ = some (.int .i64 0) from x4) (fun h => h)
  have y5 := cell_extB (B := fun _ => False) (show w10.cell? ⟨ad.block, ad.off + 5, none⟩ = some (.int .i64 50000000) from x5) (fun h => h)
  have y6 := cell_extB (B := fun _ => False) (show w10.cell? ⟨ad.block, ad.off + 6, none⟩ = some (.int .i64 0) from x6) (fun h => h)
  have y7 := cell_extB (B := fun _ => False) (show w10.cell? ⟨ad.block, ad.off + 7, none⟩ = some (.int .i64 0) from x7) (fun h => h)
  clear x0 x1 x2 x3 x4 x5 x6 x7
  have hbX : ∀ W : World, Fr (fun _ => False) w10 W → Below w10.heap.size w10 W := fun _ h => h.below (fun _ _ h => h) (Nat.le_refl _)
  have HBX := Lib.hid hbX; clear hbX
  repeat (go_big_quiet_step (fail))
  refine wpQuiet_nil ?_
  go_wp2_with fail
  have hn1 := heap_new (W := wd) (o := .cells #[.int .i64 3] 3) rfl
  have HF_ := Lib.hid (HF.out.alloc (.cells #[.int .i64 3] 3)); clear HF; have HF := HF_; clear HF_
  generalize wd.alloc (.cells #[.int .i64 3] 3) = v1 at *
  refine ⟨⟨⟨_, HF.out⟩, rfl⟩, ?_⟩
  repeat (go_big_quiet_step (fail))
  refine wpQuiet_nil ?_
  go_wp2_with fail
  have hbW := HBX.out _ HF.out
  refine (ints_any A6 c6 [3] _ _ [3] _ (Kd.C_below HX.out.1 hbW) HX.out.2 (introw (xs := [3]) (by simp) hn1) (Nat.le_refl _)).mono ?_
  rintro e v2 ⟨rfl, hb⟩
  have HF_ := Lib.hid (HF.out.call hb); clear HF; have HF := HF_; clear HF_ hbW hb
  try clear hn1
  go_wp2_with fail
  refine ⟨⟨⟨_, HF.out⟩, rfl⟩, ?_⟩
  repeat (go_big_quiet_step (fail))
  refine wpQuiet_nil ?_
  go_wp2_with fail
  have hn3 := heap_new (W := v2) (o := .cells #[.int .i64 2, .int .i64 3] 3) rfl
  have HF_ := Lib.hid (HF.out.alloc (.cells #[.int .i64 2, .int .i64 3] 3)); clear HF; have HF := HF_; clear HF_
  generalize v2.alloc (.cells #[.int .i64 2, .int .i64 3] 3) = v3 at *
  refine ⟨⟨⟨_, HF.out⟩, rfl⟩, ?_⟩
  repeat (go_big_quiet_step (fail))
  refine wpQuiet_nil ?_
  go_wp2_with fail
  have hbW := HBX.out _ HF.out
  refine (Lawful_any (some ad) c exL UA uc exU ew3 _ _ _ _ [2, 3] _ ((HE.out.next hbW).args (Kd.C_below HN.out.1 hbW)) (introw (xs := [2, 3]) (by simp) hn3) (Nat.le_refl _)).mono ?_
  rintro e v4 ⟨rfl, hb⟩
  rw [ex6.2.2.1]
  have HF_ := Lib.hid (HF.out.call hb); clear HF; have HF := HF_; clear HF_ hbW hb
  try clear hn3
  go_wp2_with fail
  refine ⟨⟨⟨_, HF.out⟩, rfl⟩, ?_⟩
  repeat (go_big_quiet_step (fail))
  refine wpQuiet_nil ?_
  go_wp2_with fail
  have hn5 := heap_new (W := v4) (o := .cells #[.int .i64 3, .int .i64 4] 3) rfl
  have HF_ := Lib.hid (HF.out.alloc (.cells #[.int .i64 3, .int .i64 4] 3)); clear HF; have HF := HF_; clear HF_
  generalize v4.alloc (.cells #[.int .i64 3, .int .i64 4] 3) = v5 at *
  refine ⟨⟨⟨_, HF.out⟩, rfl⟩, ?_⟩
  repeat (go_big_quiet_step (fail))
  refine wpQuiet_nil ?_
  go_wp2_with fail
  have hbW := HBX.out _ HF.out
  refine (Forbids_any (some ad) c exL UA uc exU ew3 _ _ _ _ [3, 4] _ ((HE.out.next hbW).args (Kd.C_below HN.out.1 hbW)) (introw (xs := [3, 4]) (by simp) hn5) (Nat.le_refl _)).mono ?_
  rintro e v6 ⟨rfl, hb⟩
  rw [ex6.2.2.2.1]
  have HF_ := Lib.hid (HF.out.call hb); clear HF; have HF := HF_; clear HF_ hbW hb
  try clear hn5
  go_wp2_with fail
  refine ⟨⟨⟨_, HF.out⟩, rfl⟩, ?_⟩
  repeat (go_big_quiet_step (fail))
  refine wpQuiet_nil ?_
  go_wp2_with fail
  have hn7 := heap_new (W := v6) (o := .cells #[.int .i64 3] 3) rfl
  have HF_ := Lib.hid (HF.out.alloc (.cells #[.int .i64 3] 3)); clear HF; have HF := HF_; clear HF_
  generalize v6.alloc (.cells #[.int .i64 3] 3) = v7 at *
  refine ⟨⟨⟨_, HF.out⟩, rfl⟩, ?_⟩
  repeat (go_big_quiet_step (fail))
  refine wpQuiet_nil ?_
  go_wp2_with fail
  have hbW := HBX.out _ HF.out
  refine (Forbids_any (some ad) c exL UA uc exU ew3 _ _ _ _ [3] _ ((HE.out.next hbW).args (Kd.C_below HN.out.1 hbW)) (introw (xs := [3]) (by simp) hn7) (Nat.le_refl _)).mono ?_
  rintro e v8 ⟨rfl, hb⟩
  rw [ex6.2.2.2.2]
  have HF_ := Lib.hid (HF.out.call hb); clear HF; have HF := HF_; clear HF_ hbW hb
  try clear hn7
  go_wp2_with fail
  refine ⟨⟨⟨_, HF.out⟩, rfl⟩, ?_⟩
  repeat (go_big_quiet_step (fail))
  refine wpQuiet_nil ?_
  go_wp2_with fail
  have hbW := HBX.out _ HF.out
  refine (validL_any (some ad) c exL _ (HE.out.next hbW).rl (HE.out.next hbW).kinds).mono ?_
  rintro e v9 ⟨rfl, hb⟩
  rw [ex7.1]
  have HF_ := Lib.hid (HF.out.call hb); clear HF; have HF := HF_; clear HF_ hbW hb
  try clear hn8
  go_wp2_with fail
  refine ⟨⟨⟨_, HF.out⟩, rfl⟩, ?_⟩
  repeat (go_big_quiet_step (fail))
  refine wpQuiet_nil ?_
  go_wp2_with fail
  have hn10 := heap_new (W := v9) (o := .cells #[.int .i64 0, .int .i64 0, .int .i64 0, .int .i64 0, .int .i64 0, .int .i64 0, .int .i64 0, .int .i64 0] 40) rfl
  have HF_ := Lib.hid (HF.out.alloc (.cells #[.int .i64 0, .int .i64 0, .int .i64 0, .int .i64 0, .int .i64 0, .int .i64 0, .int .i64 0, .int .i64 0] 40)); clear HF; have HF := HF_; clear HF_
  generalize v9.alloc (.cells #[.int .i64 0, .int .i64 0, .int .i64 0, .int .i64 0, .int .i64 0, .int .i64 0, .int .i64 0, .int .i64 0] 40) = v10 at *
  refine ⟨⟨⟨_, HF.out⟩, rfl⟩, ?_⟩
  repeat (go_big_quiet_step (fail))
  refine wpQuiet_nil ?_
  go_wp2_with fail
  have hbW := HBX.out _ HF.out
  refine (validL_any _ _ [ec0] _ (clrow1 hn10) (HE.out.next hbW).kinds).mono ?_
  rintro e v11 ⟨rfl, hb⟩
  rw [ex7.2.1]
  have HF_ := Lib.hid (HF.out.call hb); clear HF; have HF := HF_; clear HF_ hbW hb
  try clear hn10
  go_wp2_with fail
  refine ⟨⟨⟨_, HF.out⟩, rfl⟩, ?_⟩
  repeat (go_big_quiet_step (fail))
  refine wpQuiet_nil ?_
  go_wp2_with fail
  have hbW := HBX.out _ HF.out
  refine (vWant_any ew3 _ _ _ (Kd.C_below HN.out.1 hbW)).mono ?_
  rintro e v12 ⟨rfl, hb⟩
  rw [ex7.2.2.1]
  have HF_ := Lib.hid (HF.out.call hb); clear HF; have HF := HF_; clear HF_ hbW hb
  try clear hn11
  go_wp2_with fail
  refine ⟨⟨⟨_, HF.out⟩, rfl⟩, ?_⟩
  repeat (go_big_quiet_step (fail))
  refine wpQuiet_nil ?_
  go_wp2_with fail
  have hbW := HBX.out _ HF.out
  refine (vWant_any ew5 none 0 _ (Kd.C_nil _ _)).mono ?_
  rintro e v13 ⟨rfl, hb⟩
  rw [ex7.2.2.2.1]
  have HF_ := Lib.hid (HF.out.call hb); clear HF; have HF := HF_; clear HF_ hbW hb
  try clear hn12
  go_wp2_with fail
  refine ⟨⟨⟨_, HF.out⟩, rfl⟩, ?_⟩
  have hl6 : 0 < exL.length := by decide
  repeat (go_big_quiet_step (fail))
  refine wpQuiet_nil ?_
  go_wp2_with fail
  have hbW := HBX.out _ HF.out
  refine (applies_any ⟨1, 1, 255, 255, 0, 50000000, 0, 0⟩ ew3 _ _ _ (HE.out.next hbW).kinds (Kd.C_below HN.out.1 hbW)).mono ?_
  rintro e v14 ⟨rfl, hb⟩
  rw [ex7.2.2.2.2.1]
  have HF_ := Lib.hid (HF.out.call hb); clear HF; have HF := HF_; clear HF_ hbW hb
  try clear hn13
  go_wp2_with fail
  refine ⟨⟨⟨_, HF.out⟩, rfl⟩, ?_⟩
  repeat (go_big_quiet_step (fail))
  refine wpQuiet_nil ?_
  go_wp2_with fail
  have hbW := HBX.out _ HF.out
  refine (applies_any ec0 ew3 _ _ _ (HE.out.next hbW).kinds (Kd.C_below HN.out.1 hbW)).mono ?_
  rintro e v15 ⟨rfl, hb⟩
  rw [ex7.2.2.2.2.2]
  have HF_ := Lib.hid (HF.out.call hb); clear HF; have HF := HF_; clear HF_ hbW hb
  try clear hn14
  go_wp2_with fail
  refine ⟨⟨⟨_, HF.out⟩, rfl⟩, ?_⟩
  repeat (go_big_quiet_step (fail))
  refine wpQuiet_nil ?_
  go_wp2_with fail
  go_ret
  exact ⟨rfl, (HE.out.next (HBX.out _ HF.out)).below⟩
end Go.Proofs.YtnabgijdbcdpmaaDoor

namespace Go.Proofs.YtnabgijdbcdpmaaDoor
open Go.RowKit Go.Rg Go.Proofs.YtnabgijdbcdpmaaDoor.PRightsMatchesReference Go.Proofs.YtnabgijdbcdpmaaDoorW.PrintWords
set_option linter.unusedVariables false
set_option linter.unusedSimpArgs false

/-- In range of Go's int. -/
def rng (a : Int) : Prop := -9223372036854775808 ≤ a ∧ a ≤ 9223372036854775807
/-- A need under way: numbers below j, ascending, no more than four. -/
def needTo (n : List Int) (j : Int) : Prop := rising n = true ∧ (∀ x ∈ n, 0 ≤ x ∧ x < j) ∧ n.length ≤ 4
theorem rising_snoc : ∀ (n : List Int) (j : Int), rising n = true → (∀ x ∈ n, x < j) → rising (n ++ [j]) = true
  | [], _, _, _ => rfl
  | [a], j, _, h => by simp [rising]; exact h a List.mem_cons_self
  | a :: b :: r, j, h, hj => by
    simp only [rising, Bool.and_eq_true, decide_eq_true_eq] at h
    have := rising_snoc (b :: r) j h.2 (fun x hx => hj x (List.mem_cons_of_mem _ hx))
    simp only [List.cons_append, rising, Bool.and_eq_true, decide_eq_true_eq]
    exact ⟨h.1, this⟩
theorem needTo.snoc {n : List Int} {j : Int} (h : needTo n j) (h0 : 0 ≤ j) (hl : n.length < 4) : needTo (n ++ [j]) (j + 1) := by
  refine ⟨rising_snoc n j h.1 (fun x hx => (h.2.1 x hx).2), fun x hx => ?_, by simp; omega⟩
  rw [List.mem_append] at hx
  rcases hx with hx | hx
  · have := h.2.1 x hx; omega
  · rw [List.mem_singleton.1 hx]; omega
theorem needTo.next {n : List Int} {j : Int} (h : needTo n j) : needTo n (j + 1) := ⟨h.1, fun x hx => by have := h.2.1 x hx; omega, h.2.2⟩
theorem needTo.ok {n : List Int} (h : needTo n 6) (h0 : n ≠ []) : needOk n = true := by
  have hp : 0 < n.length := List.length_pos_iff.2 h0
  have h4 := h.2.2
  unfold needOk
  simp only [Bool.and_eq_true, inR, decide_eq_true_eq]
  refine ⟨by omega, h.1, List.all_eq_true.2 fun x hx => ?_⟩
  have := h.2.1 x hx
  simp only [isWk, inR, Bool.and_eq_true, decide_eq_true_eq]
  omega

end Go.Proofs.YtnabgijdbcdpmaaDoor

namespace Go.Proofs.YtnabgijdbcdpmaaDoor
open Go.RowKit Go.Rg Go.Proofs.YtnabgijdbcdpmaaDoor.PRightsMatchesReference Go.Proofs.YtnabgijdbcdpmaaDoorW.PrintWords
set_option linter.unusedVariables false
set_option linter.unusedSimpArgs false

theorem hasI_take_succ {xs : List Int} {k : Nat} {n : Int} (h : k < xs.length) (h1 : hasI (xs.take k) n = false) (h2 : (xs[k] == n) = false) : hasI (xs.take (k + 1)) n = false := by
  unfold hasI at *
  rw [Bool.eq_false_iff] at h1 ⊢
  intro hc
  rw [List.contains_iff_mem, List.take_succ_eq_append_getElem h, List.mem_append] at hc
  rcases hc with hc | hc
  · exact h1 (List.contains_iff_mem.2 hc)
  · rw [List.mem_singleton.1 hc] at h2
    simp at h2
theorem hasI_at {xs : List Int} {k : Nat} {n : Int} (h : k < xs.length) (h2 : (xs[k] == n) = true) : hasI xs n = true := by
  unfold hasI
  rw [List.contains_iff_mem, ← eq_of_beq h2]
  exact List.getElem_mem h

set_option maxRecDepth 10000 in
theorem has_any (A : Option Addr) (c : Nat) (xs : List Int) (n : Int) (w : World) (hr : (Kd.int .i64).C w A xs.length xs) :
    Calls Tryd.prog 31 #[.slice A xs.length c, .int .i64 n] w fun e w' => e = .returned (.bool (hasI xs n)) ∧ Below w.heap.size w w' := by
  have hm := max_len hr
  have HR0 := Lib.hid hr; clear hr
  go_enter Tryd.func31, Tryd.ntmps31
  go_wp2
  go_loopw [5] (fun i wr => ∃ k : Nat, k ≤ xs.length ∧ Hid (hasI (xs.take k) n = false) ∧ i = .int .i64 k ∧ Hid (Below w.heap.size w wr)) (fun i wr => xs.length - (intOf i).toNat)
  case atStart => exact ⟨0, Nat.zero_le _, Lib.hid (by simp [hasI]), rfl, Lib.hid (Below.refl _ _)⟩
  case round =>
    obtain ⟨k, hk, HA, rfl, HB⟩ := hrel
    by_cases hlt : k < xs.length
    · have hltI : (k : Int) < (xs.length : Int) := by omega
      have HR := Kd.C_below HR0.out HB.out
      obtain ⟨ad, e, hx⟩ := Kd.at_int HR (k : Int) (by omega) hltI
      cases e
      simp only [Int.toNat_natCast] at hx
      rw [rd_get hlt] at hx
      clear HR
      cases hq : (xs[k] == n) with
      | true =>
        have HQ := Lib.hid (hasI_at hlt hq)
        go_wp2_with fail
        go_ret
        exact ⟨by rw [HQ.out]; rfl, HB.out⟩
      | false =>
        have HQ := Lib.hid (hasI_take_succ hlt HA.out hq)
        go_wp2_with fail
        go_roundw
        case rel => exact ⟨k + 1, by omega, HQ, by go_num, HB⟩
        case measure => simp [intOf]; omega
    · obtain rfl : k = xs.length := by omega
      have HQ := Lib.hid (show hasI xs n = false by have := HA.out; rwa [List.take_length] at this)
      go_wp2
      go_ret
      exact ⟨by rw [HQ.out]; rfl, HB.out⟩

/-- Does a list come before another, number by number? -/
def bef : List Int → List Int → Bool
  | a :: r, b :: s => if a ≠ b then decide (a < b) else bef r s
  | [], [] => false
  | [], _ :: _ => true
  | _ :: _, [] => false
theorem bef_skip : ∀ (k : Nat) (a b : List Int), k ≤ a.length → k ≤ b.length → (∀ j (h : j < a.length) (h' : j < b.length), j < k → a[j] = b[j]) → bef a b = bef (a.drop k) (b.drop k)
  | 0, _, _, _, _, _ => by simp
  | k + 1, [], _, h, _, _ => by simp at h
  | k + 1, _ :: _, [], _, h, _ => by simp at h
  | k + 1, x :: a, y :: b, h, h', hj => by
    have e : x = y := hj 0 (by simp) (by simp) (by omega)
    have ih := bef_skip k a b (by simpa using h) (by simpa using h') (fun j h1 h2 hk => by have := hj (j + 1) (by simpa using h1) (by simpa using h2) (by omega); simpa using this)
    simp only [bef, e, List.drop_succ_cons, ne_eq, not_true_eq_false, if_false]
    exact ih
theorem bef_end (a b : List Int) (h : a.length ≤ b.length ∨ b.length ≤ a.length) (hj : ∀ j (h : j < a.length) (h' : j < b.length), a[j] = b[j]) : bef a b = decide (a.length < b.length) := by
  induction a generalizing b with
  | nil => cases b <;> simp [bef]
  | cons x a ih =>
    cases b with
    | nil => simp [bef]
    | cons y b =>
      have e : x = y := hj 0 (by simp) (by simp)
      have := ih b (by omega) (fun j h1 h2 => by have := hj (j + 1) (by simpa using h1) (by simpa using h2); simpa using this)
      simp only [bef, e, ne_eq, not_true_eq_false, if_false, this, List.length_cons]
      simp


set_option maxRecDepth 10000 in
theorem before_any (A : Option Addr) (c : Nat) (xs : List Int) (B : Option Addr) (d : Nat) (ys : List Int) (w : World) (hr : (Kd.int .i64).C w A xs.length xs) (hs : (Kd.int .i64).C w B ys.length ys) :
    Calls Tryd.prog 32 #[.slice A xs.length c, .slice B ys.length d] w fun e w' => e = .returned (.bool (bef xs ys)) ∧ Below w.heap.size w w' := by
  have hm := max_len hr
  have hm2 := max_len hs
  have HR0 := Lib.hid (And.intro hr hs); clear hr hs
  go_enter Tryd.func32, Tryd.ntmps32
  go_wp2
  go_loopw [5] (fun i wr => ∃ k : Nat, k ≤ xs.length ∧ k ≤ ys.length ∧ Hid (∀ j (h : j < xs.length) (h' : j < ys.length), j < k → xs[j] = ys[j]) ∧ i = .int .i64 k ∧ Hid (Below w.heap.size w wr)) (fun i wr => xs.length - (intOf i).toNat)
  case atStart => exact ⟨0, Nat.zero_le _, Nat.zero_le _, Lib.hid (fun j _ _ h => absurd h (Nat.not_lt_zero _)), rfl, Lib.hid (Below.refl _ _)⟩
  case round =>
    obtain ⟨k, hk, hk2, HA, rfl, HB⟩ := hrel
    by_cases hlt : k < xs.length ∧ k < ys.length
    · obtain ⟨h1, h2⟩ := hlt
      have hltI : (k : Int) < (xs.length : Int) := by omega
      have hltJ : (k : Int) < (ys.length : Int) := by omega
      obtain ⟨ad, e, hx⟩ := Kd.at_int (Kd.C_below HR0.out.1 HB.out) (k : Int) (by omega) hltI
      cases e
      obtain ⟨bd, e, hy⟩ := Kd.at_int (Kd.C_below HR0.out.2 HB.out) (k : Int) (by omega) hltJ
      cases e
      simp only [Int.toNat_natCast] at hx hy
      rw [rd_get h1] at hx
      rw [rd_get h2] at hy
      have ex := cell_ext hx
      have ey := cell_ext hy
      clear hx hy
      have hsk := bef_skip k xs ys hk hk2 HA.out
      rw [List.drop_eq_getElem_cons h1, List.drop_eq_getElem_cons h2] at hsk
      have HSK := Lib.hid hsk; clear hsk
      have HEQ : Hid (xs[k] = ys[k] → ∀ j (h : j < xs.length) (h' : j < ys.length), j < k + 1 → xs[j] = ys[j]) := Lib.hid (fun he j h h' hj => by
        by_cases hjk : j = k
        · subst hjk; exact he
        · exact HA.out j h h' (by omega))
      generalize xs[k] = x at *
      generalize ys[k] = y at *
      by_cases hxy : x = y
      · have HXY := Lib.hid (HEQ.out hxy)
        subst hxy
        go_wp2_with fail
        refine region_ext (by kernel_rfl) (by kernel_rfl) ?_
        repeat (go_big_quiet_step (fail))
        refine wpQuiet_nil ?_
        rintro W' ⟨X, rfl⟩
        go_wp2_with fail
        go_roundw
        case rel => exact ⟨k + 1, by omega, by omega, HXY, by go_num, Lib.hid (HB.out.trans (X.2.below (fun _ _ h => h) HB.out.size))⟩
        case measure => simp [intOf]; omega
      · have HXY := Lib.hid (show bef xs ys = decide (x < y) by rw [HSK.out]; simp [bef, hxy])
        have hne : (x == y) = false := by simp [hxy]
        have hne2 : decide (x = y) = false := by simp [hxy]
        go_wp2_with fail
        refine region_ext (by kernel_rfl) (by kernel_rfl) ?_
        repeat (go_big_quiet_step (fail))
        refine wpQuiet_nil ?_
        rintro W' ⟨X, rfl⟩
        have fx := cell_ext (ex X)
        have fy := cell_ext (ey X)
        go_wp2_with fail
        refine region_ext (by kernel_rfl) (by kernel_rfl) ?_
        repeat (go_big_quiet_step (fail))
        refine wpQuiet_nil ?_
        rintro W' ⟨Y, rfl⟩
        go_wp2_with fail
        go_ret
        exact ⟨by rw [HXY.out]; rfl, (HB.out.trans (X.2.below (fun _ _ h => h) HB.out.size)).trans (Y.2.below (fun _ _ h => h) (Nat.le_trans HB.out.size X.2.size))⟩
    · have HF := Lib.hid (bef_end xs ys (by omega) (fun j h h' => HA.out j h h' (by omega)))
      by_cases h1 : (k : Int) < (xs.length : Int)
      · have h2 : ¬ ((k : Int) < (ys.length : Int)) := by omega
        go_wp2_with fail
        go_ret
        exact ⟨by rw [HF.out]; rfl, HB.out⟩
      · go_wp2_with fail
        go_ret
        exact ⟨by rw [HF.out]; rfl, HB.out⟩
end Go.Proofs.YtnabgijdbcdpmaaDoor

namespace Go.Proofs.YtnabgijdbcdpmaaDoor
open Go.RowKit Go.Rg Go.Proofs.YtnabgijdbcdpmaaDoor.PRightsMatchesReference Go.Proofs.YtnabgijdbcdpmaaDoorW.PrintWords
set_option linter.unusedVariables false
set_option linter.unusedSimpArgs false
/-- Is t, behind acc, a choice of works? -/
def isPk (off : Int → Bool) : List (List Int) → List Int → List Int → Bool
  | [], _, [] => true
  | n :: ns, acc, k :: t => hasI n k && (!hasI acc k && (off k && isPk off ns (acc ++ [k]) t))
  | [], _, _ :: _ => false
  | _ :: _, _, [] => false
theorem mem_pkgs (off : Int → Bool) : ∀ (ns : List (List Int)) (acc x : List Int), x ∈ pkgs off ns acc ↔ ∃ t, x = acc ++ t ∧ isPk off ns acc t = true
  | [], acc, x => by
    simp only [pkgs, List.mem_singleton]
    constructor
    · rintro rfl; exact ⟨[], by simp, rfl⟩
    · rintro ⟨t, rfl, h⟩
      cases t with
      | nil => simp
      | cons => simp [isPk] at h
  | n :: ns, acc, x => by
    simp only [pkgs, List.mem_flatMap]
    constructor
    · rintro ⟨k, hk, hx⟩
      split at hx
      · rename_i hc
        obtain ⟨t, rfl, ht⟩ := (mem_pkgs off ns _ x).1 hx
        refine ⟨k :: t, by simp, ?_⟩
        simp only [Bool.and_eq_true, Bool.not_eq_true'] at hc
        simp [isPk, hasI, hk, hc.2, ht]
        simpa [hasI] using hc.1
      · cases hx
    · rintro ⟨t, rfl, h⟩
      cases t with
      | nil => simp [isPk] at h
      | cons k t =>
        simp only [isPk, Bool.and_eq_true, Bool.not_eq_true'] at h
        refine ⟨k, by simpa [hasI] using h.1, ?_⟩
        rw [if_pos (by simp [h.2.1, h.2.2.1])]
        exact (mem_pkgs off ns _ _).2 ⟨t, by simp, h.2.2.2⟩
theorem mem_packs (l : List Cl) (w : Wt) (x : List Int) : x ∈ packs l w ↔ isPk (offered l w) w.needs [] x = true := by
  unfold packs
  rw [mem_pkgs]
  simp
theorem isPk_len {off : Int → Bool} : ∀ {ns : List (List Int)} {acc t : List Int}, isPk off ns acc t = true → t.length = ns.length
  | [], _, [], _ => rfl
  | [], _, _ :: _, h => by simp [isPk] at h
  | _ :: _, _, [], h => by simp [isPk] at h
  | n :: ns, acc, k :: t, h => by
    simp only [isPk, Bool.and_eq_true] at h
    simp [isPk_len h.2.2.2]
theorem isPk_mem {off : Int → Bool} : ∀ {ns : List (List Int)} {acc t : List Int}, isPk off ns acc t = true → ∀ x ∈ t, x ∉ acc ∧ off x = true
  | [], _, [], _, x, hx => by cases hx
  | [], _, _ :: _, h, _, _ => by simp [isPk] at h
  | _ :: _, _, [], h, _, _ => by simp [isPk] at h
  | n :: ns, acc, k :: t, h, x, hx => by
    simp only [isPk, Bool.and_eq_true, Bool.not_eq_true'] at h
    rcases List.mem_cons.1 hx with rfl | hx
    · exact ⟨by simpa [hasI] using h.2.1, h.2.2.1⟩
    · have := isPk_mem h.2.2.2 x hx
      exact ⟨fun hc => this.1 (List.mem_append_left _ hc), this.2⟩
theorem isPk_nodup {off : Int → Bool} : ∀ {ns : List (List Int)} {acc t : List Int}, isPk off ns acc t = true → t.Nodup
  | [], _, [], _ => List.nodup_nil
  | [], _, _ :: _, h => by simp [isPk] at h
  | _ :: _, _, [], h => by simp [isPk] at h
  | n :: ns, acc, k :: t, h => by
    simp only [isPk, Bool.and_eq_true, Bool.not_eq_true'] at h
    refine List.nodup_cons.2 ⟨fun hk => ?_, isPk_nodup h.2.2.2⟩
    exact (isPk_mem h.2.2.2 k hk).1 (by simp)
/-- Fewer works to choose from. -/
theorem isPk_sub {off off' : Int → Bool} (ho : ∀ k, off k = true → off' k = true) : ∀ {ns ms : List (List Int)} {acc t : List Int}, ns.length = ms.length → (∀ i (h : i < ns.length) (h' : i < ms.length), ∀ k ∈ ns[i], k ∈ ms[i]) → isPk off ns acc t = true → isPk off' ms acc t = true
  | [], [], _, [], _, _, _ => rfl
  | [], [], _, _ :: _, _, _, h => by simp [isPk] at h
  | [], _ :: _, _, _, h, _, _ => by simp at h
  | _ :: _, [], _, _, h, _, _ => by simp at h
  | n :: ns, m :: ms, acc, [], hl, hs, h => by simp [isPk] at h
  | n :: ns, m :: ms, acc, k :: t, hl, hs, h => by
    simp only [isPk, Bool.and_eq_true] at h ⊢
    refine ⟨?_, h.2.1, ho k h.2.2.1, isPk_sub ho (by simpa using hl) (fun i h1 h2 => ?_) h.2.2.2⟩
    · have := hs 0 (by simp) (by simp) k (by simpa [hasI] using h.1)
      simpa [hasI] using this
    · have := hs (i + 1) (by simpa using h1) (by simpa using h2)
      simpa using this

/-! Order -/
theorem bef_irr : ∀ a, bef a a = false
  | [] => rfl
  | a :: r => by simp [bef, bef_irr r]
theorem bef_asymm : ∀ a b, bef a b = true → bef b a = false
  | [], [], h => by simp [bef] at h
  | [], _ :: _, _ => rfl
  | _ :: _, [], h => by simp [bef] at h
  | a :: r, b :: s, h => by
    simp only [bef] at h ⊢
    by_cases e : a = b
    · subst e
      simp only [ne_eq, not_true_eq_false, if_false] at h ⊢
      exact bef_asymm r s h
    · rw [if_pos e] at h
      rw [if_pos (fun h' => e h'.symm)]
      simp only [decide_eq_true_eq] at h
      simp; omega
theorem bef_app : ∀ (a b c : List Int), bef (a ++ b) (a ++ c) = bef b c
  | [], _, _ => rfl
  | x :: a, b, c => by simp [bef, bef_app a b c]
theorem rising_cons {a : Int} {r : List Int} (h : rising (a :: r) = true) : rising r = true ∧ ∀ x ∈ r, a < x := by
  induction r generalizing a with
  | nil => exact ⟨rfl, fun x hx => by cases hx⟩
  | cons b r ih =>
    simp only [rising, Bool.and_eq_true, decide_eq_true_eq] at h
    refine ⟨h.2, fun x hx => ?_⟩
    rcases List.mem_cons.1 hx with rfl | hx
    · exact h.1
    · have := (ih h.2).2 x hx; omega
theorem pairwise_flatMap {α β : Type} {R : β → β → Prop} (f : α → List β) : ∀ (n : List α), (∀ k ∈ n, (f k).Pairwise R) → n.Pairwise (fun k k' => ∀ x ∈ f k, ∀ y ∈ f k', R x y) → (n.flatMap f).Pairwise R
  | [], _, _ => List.Pairwise.nil
  | k :: n, h, hp => by
    rw [List.flatMap_cons, List.pairwise_append]
    rw [List.pairwise_cons] at hp
    refine ⟨h k List.mem_cons_self, pairwise_flatMap f n (fun k hk => h k (List.mem_cons_of_mem _ hk)) hp.2, fun x hx y hy => ?_⟩
    obtain ⟨k', hk', hy⟩ := List.mem_flatMap.1 hy
    exact hp.1 k' hk' x hx y hy
theorem rising_pw : ∀ (n : List Int), rising n = true → n.Pairwise (· < ·)
  | [], _ => List.Pairwise.nil
  | a :: r, h => List.pairwise_cons.2 ⟨(rising_cons h).2, rising_pw r (rising_cons h).1⟩
theorem pkgs_sorted (off : Int → Bool) : ∀ (ns : List (List Int)) (acc : List Int), (∀ n ∈ ns, rising n = true) → (pkgs off ns acc).Pairwise (fun x y => bef x y = true)
  | [], acc, _ => by simp [pkgs]
  | n :: ns, acc, h => by
    refine pairwise_flatMap _ n (fun k hk => ?_) ?_
    · split
      · exact pkgs_sorted off ns _ (fun m hm => h m (List.mem_cons_of_mem _ hm))
      · exact List.Pairwise.nil
    · refine (rising_pw n (h n List.mem_cons_self)).imp (fun {k k'} hlt x hx y hy => ?_)
      split at hx
      · split at hy
        · obtain ⟨t, rfl, _⟩ := (mem_pkgs off ns _ x).1 hx
          obtain ⟨s, rfl, _⟩ := (mem_pkgs off ns _ y).1 hy
          rw [List.append_assoc, List.append_assoc, bef_app]
          have hne : k ≠ k' := by omega
          simp [bef, hne, hlt]
        · cases hy
      · cases hx
theorem needs_rising {wt : Wt} (h : vldW wt = true) : ∀ n ∈ wt.needs, rising n = true := by
  intro n hn
  simp only [vldW, Bool.and_eq_true] at h
  have := List.all_eq_true.1 h.2.2.2.2.2 n hn
  simp only [needOk, Bool.and_eq_true] at this
  exact this.2.1

/-! What is lawful -/
theorem brk_zero {l : List Cl} {u : List Int} {wt : Wt} {p : List Int} : brk l u wt p = 0 ↔ ∀ c ∈ l, forb u wt p c = false := by
  unfold brk
  induction l with
  | nil => simp [bits]
  | cons c l ih =>
    simp only [List.map_cons, bits, List.mem_cons, forall_eq_or_imp]
    rw [← ih]
    cases forb u wt p c <;> simp <;> omega
theorem brk_lt (l : List Cl) (u : List Int) (wt : Wt) (p : List Int) : brk l u wt p < 2 ^ l.length := by
  have := bits_lt (l.map (forb u wt p))
  rwa [List.length_map] at this
theorem idxs_nil {m : Nat} (h : m < 2 ^ 12) : idxs m = [] ↔ m = 0 := by
  unfold idxs
  rw [List.map_eq_nil_iff, List.filter_eq_nil_iff]
  constructor
  · intro hh
    apply Nat.eq_of_testBit_eq
    intro i
    rw [Nat.zero_testBit]
    by_cases hi : i < 12
    · have := hh i (List.mem_range.2 hi)
      simpa using this
    · exact Nat.testBit_lt_two_pow (Nat.lt_of_lt_of_le h (Nat.pow_le_pow_right (by decide) (by omega)))
  · rintro rfl; simp
theorem lawB_iff {l : List Cl} {u : List Int} {wt : Wt} {p : List Int} : lawB l u wt p = true ↔ givenB l u wt = true ∧ p ∈ packs l wt ∧ ∀ c ∈ l, forb u wt p c = false := by
  unfold lawB brokenE brokenL brokenOk
  simp only [Bool.and_eq_true, decide_eq_true_eq]
  by_cases hg : givenB l u wt = true
  · by_cases hp : p ∈ packs l wt
    · simp only [hg, hp, and_self, if_true, true_and]
      have hb : brk l u wt p < 2 ^ 12 := Nat.lt_of_lt_of_le (brk_lt l u wt p) (Nat.pow_le_pow_right (by decide) (given_of hg).1)
      rw [← brk_zero, ← idxs_nil hb, ← List.length_eq_zero_iff]
      omega
    · simp [hp]
  · simp [hg]
theorem packs_ne {l : List Cl} {u : List Int} {wt : Wt} (hg : givenB l u wt = true) {x : List Int} (hx : x ∈ packs l wt) : x ≠ [] := by
  rintro rfl
  have := isPk_len ((mem_packs l wt []).1 hx)
  have := (given_of hg).2.2.2.1
  simp at *
  omega
theorem solve1_spec {l : List Cl} {u : List Int} {wt : Wt} (hg : givenB l u wt = true) : (solve1 l u wt = [] ∧ solvP l u wt = none ∧ ∀ x, lawB l u wt x = false) ∨ (solve1 l u wt ≠ [] ∧ solvP l u wt = some (solve1 l u wt) ∧ lawB l u wt (solve1 l u wt) = true ∧ ∀ x, lawB l u wt x = true → bef x (solve1 l u wt) = false) := by
  unfold solve1
  rw [if_pos hg]
  cases h : solvP l u wt with
  | none =>
    refine .inl ⟨rfl, rfl, fun x => ?_⟩
    rw [Bool.eq_false_iff]
    intro hx
    obtain ⟨_, h1, h2⟩ := lawB_iff.1 hx
    unfold solvP at h
    rw [List.find?_eq_none] at h
    have := h x h1
    simp at this
    exact this (brk_zero.2 h2)
  | some p =>
    unfold solvP at h
    rw [List.find?_eq_some_iff_append] at h
    obtain ⟨hb, us, vs, e, hn⟩ := h
    have hp : p ∈ packs l wt := by rw [e]; simp
    simp only [decide_eq_true_eq] at hb
    refine .inr ⟨packs_ne hg hp, rfl, lawB_iff.2 ⟨hg, hp, brk_zero.1 hb⟩, fun x hx => ?_⟩
    obtain ⟨_, h1, h2⟩ := lawB_iff.1 hx
    have hs := pkgs_sorted (offered l wt) wt.needs [] (needs_rising (by simp only [givenB, Bool.and_eq_true] at hg; exact hg.2.2.2))
    change (packs l wt).Pairwise _ at hs
    rw [e] at hs h1
    rw [List.pairwise_append, List.pairwise_cons] at hs
    rcases List.mem_append.1 h1 with h1 | h1
    · have := hn x h1
      simp at this
      exact absurd (brk_zero.2 h2) this
    · rcases List.mem_cons.1 h1 with rfl | h1
      · exact bef_irr _
      · exact bef_asymm _ _ (hs.2.1.1 x h1)
end Go.Proofs.YtnabgijdbcdpmaaDoor

namespace Go.Proofs.YtnabgijdbcdpmaaDoor
open Go.RowKit Go.Rg Go.Proofs.YtnabgijdbcdpmaaDoor.PRightsMatchesReference Go.Proofs.YtnabgijdbcdpmaaDoorW.PrintWords
set_option linter.unusedVariables false
set_option linter.unusedSimpArgs false
theorem bits_testBit : ∀ (bs : List Bool) (i : Nat), (bits bs).testBit i = bs.getD i false
  | [], i => by simp [bits]
  | b :: r, 0 => by
    simp only [bits, Nat.testBit_zero, List.getD_cons_zero]
    cases b <;> simp <;> omega
  | b :: r, i + 1 => by
    rw [Nat.testBit_succ, List.getD_cons_succ, ← bits_testBit r i]
    congr 1
    simp only [bits]
    cases b <;> simp <;> omega
theorem brk_testBit (l : List Cl) (u : List Int) (wt : Wt) (p : List Int) (i : Nat) : (brk l u wt p).testBit i = true ↔ ∃ c, l[i]? = some c ∧ forb u wt p c = true := by
  unfold brk
  rw [bits_testBit, List.getD_eq_getElem?_getD, List.getElem?_map]
  cases h : l[i]? <;> simp
theorem and_ne (a b : Nat) : a &&& b ≠ 0 ↔ ∃ i, a.testBit i = true ∧ b.testBit i = true := by
  constructor
  · intro h
    obtain ⟨i, hi⟩ := Nat.exists_testBit_of_ne_zero h
    rw [Nat.testBit_and, Bool.and_eq_true] at hi
    exact ⟨i, hi⟩
  · rintro ⟨i, h1, h2⟩ h
    have : (a &&& b).testBit i = true := by rw [Nat.testBit_and, h1, h2]; rfl
    rw [h] at this
    simp at this
theorem mask_foldl_testBit (i : Nat) : ∀ (p : List Int) (m : Nat), (∀ x ∈ p, 0 ≤ x) → ((p.foldl (fun m i => m ||| 2 ^ i.toNat) m).testBit i = true ↔ m.testBit i = true ∨ (i : Int) ∈ p)
  | [], m, _ => by simp
  | x :: p, m, h => by
    rw [List.foldl_cons, mask_foldl_testBit i p _ (fun y hy => h y (List.mem_cons_of_mem _ hy))]
    have hx := h x List.mem_cons_self
    rw [Nat.testBit_or, Nat.testBit_two_pow, List.mem_cons]
    simp only [Bool.or_eq_true, decide_eq_true_eq]
    have : x.toNat = i ↔ (i : Int) = x := by omega
    rw [this]
    simp only [or_assoc]
theorem maskOf_testBit {p : List Int} (h : ∀ x ∈ p, 0 ≤ x) (i : Nat) : (maskOf p).testBit i = true ↔ (i : Int) ∈ p := by
  unfold maskOf
  rw [mask_foldl_testBit i p 0 h]
  simp
theorem mem_idxs {m : Nat} {x : Int} : x ∈ idxs m ↔ ∃ i : Nat, x = i ∧ i < 12 ∧ m.testBit i = true := by
  unfold idxs
  simp only [List.mem_map, List.mem_filter, List.mem_range]
  constructor
  · rintro ⟨i, ⟨h1, h2⟩, rfl⟩; exact ⟨i, rfl, h1, h2⟩
  · rintro ⟨i, rfl, h1, h2⟩; exact ⟨i, ⟨h1, h2⟩, rfl⟩
theorem pw_rising : ∀ (n : List Int), n.Pairwise (· < ·) → rising n = true
  | [], _ => rfl
  | [a], _ => rfl
  | a :: b :: r, h => by
    rw [List.pairwise_cons] at h
    simp only [rising, Bool.and_eq_true, decide_eq_true_eq]
    exact ⟨h.1 b List.mem_cons_self, pw_rising _ h.2⟩
theorem idxs_rising (m : Nat) : rising (idxs m) = true := by
  apply pw_rising
  unfold idxs
  rw [List.pairwise_map]
  refine (List.Pairwise.filter _ List.pairwise_lt_range).imp ?_
  intro a b h
  simpa using h
theorem rising_ext : ∀ (a b : List Int), rising a = true → rising b = true → (∀ x, x ∈ a ↔ x ∈ b) → a = b
  | [], [], _, _, _ => rfl
  | [], y :: b, _, _, h => by have := (h y).2 List.mem_cons_self; cases this
  | x :: a, [], _, _, h => by have := (h x).1 List.mem_cons_self; cases this
  | x :: a, y :: b, h1, h2, h => by
    obtain ⟨r1, l1⟩ := rising_cons h1
    obtain ⟨r2, l2⟩ := rising_cons h2
    have e : x = y := by
      have hx := (h x).1 List.mem_cons_self
      have hy := (h y).2 List.mem_cons_self
      rcases List.mem_cons.1 hx with e | hx
      · exact e
      · rcases List.mem_cons.1 hy with e | hy
        · exact e.symm
        · have := l1 y hy; have := l2 x hx; omega
    subst e
    rw [rising_ext a b r1 r2 (fun z => ?_)]
    constructor
    · intro hz
      rcases List.mem_cons.1 ((h z).1 (List.mem_cons_of_mem _ hz)) with e | hz'
      · subst e; have := l1 z hz; omega
      · exact hz'
    · intro hz
      rcases List.mem_cons.1 ((h z).2 (List.mem_cons_of_mem _ hz)) with e | hz'
      · subst e; have := l2 z hz; omega
      · exact hz'
theorem coreOk_mem {l : List Cl} {p : List Int} : coreOk l p = true ↔ ∀ x ∈ p, 0 ≤ x ∧ x < l.length := by
  unfold coreOk
  rw [List.all_eq_true]
  simp only [inR, Bool.and_eq_true, decide_eq_true_eq]
  constructor <;> intro h x hx <;> have := h x hx <;> omega
theorem idxs_mask {l : List Cl} {p : List Int} (hl : l.length ≤ 12) (hr : rising p = true) (hc : coreOk l p = true) : idxs (maskOf p) = p := by
  rw [coreOk_mem] at hc
  refine rising_ext _ _ (idxs_rising _) hr (fun x => ?_)
  rw [mem_idxs]
  constructor
  · rintro ⟨i, rfl, _, h⟩
    exact (maskOf_testBit (fun y hy => (hc y hy).1) i).1 h
  · intro hx
    have := hc x hx
    refine ⟨x.toNat, by omega, by omega, (maskOf_testBit (fun y hy => (hc y hy).1) _).2 ?_⟩
    rw [Int.toNat_of_nonneg this.1]
    exact hx
theorem lt_of_bits {m n : Nat} (h : ∀ i, m.testBit i = true → i < n) : m < 2 ^ n := by
  apply Nat.lt_pow_two_of_testBit
  intro i hi
  rw [Bool.eq_false_iff]
  intro hc
  have := h i hc
  omega
theorem mask_lt {l : List Cl} {p : List Int} (hc : coreOk l p = true) : maskOf p < 2 ^ l.length := by
  rw [coreOk_mem] at hc
  refine lt_of_bits (fun i hi => ?_)
  have := hc _ ((maskOf_testBit (fun y hy => (hc y hy).1) i).1 hi)
  omega
theorem mask_idxs {m : Nat} (h : m < 2 ^ 12) : maskOf (idxs m) = m := by
  apply Nat.eq_of_testBit_eq
  intro i
  rw [Bool.eq_iff_iff, maskOf_testBit (fun x hx => by obtain ⟨i, rfl, _⟩ := mem_idxs.1 hx; omega), mem_idxs]
  constructor
  · rintro ⟨j, e, _, hj⟩
    obtain rfl : i = j := by omega
    exact hj
  · intro hi
    refine ⟨i, rfl, ?_, hi⟩
    rcases Nat.lt_or_ge i 12 with h1 | h1
    · exact h1
    · rw [Nat.testBit_lt_two_pow (Nat.lt_of_lt_of_le h (Nat.pow_le_pow_right (by decide) h1))] at hi
      cases hi
theorem idxs_core {l : List Cl} {m : Nat} (h : m < 2 ^ l.length) : coreOk l (idxs m) = true := by
  rw [coreOk_mem]
  intro x hx
  obtain ⟨i, rfl, _, hi⟩ := mem_idxs.1 hx
  refine ⟨by omega, ?_⟩
  rcases Nat.lt_or_ge i l.length with h1 | h1
  · omega
  · rw [Nat.testBit_lt_two_pow (Nat.lt_of_lt_of_le h (Nat.pow_le_pow_right (by decide) h1))] at hi
    cases hi

/-! The best core -/
theorem bestOf_step (ss : List Nat) (k : Nat) : bestOf ss (k + 1) = bestStep ss (bestOf ss k) k := by
  unfold bestOf
  rw [List.range_succ, List.foldl_append]; rfl
theorem lexC_self : ∀ a, lexC a a = 0
  | [] => rfl
  | a :: r => by simp [lexC, lexC_self r]
theorem lexC_trans : ∀ a b c, lexC a b < 0 → 0 ≤ lexC c b → lexC c a < 0 → False
  | [], [], c, h, _, _ => by simp [lexC] at h
  | [], _ :: _, [], _, _, h => by simp [lexC] at h
  | [], _ :: _, _ :: _, _, _, h => by simp [lexC] at h
  | _ :: _, [], _, h, _, _ => by simp [lexC] at h
  | _ :: _, _ :: _, [], _, h, _ => by simp [lexC] at h
  | a :: r, b :: s, c :: t, h1, h2, h3 => by
    simp only [lexC] at h1 h2 h3
    split at h1 <;> split at h2 <;> split at h3 <;> (try omega)
    all_goals (try split at h1) <;> (try split at h2) <;> (try split at h3) <;> (try omega)
    exact lexC_trans r s t h1 h2 h3
theorem lexC_anti : ∀ a b, lexC a b < 0 → 0 < lexC b a
  | [], [], h => by simp [lexC] at h
  | [], _ :: _, _ => by simp [lexC]
  | _ :: _, [], h => by simp [lexC] at h
  | a :: r, b :: s, h => by
    simp only [lexC] at h ⊢
    by_cases h1 : a < b
    · rw [if_neg (by omega), if_pos h1]; decide
    · rw [if_neg h1] at h
      by_cases h2 : b < a
      · rw [if_pos h2] at h; omega
      · rw [if_neg h2] at h
        rw [if_neg h2, if_neg h1]
        exact lexC_anti r s h
theorem bestOf_spec (ss : List Nat) : ∀ n, (∀ b, bestOf ss n = some b → (∃ m, m < n ∧ b = idxs m ∧ ss.all (hitB m) = true) ∧ ∀ m, m < n → ss.all (hitB m) = true → b.length < (idxs m).length ∨ (b.length = (idxs m).length ∧ 0 ≤ lexC (idxs m) b)) ∧ (bestOf ss n = none → ∀ m, m < n → ss.all (hitB m) = false)
  | 0 => ⟨fun b h => by simp [bestOf] at h, fun _ m h => absurd h (Nat.not_lt_zero _)⟩
  | n + 1 => by
    obtain ⟨h1, h2⟩ := bestOf_spec ss n
    rw [bestOf_step]
    unfold bestStep
    cases hh : ss.all (hitB n) with
    | false =>
      simp only [Bool.false_and, if_neg Bool.false_ne_true]
      refine ⟨fun b hb => ?_, fun hb m hm => ?_⟩
      · obtain ⟨⟨m, hm, e, ha⟩, h3⟩ := h1 b hb
        refine ⟨⟨m, by omega, e, ha⟩, fun m' hm' ha' => ?_⟩
        by_cases hmn : m' = n
        · subst hmn; rw [hh] at ha'; cases ha'
        · exact h3 m' (by omega) ha'
      · by_cases hmn : m = n
        · subst hmn; exact hh
        · exact h2 hb m (by omega)
    | true =>
      cases hb0 : bestOf ss n with
      | none =>
        simp only [better, Bool.and_true, if_true]
        refine ⟨fun b hb => ?_, fun hb => by cases hb⟩
        simp only [Option.some.injEq] at hb
        subst hb
        refine ⟨⟨n, by omega, rfl, hh⟩, fun m hm ha => ?_⟩
        by_cases hmn : m = n
        · subst hmn; exact .inr ⟨rfl, by rw [lexC_self]; omega⟩
        · rw [h2 hb0 m (by omega)] at ha; cases ha
      | some b0 =>
        obtain ⟨⟨m0, hm0, e0, ha0⟩, h3⟩ := h1 b0 hb0
        simp only [better, Bool.true_and, Bool.or_eq_true, Bool.and_eq_true, decide_eq_true_eq]
        split
        · rename_i hc
          refine ⟨fun b hb => ?_, fun hb => by cases hb⟩
          simp only [Option.some.injEq] at hb
          subst hb
          refine ⟨⟨n, by omega, rfl, hh⟩, fun m hm ha => ?_⟩
          by_cases hmn : m = n
          · subst hmn; exact .inr ⟨rfl, by rw [lexC_self]; omega⟩
          · rcases h3 m (by omega) ha with h4 | ⟨h4, h5⟩
            · rcases hc with hc | ⟨hc, hc2⟩
              · exact .inl (by omega)
              · exact .inl (by omega)
            · rcases hc with hc | ⟨hc, hc2⟩
              · exact .inl (by omega)
              · refine .inr ⟨by omega, ?_⟩
                rcases Int.lt_or_le (lexC (idxs m) (idxs n)) 0 with h6 | h6
                · exact (lexC_trans _ _ _ hc2 h5 h6).elim
                · exact h6
        · rename_i hc
          refine ⟨fun b hb => ?_, fun hb => by cases hb⟩
          simp only [Option.some.injEq] at hb
          subst hb
          refine ⟨⟨m0, by omega, e0, ha0⟩, fun m hm ha => ?_⟩
          by_cases hmn : m = n
          · subst hmn
            have h4 : ¬ ((idxs m).length : Int) < b0.length := fun h => hc (.inl h)
            have h5 : ((idxs m).length : Int) = b0.length → ¬ lexC (idxs m) b0 < 0 := fun h h' => hc (.inr ⟨h, h'⟩)
            by_cases h6 : ((idxs m).length : Int) = b0.length
            · exact .inr ⟨by omega, by have := h5 h6; omega⟩
            · exact .inl (by omega)
          · exact h3 m (by omega) ha

/-- Each package is forbidden by one of these clauses. -/
def Hits (l : List Cl) (u : List Int) (wt : Wt) (s : List Cl) : Prop := ∀ x ∈ packs l wt, ∃ c ∈ s, forb u wt x c = true
theorem sets_all (l : List Cl) (u : List Int) (wt : Wt) (m : Nat) : (sets l u wt).all (hitB m) = packsHit l u wt m := by
  unfold sets packsHit
  rw [List.all_map]
  rfl
/-- The clauses with these numbers. -/
def these (l : List Cl) (p : List Int) : List Cl := p.filterMap fun i => l[i.toNat]?
theorem mem_these {l : List Cl} {p : List Int} {c : Cl} : c ∈ these l p ↔ ∃ i ∈ p, l[i.toNat]? = some c := by
  unfold these
  rw [List.mem_filterMap]
theorem packsHit_these {l : List Cl} {u : List Int} {wt : Wt} {p : List Int} (hc : coreOk l p = true) : packsHit l u wt (maskOf p) = true ↔ Hits l u wt (these l p) := by
  rw [coreOk_mem] at hc
  unfold packsHit Hits
  rw [List.all_eq_true]
  simp only [decide_eq_true_eq]
  constructor
  · intro h x hx
    obtain ⟨i, h1, h2⟩ := (and_ne _ _).1 (h x hx)
    obtain ⟨c, hc1, hc2⟩ := (brk_testBit _ _ _ _ _).1 h1
    exact ⟨c, mem_these.2 ⟨i, (maskOf_testBit (fun y hy => (hc y hy).1) i).1 h2, by simpa using hc1⟩, hc2⟩
  · intro h x hx
    obtain ⟨c, hc1, hc2⟩ := h x hx
    obtain ⟨i, hi, he⟩ := mem_these.1 hc1
    refine (and_ne _ _).2 ⟨i.toNat, (brk_testBit _ _ _ _ _).2 ⟨c, he, hc2⟩, (maskOf_testBit (fun y hy => (hc y hy).1) _).2 ?_⟩
    rw [Int.toNat_of_nonneg (hc i hi).1]
    exact hi
theorem these_len {l : List Cl} : ∀ {p : List Int}, (∀ x ∈ p, 0 ≤ x ∧ x < l.length) → (these l p).length = p.length
  | [], _ => rfl
  | i :: p, h => by
    have h1 := h i List.mem_cons_self
    have h2 := these_len (p := p) (fun x hx => h x (List.mem_cons_of_mem _ hx))
    have h3 : i.toNat < l.length := by omega
    unfold these at h2 ⊢
    rw [List.filterMap_cons, List.getElem?_eq_getElem h3]
    simp [h2]
theorem these_sub {l : List Cl} : ∀ {p : List Int} (k : Nat), rising p = true → (∀ x ∈ p, (k : Int) ≤ x ∧ x < l.length) → List.Sublist (these l p) (l.drop k)
  | [], _, _, _ => by simp [these]
  | i :: p, k, hr, h => by
    have h1 := h i List.mem_cons_self
    obtain ⟨r1, r2⟩ := rising_cons hr
    have h3 : i.toNat < l.length := by omega
    have h2 := these_sub (p := p) (i.toNat + 1) r1 (fun x hx => ⟨by have := r2 x hx; omega, (h x (List.mem_cons_of_mem _ hx)).2⟩)
    unfold these at h2 ⊢
    rw [List.filterMap_cons, List.getElem?_eq_getElem h3]
    simp only
    have e : l.drop k = (l.drop k).take (i.toNat - k) ++ l.drop i.toNat := by
      have := (List.take_append_drop (i.toNat - k) (l.drop k)).symm
      rwa [List.drop_drop, show k + (i.toNat - k) = i.toNat by omega] at this
    rw [e, List.drop_eq_getElem_cons h3]
    exact List.Sublist.trans (List.Sublist.cons_cons _ h2) (List.sublist_append_right _ _)
theorem sub_these {l s : List Cl} (h : List.Sublist s l) : ∃ p, rising p = true ∧ coreOk l p = true ∧ these l p = s := by
  obtain ⟨is, e, hp⟩ := List.sublist_eq_map_getElem h
  refine ⟨is.map fun i => ((i.val : Nat) : Int), pw_rising _ ?_, coreOk_mem.2 ?_, ?_⟩
  · rw [List.pairwise_map]
    exact hp.imp (fun {a b} h => by have : a.val < b.val := h; omega)
  · intro x hx
    obtain ⟨i, _, rfl⟩ := List.mem_map.1 hx
    have := i.2
    omega
  · unfold these
    rw [List.filterMap_map, e, ← List.filterMap_eq_map]
    congr 1
    funext i
    simp

theorem core_min {l : List Cl} {u : List Int} {wt : Wt} (hg : givenB l u wt = true) (hn : solvP l u wt = none) : forbB l u wt (solve2 l u wt) = true ∧ (∀ p, forbB l u wt p = true → (solve2 l u wt).length ≤ p.length) := by
  have hl := (given_of hg).1
  have e2 : solve2 l u wt = (bestOf (sets l u wt) (2 ^ l.length)).getD [] := by
    unfold solve2
    rw [if_pos hg, hn]
  obtain ⟨h1, h2⟩ := bestOf_spec (sets l u wt) (2 ^ l.length)
  have hp12 : 2 ^ l.length ≤ 2 ^ 12 := Nat.pow_le_pow_right (by decide) hl
  have hp0 : 0 < 2 ^ l.length := Nat.two_pow_pos _
  cases hb : bestOf (sets l u wt) (2 ^ l.length) with
  | none =>
    exfalso
    have := h2 hb (2 ^ l.length - 1) (by omega)
    rw [sets_all] at this
    rw [Bool.eq_false_iff] at this
    apply this
    unfold packsHit
    rw [List.all_eq_true]
    intro x hx
    simp only [decide_eq_true_eq]
    rw [Nat.and_two_pow_sub_one_of_lt_two_pow (brk_lt l u wt x)]
    unfold solvP at hn
    rw [List.find?_eq_none] at hn
    simpa using hn x hx
  | some b =>
    obtain ⟨⟨m, hm, e, ha⟩, h3⟩ := h1 b hb
    rw [e2, hb]
    simp only [Option.getD_some]
    refine ⟨?_, fun p hp => ?_⟩
    · unfold forbB
      simp only [Bool.and_eq_true]
      rw [e]
      refine ⟨hg, idxs_rising m, idxs_core hm, ?_⟩
      rw [mask_idxs (by omega), ← sets_all]
      exact ha
    · unfold forbB at hp
      simp only [Bool.and_eq_true] at hp
      have := h3 (maskOf p) (mask_lt hp.2.2.1) (by rw [sets_all]; exact hp.2.2.2)
      rw [idxs_mask hl hp.2.1 hp.2.2.1] at this
      omega
theorem forbB_iff {l : List Cl} {u : List Int} {wt : Wt} {p : List Int} : forbB l u wt p = true ↔ givenB l u wt = true ∧ rising p = true ∧ coreOk l p = true ∧ Hits l u wt (these l p) := by
  unfold forbB
  simp only [Bool.and_eq_true]
  constructor
  · rintro ⟨h1, h2, h3, h4⟩; exact ⟨h1, h2, h3, (packsHit_these h3).1 h4⟩
  · rintro ⟨h1, h2, h3, h4⟩; exact ⟨h1, h2, h3, (packsHit_these h3).2 h4⟩
theorem core_sub {l : List Cl} {u : List Int} {wt : Wt} (hg : givenB l u wt = true) (hn : solvP l u wt = none) : (∃ s, List.Sublist s l ∧ Hits l u wt s ∧ s.length = (solve2 l u wt).length) ∧ ∀ s, List.Sublist s l → Hits l u wt s → (solve2 l u wt).length ≤ s.length := by
  obtain ⟨h1, h2⟩ := core_min hg hn
  refine ⟨?_, fun s hs hh => ?_⟩
  · obtain ⟨_, hr, hc, hh⟩ := forbB_iff.1 h1
    have hc' := coreOk_mem.1 hc
    exact ⟨_, by simpa using these_sub 0 hr (fun x hx => by have := hc' x hx; omega), hh, these_len hc'⟩
  · obtain ⟨p, hr, hc, e⟩ := sub_these hs
    have := h2 p (forbB_iff.2 ⟨hg, hr, hc, by rw [e]; exact hh⟩)
    rw [← e, these_len (coreOk_mem.1 hc)]
    exact this
end Go.Proofs.YtnabgijdbcdpmaaDoor

namespace Go.Proofs.YtnabgijdbcdpmaaDoor
open Go.RowKit Go.Rg Go.Proofs.YtnabgijdbcdpmaaDoor.PRightsMatchesReference Go.Proofs.YtnabgijdbcdpmaaDoorW.PrintWords
set_option linter.unusedVariables false
set_option linter.unusedSimpArgs false
/-! The laws -/
theorem forb_of {u : List Int} {wt : Wt} {p : List Int} {c : Cl} (h : forb u wt p c = false) (ha : applies c wt = true) : forbK c u wt p = false := by
  unfold forb at h
  rw [ha, Bool.true_and] at h
  exact h
theorem offered_mem {l : List Cl} {wt : Wt} {k : Int} : offered l wt k = true ↔ ∃ c ∈ l, c.f1 = 1 ∧ c.f0 = k ∧ applies c wt = true := by
  unfold offered
  rw [List.any_eq_true]
  simp
theorem vldL_iff {l : List Cl} : vldL l = true ↔ l.length ≤ 12 ∧ ∀ c ∈ l, vld c = true := by
  unfold vldL
  simp
theorem givenB_iff {l : List Cl} {u : List Int} {wt : Wt} : givenB l u wt = true ↔ vldL l = true ∧ u.length = 12 ∧ usedOk u = true ∧ vldW wt = true := by
  unfold givenB
  simp
/-- An offer forbids nothing. -/
theorem offer_forb {u : List Int} {wt : Wt} {p : List Int} {c : Cl} (h : c.f1 = 1) : forb u wt p c = false := by
  unfold forb forbK
  simp [h]
theorem solvP_iff {l : List Cl} {u : List Int} {wt : Wt} : solvP l u wt = none ↔ ∀ x ∈ packs l wt, ∃ c ∈ l, forb u wt x c = true := by
  unfold solvP
  rw [List.find?_eq_none]
  simp only [decide_eq_true_eq, brk_zero]
  constructor
  · intro h x hx
    have := h x hx
    apply Classical.byContradiction
    intro hc
    apply this
    intro c hcl
    rw [Bool.eq_false_iff]
    intro hf
    exact hc ⟨c, hcl, hf⟩
  · intro h x hx hc
    obtain ⟨c, h1, h2⟩ := h x hx
    rw [hc c h1] at h2
    cases h2
/-- The clauses that are left: the offers, and those with one of these numbers. -/
def rules (l : List Cl) (less : List Int) : List Cl := (l.zipIdx.filter fun x => decide (x.1.f1 = 1) || hasI less (x.2 : Int)).map Prod.fst
theorem rules_sub (l : List Cl) (less : List Int) : List.Sublist (rules l less) l := by
  unfold rules
  have := (List.filter_sublist (p := fun x : Cl × Nat => decide (x.1.f1 = 1) || hasI less (x.2 : Int)) (l := l.zipIdx)).map Prod.fst
  rwa [List.zipIdx_map_fst] at this
theorem mem_rules {l : List Cl} {less : List Int} {c : Cl} : c ∈ rules l less ↔ ∃ i : Nat, l[i]? = some c ∧ (c.f1 = 1 ∨ (i : Int) ∈ less) := by
  unfold rules
  rw [List.mem_map]
  constructor
  · rintro ⟨⟨c', i⟩, h, rfl⟩
    obtain ⟨h1, h2⟩ := List.mem_filter.1 h
    refine ⟨i, List.mk_mem_zipIdx_iff_getElem?.1 h1, ?_⟩
    simpa [hasI] using h2
  · rintro ⟨i, h1, h2⟩
    refine ⟨(c, i), List.mem_filter.2 ⟨List.mk_mem_zipIdx_iff_getElem?.2 h1, ?_⟩, rfl⟩
    simpa [hasI] using h2
theorem given_sub {l l' : List Cl} {u : List Int} {wt : Wt} (hs : List.Sublist l' l) (hg : givenB l u wt = true) : givenB l' u wt = true := by
  rw [givenB_iff, vldL_iff] at hg ⊢
  exact ⟨⟨Nat.le_trans hs.length_le hg.1.1, fun c hc => hg.1.2 c (hs.subset hc)⟩, hg.2⟩
theorem offered_eq {l l' : List Cl} {wt : Wt} (h : ∀ c, c.f1 = 1 → applies c wt = true → (c ∈ l ↔ c ∈ l')) : offered l wt = offered l' wt := by
  funext k
  rw [Bool.eq_iff_iff, offered_mem, offered_mem]
  constructor
  · rintro ⟨c, h1, h2, h3, h4⟩; exact ⟨c, (h c h2 h4).1 h1, h2, h3, h4⟩
  · rintro ⟨c, h1, h2, h3, h4⟩; exact ⟨c, (h c h2 h4).2 h1, h2, h3, h4⟩
theorem packs_eq {l l' : List Cl} {wt : Wt} (h : ∀ c, c.f1 = 1 → applies c wt = true → (c ∈ l ↔ c ∈ l')) : packs l wt = packs l' wt := by
  unfold packs
  rw [offered_eq h]

/-! RightsCore -/
/-- A list without the element at an index. -/
def wout (l : List Int) (i : Nat) : List Int := l.take i ++ l.drop (i + 1)
theorem wout_len {l : List Int} {i : Nat} (h : i < l.length) : (wout l i).length + 1 = l.length := by
  unfold wout
  rw [List.length_append, List.length_take, List.length_drop]
  omega
theorem wout_sub (l : List Int) (i : Nat) : List.Sublist (wout l i) l := by
  unfold wout
  rw [← List.eraseIdx_eq_take_drop_succ]
  exact List.eraseIdx_sublist l i
theorem rising_sub {a b : List Int} (h : List.Sublist a b) (hb : rising b = true) : rising a = true := pw_rising _ ((rising_pw _ hb).sublist h)
theorem core_less {l : List Cl} {u : List Int} {wt : Wt} (hg : givenB l u wt = true) (hn : solvP l u wt = none) {i : Nat} (hi : i < (solve2 l u wt).length) : forbB l u wt (wout (solve2 l u wt) i) = false ∧ solve1 (rules l (wout (solve2 l u wt) i)) u wt ≠ [] := by
  obtain ⟨h1, h2⟩ := core_min hg hn
  have hf : forbB l u wt (wout (solve2 l u wt) i) = false := by
    rw [Bool.eq_false_iff]
    intro hc
    have := h2 _ hc
    have := wout_len hi
    omega
  refine ⟨hf, ?_⟩
  obtain ⟨_, hr, hc, _⟩ := forbB_iff.1 h1
  generalize solve2 l u wt = core at *
  have hs := wout_sub core i
  generalize wout core i = less at *
  have hr' := rising_sub hs hr
  have hc' : coreOk l less = true := by
    rw [coreOk_mem] at hc ⊢
    exact fun x hx => hc x (hs.subset hx)
  have hg' := given_sub (rules_sub l less) hg
  rcases solve1_spec hg' with ⟨_, hnone, _⟩ | ⟨h, _⟩
  · exfalso
    rw [solvP_iff] at hnone
    rw [Bool.eq_false_iff] at hf
    apply hf
    refine forbB_iff.2 ⟨hg, hr', hc', fun x hx => ?_⟩
    have hp : packs l wt = packs (rules l less) wt := packs_eq fun c hc1 ha => by
      rw [mem_rules]
      constructor
      · intro h
        obtain ⟨i, hi⟩ := List.mem_iff_getElem?.1 h
        exact ⟨i, hi, .inl hc1⟩
      · rintro ⟨i, hi, _⟩
        exact List.mem_iff_getElem?.2 ⟨i, hi⟩
    rw [hp] at hx
    obtain ⟨c, h3, h4⟩ := hnone x hx
    refine ⟨c, ?_, h4⟩
    obtain ⟨j, h5, h6⟩ := mem_rules.1 h3
    rcases h6 with h6 | h6
    · rw [offer_forb h6] at h4; cases h4
    · exact mem_these.2 ⟨_, h6, by simpa using h5⟩
  · exact h

/-! RightsClauses -/
theorem offer_more {l : List Cl} {u : List Int} {wt : Wt} {c : Cl} {p : List Int} (hg : givenB (l ++ [c]) u wt = true) (hc : c.f1 = 1) (h : lawB l u wt p = true) : lawB (l ++ [c]) u wt p = true := by
  rw [lawB_iff] at h ⊢
  obtain ⟨_, h1, h2⟩ := h
  refine ⟨hg, ?_, fun d hd => ?_⟩
  · rw [mem_packs] at h1 ⊢
    refine isPk_sub (fun k hk => ?_) rfl (fun i h1 h2 k hk => hk) h1
    rw [offered_mem] at hk ⊢
    obtain ⟨c, hc, hh⟩ := hk
    exact ⟨c, List.mem_append_left _ hc, hh⟩
  · rcases List.mem_append.1 hd with hd | hd
    · exact h2 d hd
    · rw [List.mem_singleton.1 hd]; exact offer_forb hc
theorem other_more {l : List Cl} {u : List Int} {wt : Wt} {c : Cl} {p : List Int} (hg : givenB l u wt = true) (hc : c.f1 ≠ 1) (h : lawB (l ++ [c]) u wt p = true) : lawB l u wt p = true := by
  rw [lawB_iff] at h ⊢
  obtain ⟨_, h1, h2⟩ := h
  refine ⟨hg, ?_, fun d hd => h2 d (List.mem_append_left _ hd)⟩
  rw [mem_packs] at h1 ⊢
  refine isPk_sub (fun k hk => ?_) rfl (fun i h1 h2 k hk => hk) h1
  rw [offered_mem] at hk ⊢
  obtain ⟨d, hd, h3, h4⟩ := hk
  rcases List.mem_append.1 hd with hd | hd
  · exact ⟨d, hd, h3, h4⟩
  · rw [List.mem_singleton.1 hd] at h3; exact absurd h3 hc
theorem forb_no {u : List Int} {wt : Wt} {p : List Int} {c : Cl} (h : applies c wt = false) : forb u wt p c = false := by
  unfold forb
  rw [h]; rfl
theorem same_more {l : List Cl} {u : List Int} {wt : Wt} {c : Cl} {p : List Int} (hg : givenB l u wt = true) (hg' : givenB (l ++ [c]) u wt = true) (hc : applies c wt = false) : lawB l u wt p = lawB (l ++ [c]) u wt p := by
  rw [Bool.eq_iff_iff, lawB_iff, lawB_iff]
  have hp : packs l wt = packs (l ++ [c]) wt := packs_eq fun d _ ha => by
    rw [List.mem_append, List.mem_singleton]
    constructor
    · exact .inl
    · rintro (h | rfl)
      · exact h
      · rw [hc] at ha; cases ha
  rw [← hp]
  constructor
  · rintro ⟨_, h1, h2⟩
    refine ⟨hg', h1, fun d hd => ?_⟩
    rcases List.mem_append.1 hd with hd | hd
    · exact h2 d hd
    · rw [List.mem_singleton.1 hd]; exact forb_no hc
  · rintro ⟨_, h1, h2⟩
    exact ⟨hg, h1, fun d hd => h2 d (List.mem_append_left _ hd)⟩
/-- Two lists of clauses with the same packages and the same that are forbidden. -/
structure Alike (l l' : List Cl) (u : List Int) (wt : Wt) : Prop where
  g : givenB l u wt = true
  g' : givenB l' u wt = true
  pk : packs l wt = packs l' wt
  mem : ∀ c, applies c wt = true → (c ∈ l ↔ c ∈ l')
theorem Alike.symm {l l' : List Cl} {u : List Int} {wt : Wt} (h : Alike l l' u wt) : Alike l' l u wt := ⟨h.g', h.g, h.pk.symm, fun c hc => (h.mem c hc).symm⟩
theorem forb_applies {u : List Int} {wt : Wt} {p : List Int} {c : Cl} (h : forb u wt p c = true) : applies c wt = true := by
  unfold forb at h
  simp only [Bool.and_eq_true] at h
  exact h.1
theorem Alike.law {l l' : List Cl} {u : List Int} {wt : Wt} (h : Alike l l' u wt) (p : List Int) : lawB l u wt p = lawB l' u wt p := by
  have one : ∀ {l l' : List Cl}, Alike l l' u wt → lawB l u wt p = true → lawB l' u wt p = true := by
    intro l l' h hl
    rw [lawB_iff] at hl ⊢
    refine ⟨h.g', h.pk ▸ hl.2.1, fun c hc => ?_⟩
    rw [Bool.eq_false_iff]
    intro hf
    have := hl.2.2 c ((h.mem c (forb_applies hf)).2 hc)
    rw [hf] at this
    cases this
  rw [Bool.eq_iff_iff]
  exact ⟨one h, one h.symm⟩
theorem Alike.solvP {l l' : List Cl} {u : List Int} {wt : Wt} (h : Alike l l' u wt) : solvP l u wt = solvP l' u wt := by
  unfold Go.Proofs.YtnabgijdbcdpmaaDoor.solvP
  rw [h.pk]
  congr 1
  funext p
  rw [decide_eq_decide, brk_zero, brk_zero]
  have one : ∀ {l l' : List Cl}, Alike l l' u wt → (∀ c ∈ l, forb u wt p c = false) → ∀ c ∈ l', forb u wt p c = false := by
    intro l l' h hl c hc
    rw [Bool.eq_false_iff]
    intro hf
    have := hl c ((h.mem c (forb_applies hf)).2 hc)
    rw [hf] at this
    cases this
  exact ⟨one h, one h.symm⟩
theorem Alike.solve1 {l l' : List Cl} {u : List Int} {wt : Wt} (h : Alike l l' u wt) : solve1 l u wt = solve1 l' u wt := by
  unfold Go.Proofs.YtnabgijdbcdpmaaDoor.solve1
  rw [if_pos h.g, if_pos h.g', h.solvP]
theorem solve2_some {l : List Cl} {u : List Int} {wt : Wt} (hg : givenB l u wt = true) {p : List Int} (h : solvP l u wt = some p) : solve2 l u wt = [] := by
  unfold solve2
  rw [if_pos hg, h]
theorem Alike.len {l l' : List Cl} {u : List Int} {wt : Wt} (h : Alike l l' u wt) (h1 : ∀ s, List.Sublist s l → Hits l u wt s → ∃ s', List.Sublist s' l' ∧ Hits l u wt s' ∧ s'.length ≤ s.length) (h2 : ∀ s, List.Sublist s l' → Hits l u wt s → ∃ s', List.Sublist s' l ∧ Hits l u wt s' ∧ s'.length ≤ s.length) : (solve2 l u wt).length = (solve2 l' u wt).length := by
  cases hn : Go.Proofs.YtnabgijdbcdpmaaDoor.solvP l u wt with
  | some p => rw [solve2_some h.g hn, solve2_some h.g' (by rw [← h.solvP]; exact hn)]
  | none =>
    obtain ⟨⟨s, a1, a2, a3⟩, a4⟩ := core_sub h.g hn
    obtain ⟨⟨t, b1, b2, b3⟩, b4⟩ := core_sub h.g' (by rw [← h.solvP]; exact hn)
    have hh : ∀ s, Hits l u wt s ↔ Hits l' u wt s := fun s => by unfold Hits; rw [h.pk]
    obtain ⟨s', c1, c2, c3⟩ := h1 s a1 a2
    obtain ⟨t', d1, d2, d3⟩ := h2 t b1 ((hh t).2 b2)
    have := b4 s' c1 ((hh s').1 c2)
    have := a4 t' d1 d2
    omega
/-- The clauses that apply. -/
theorem alike_filter {l : List Cl} {u : List Int} {wt : Wt} (hg : givenB l u wt = true) : Alike l (l.filter fun c => applies c wt) u wt := by
  have hm : ∀ c, applies c wt = true → (c ∈ l ↔ c ∈ l.filter fun c => applies c wt) := fun c hc => by
    rw [List.mem_filter]; exact ⟨fun h => ⟨h, hc⟩, fun h => h.1⟩
  exact ⟨hg, given_sub List.filter_sublist hg, packs_eq fun c _ ha => hm c ha, hm⟩
theorem len_filter {l : List Cl} {u : List Int} {wt : Wt} (hg : givenB l u wt = true) : (solve2 l u wt).length = (solve2 (l.filter fun c => applies c wt) u wt).length := by
  refine (alike_filter hg).len (fun s hs hh => ⟨s.filter fun c => applies c wt, hs.filter _, fun x hx => ?_, List.length_filter_le _ _⟩) (fun s hs hh => ⟨s, hs.trans List.filter_sublist, hh, Nat.le_refl _⟩)
  obtain ⟨c, hc, hf⟩ := hh x hx
  exact ⟨c, List.mem_filter.2 ⟨hc, forb_applies hf⟩, hf⟩

/-! RightsOrder -/
theorem alike_turn {l : List Cl} {u : List Int} {wt : Wt} (hg : givenB l u wt = true) (k : Nat) : Alike l (l.drop k ++ l.take k) u wt := by
  have hm : ∀ c, (c ∈ l ↔ c ∈ l.drop k ++ l.take k) := fun c => by
    rw [List.mem_append, Or.comm, ← List.mem_append, List.take_append_drop]
  refine ⟨hg, ?_, packs_eq fun c _ ha => hm c, fun c _ => hm c⟩
  rw [givenB_iff, vldL_iff] at hg ⊢
  refine ⟨⟨?_, fun c hc => hg.1.2 c ((hm c).2 hc)⟩, hg.2⟩
  have := congrArg List.length (List.take_append_drop k l)
  rw [List.length_append] at this ⊢
  omega
theorem len_turn {l : List Cl} {u : List Int} {wt : Wt} (hg : givenB l u wt = true) (k : Nat) : (solve2 l u wt).length = (solve2 (l.drop k ++ l.take k) u wt).length := by
  have sw : ∀ (a b s : List Cl), List.Sublist s (a ++ b) → ∃ s', List.Sublist s' (b ++ a) ∧ (∀ c, c ∈ s → c ∈ s') ∧ s'.length ≤ s.length := fun a b s hs => by
    obtain ⟨s1, s2, rfl, h1, h2⟩ := List.sublist_append_iff.1 hs
    refine ⟨s2 ++ s1, List.Sublist.append h2 h1, fun c hc => ?_, by simp; omega⟩
    rw [List.mem_append] at hc ⊢
    exact hc.symm
  refine (alike_turn hg k).len (fun s hs hh => ?_) (fun s hs hh => ?_)
  · rw [← List.take_append_drop k l] at hs
    obtain ⟨s', h1, h2, h3⟩ := sw _ _ s hs
    refine ⟨s', h1, fun x hx => ?_, h3⟩
    obtain ⟨c, hc, hf⟩ := hh x hx
    exact ⟨c, h2 c hc, hf⟩
  · obtain ⟨s', h1, h2, h3⟩ := sw _ _ s hs
    rw [List.take_append_drop] at h1
    refine ⟨s', h1, fun x hx => ?_, h3⟩
    obtain ⟨c, hc, hf⟩ := hh x hx
    exact ⟨c, h2 c hc, hf⟩
theorem applies_want {c : Cl} {wt : Wt} {ns : List (List Int)} (h : vldW wt = true) (h' : vldW { wt with needs := ns } = true) : applies c { wt with needs := ns } = applies c wt := by
  unfold applies
  rw [h, h']
theorem forb_want {c : Cl} {u : List Int} {wt : Wt} {ns : List (List Int)} {p : List Int} (h : vldW wt = true) (h' : vldW { wt with needs := ns } = true) : forb u { wt with needs := ns } p c = forb u wt p c := by
  unfold forb
  rw [applies_want h h']
  rfl
theorem fewer_needs {l : List Cl} {u : List Int} {wt : Wt} {ns : List (List Int)} (hg : givenB l u wt = true) (h' : vldW { wt with needs := ns } = true) (hl : ns.length = wt.needs.length) (hs : ∀ i (h : i < ns.length) (h' : i < wt.needs.length), ∀ k ∈ ns[i], k ∈ wt.needs[i]) :
    givenB l u { wt with needs := ns } = true ∧ (solve1 l u { wt with needs := ns } ≠ [] → solve1 l u wt ≠ []) := by
  have hw := (givenB_iff.1 hg).2.2.2
  have hg' : givenB l u { wt with needs := ns } = true := by
    rw [givenB_iff] at hg ⊢
    exact ⟨hg.1, hg.2.1, hg.2.2.1, h'⟩
  refine ⟨hg', fun hne he => ?_⟩
  rcases solve1_spec hg' with ⟨h1, _⟩ | ⟨_, _, h2, _⟩
  · exact hne h1
  · rcases solve1_spec hg with ⟨_, _, h3⟩ | ⟨h1, _⟩
    · have := h3 (solve1 l u { wt with needs := ns })
      rw [Bool.eq_false_iff] at this
      apply this
      rw [lawB_iff] at h2 ⊢
      refine ⟨hg, ?_, fun c hc => ?_⟩
      · have h4 := h2.2.1
        rw [mem_packs] at h4 ⊢
        refine isPk_sub (fun k hk => ?_) hl hs h4
        rw [offered_mem] at hk ⊢
        obtain ⟨c, a, b, d, e⟩ := hk
        exact ⟨c, a, b, d, by rwa [applies_want hw h'] at e⟩
      · have := h2.2.2 c hc
        rwa [forb_want hw h'] at this
    · exact h1 he
end Go.Proofs.YtnabgijdbcdpmaaDoor

namespace Go.Proofs.YtnabgijdbcdpmaaDoor
open Go.RowKit Go.Rg Go.Proofs.YtnabgijdbcdpmaaDoor.PRightsMatchesReference Go.Proofs.YtnabgijdbcdpmaaDoorW.PrintWords
set_option linter.unusedVariables false
set_option linter.unusedSimpArgs false
theorem law_clause {l : List Cl} {u : List Int} {wt : Wt} {p : List Int} (h : lawB l u wt p = true) {c : Cl} (hc : c ∈ l) (ha : applies c wt = true) (hp : hasI p c.f0 = true) : c.f1 ≠ 2 ∧ (c.f1 = 3 → ¬ c.f6 < rd u c.f0 + wt.us) ∧ (c.f1 = 4 → hasI p c.f7 = false) := by
  have hf := forb_of ((lawB_iff.1 h).2.2 c hc) ha
  unfold forbK at hf
  refine ⟨fun e => ?_, fun e => ?_, fun e => ?_⟩
  · rw [if_pos e, hp] at hf; cases hf
  · rw [if_neg (by omega), if_pos e, hp] at hf
    simpa using hf
  · rw [if_neg (by omega), if_neg (by omega), if_pos e, hp] at hf
    simpa using hf
/-! RightsUses -/
theorem law_less {l : List Cl} {u u' : List Int} {wt : Wt} {p : List Int} (h : lawB l u wt p = true) (h12 : u'.length = 12) (hu : usedOk u' = true) (hle : ∀ k, 0 ≤ k → k < 12 → rd u' k ≤ rd u k) : lawB l u' wt p = true := by
  rw [lawB_iff] at h ⊢
  obtain ⟨hg, h1, h2⟩ := h
  rw [givenB_iff] at hg ⊢
  refine ⟨⟨hg.1, h12, hu, hg.2.2.2⟩, h1, fun c hc => ?_⟩
  have h3 := h2 c hc
  rw [Bool.eq_false_iff] at h3 ⊢
  intro hf
  apply h3
  have ha := forb_applies hf
  have hv : 0 ≤ c.f0 ∧ c.f0 < 12 := by
    unfold applies at ha
    simp only [Bool.and_eq_true] at ha
    have := ha.1
    unfold vld isWk inR at this
    simp only [Bool.and_eq_true, decide_eq_true_eq] at this
    omega
  unfold forb at hf ⊢
  rw [ha, Bool.true_and] at hf ⊢
  unfold forbK at hf ⊢
  split
  · rename_i e; rw [if_pos e] at hf; exact hf
  · rename_i e
    rw [if_neg e] at hf
    split
    · rename_i e2
      rw [if_pos e2] at hf
      simp only [Bool.and_eq_true, decide_eq_true_eq] at hf ⊢
      have := hle c.f0 hv.1 hv.2
      exact ⟨hf.1, by omega⟩
    · rename_i e2; rw [if_neg e2] at hf; exact hf
theorem vldW_us {wt : Wt} {n : Int} (h : vldW wt = true) (h1 : 1 ≤ n) (h2 : n ≤ wt.us) : vldW { wt with us := n } = true := by
  unfold vldW inR at h ⊢
  simp only [Bool.and_eq_true, decide_eq_true_eq] at h ⊢
  exact ⟨h.1, h.2.1, h.2.2.1, ⟨h1, by omega⟩, h.2.2.2.2⟩
theorem law_fewer {l : List Cl} {u : List Int} {wt : Wt} {p : List Int} {n : Int} (h : lawB l u wt p = true) (h1 : 1 ≤ n) (h2 : n ≤ wt.us) : lawB l u { wt with us := n } p = true := by
  rw [lawB_iff] at h ⊢
  obtain ⟨hg, h3, h4⟩ := h
  rw [givenB_iff] at hg ⊢
  have hw := vldW_us hg.2.2.2 h1 h2
  have ha : ∀ c, applies c { wt with us := n } = applies c wt := fun c => by
    unfold applies
    rw [hw, hg.2.2.2]
  have ho : offered l { wt with us := n } = offered l wt := by
    funext k
    unfold offered
    simp only [ha]
  refine ⟨⟨hg.1, hg.2.1, hg.2.2.1, hw⟩, ?_, fun c hc => ?_⟩
  · unfold packs at h3 ⊢
    rw [ho]
    exact h3
  · have h5 := h4 c hc
    rw [Bool.eq_false_iff] at h5 ⊢
    intro hf
    apply h5
    unfold forb at hf ⊢
    rw [ha] at hf
    simp only [Bool.and_eq_true] at hf ⊢
    refine ⟨hf.1, ?_⟩
    have hf := hf.2
    unfold forbK at hf ⊢
    split
    · rename_i e; rw [if_pos e] at hf; exact hf
    · rename_i e
      rw [if_neg e] at hf
      split
      · rename_i e2
        rw [if_pos e2] at hf
        simp only [Bool.and_eq_true, decide_eq_true_eq] at hf ⊢
        exact ⟨hf.1, by omega⟩
      · rename_i e2; rw [if_neg e2] at hf; exact hf
/-- Does a limit bear on a work of the package? -/
def bears (wt : Wt) (p : List Int) (c : Cl) : Bool := applies c wt && (decide (c.f1 = 3) && hasI p c.f0)
/-- How many more uses the limits allow. -/
def roomOf (l : List Cl) (u : List Int) (wt : Wt) (p : List Int) : Int := l.foldl (fun r c => if bears wt p c = true then min r (c.f6 - rd u c.f0) else r) 1000000
theorem roomOf_succ {l : List Cl} {u : List Int} {wt : Wt} {p : List Int} {k : Nat} (h : k < l.length) : roomOf (l.take (k + 1)) u wt p = if bears wt p l[k] = true then min (roomOf (l.take k) u wt p) (l[k].f6 - rd u l[k].f0) else roomOf (l.take k) u wt p := by
  unfold roomOf
  rw [List.take_succ_eq_append_getElem h, List.foldl_append]
  rfl
theorem le_foldl {u : List Int} {wt : Wt} {p : List Int} {x : Int} : ∀ (l : List Cl) (r : Int), x ≤ l.foldl (fun r c => if bears wt p c = true then min r (c.f6 - rd u c.f0) else r) r ↔ x ≤ r ∧ ∀ c ∈ l, bears wt p c = true → x ≤ c.f6 - rd u c.f0
  | [], r => by simp
  | c :: l, r => by
    rw [List.foldl_cons, le_foldl l]
    simp only [List.mem_cons, forall_eq_or_imp]
    cases bears wt p c
    · simp
    · simp only [if_true, forall_const]
      rw [Int.le_min, and_assoc]
theorem le_room {l : List Cl} {u : List Int} {wt : Wt} {p : List Int} {x : Int} : x ≤ roomOf l u wt p ↔ x ≤ 1000000 ∧ ∀ c ∈ l, bears wt p c = true → x ≤ c.f6 - rd u c.f0 := le_foldl l _
/-- Uses, greater by S for the works of a package. -/
def Plus (u u' : List Int) (p : List Int) (S : Int) : Prop := u'.length = 12 ∧ ∀ k, 0 ≤ k → k < 12 → rd u' k = rd u k + if k ∈ p then S else 0
theorem law_turn {l : List Cl} {u u' : List Int} {wt : Wt} {p : List Int} {S : Int} (h : lawB l u wt p = true) (hP : Plus u u' p S) (hu : usedOk u' = true) (hS : S + wt.us ≤ 1000000) : lawB l u' wt p = decide (wt.us ≤ roomOf l u wt p - S) := by
  rw [lawB_iff] at h
  obtain ⟨hg, h1, h2⟩ := h
  have hg' := hg
  rw [givenB_iff] at hg'
  have h3 : wt.us ≤ roomOf l u wt p - S ↔ S + wt.us ≤ roomOf l u wt p := by omega
  rw [Bool.eq_iff_iff, decide_eq_true_eq, h3, le_room, lawB_iff]
  have key : ∀ c ∈ l, bears wt p c = true → rd u' c.f0 = rd u c.f0 + S := fun c hc hb => by
    unfold bears at hb
    simp only [Bool.and_eq_true, decide_eq_true_eq] at hb
    have ha := hb.1
    unfold applies at ha
    simp only [Bool.and_eq_true] at ha
    have hv := ha.1
    unfold vld isWk inR at hv
    simp only [Bool.and_eq_true, decide_eq_true_eq] at hv
    rw [hP.2 c.f0 (by omega) (by omega), if_pos]
    simpa [hasI] using hb.2.2
  have fk : ∀ c ∈ l, forb u' wt p c = true ↔ bears wt p c = true ∧ c.f6 < rd u' c.f0 + wt.us := fun c hc => by
    have hf := h2 c hc
    unfold forb bears at *
    cases ha : applies c wt with
    | false => simp
    | true =>
      rw [ha, Bool.true_and] at hf
      simp only [Bool.true_and]
      unfold forbK at hf ⊢
      by_cases e2 : c.f1 = 2
      · rw [if_pos e2] at hf ⊢
        simp [hf, e2]
      · rw [if_neg e2] at hf ⊢
        by_cases e3 : c.f1 = 3
        · rw [if_pos e3]
          simp [e3]
        · rw [if_neg e3] at hf ⊢
          simp [hf, e3]
  constructor
  · rintro ⟨_, _, hh⟩
    refine ⟨hS, fun c hc hb => ?_⟩
    have h4 := hh c hc
    have h5 := key c hc hb
    rw [Bool.eq_false_iff] at h4
    have h6 : ¬ c.f6 < rd u' c.f0 + wt.us := fun h => h4 ((fk c hc).2 ⟨hb, h⟩)
    omega
  · rintro ⟨_, hh⟩
    refine ⟨?_, h1, fun c hc => ?_⟩
    · rw [givenB_iff]; exact ⟨hg'.1, hP.1, hu, hg'.2.2.2⟩
    · rw [Bool.eq_false_iff]
      intro hf
      obtain ⟨hb, h4⟩ := (fk c hc).1 hf
      have h5 := key c hc hb
      have h6 := hh c hc hb
      omega
theorem Plus.zero {u p : List Int} (h : u.length = 12) : Plus u u p 0 := ⟨h, fun k _ _ => by split <;> omega⟩
end Go.Proofs.YtnabgijdbcdpmaaDoor

namespace Go.Proofs.YtnabgijdbcdpmaaDoor
open Go.RowKit Go.Rg Go.Proofs.YtnabgijdbcdpmaaDoor.PRightsMatchesReference Go.Proofs.YtnabgijdbcdpmaaDoorW.PrintWords
set_option linter.unusedVariables false
set_option linter.unusedSimpArgs false

theorem vld_iff {f0 f1 f2 f3 f4 f5 f6 f7 : Int} : vld ⟨f0, f1, f2, f3, f4, f5, f6, f7⟩ = true ↔ 0 ≤ f0 ∧ f0 ≤ 11 ∧ 1 ≤ f1 ∧ f1 ≤ 4 ∧ 0 ≤ f2 ∧ f2 ≤ 255 ∧ 0 ≤ f3 ∧ f3 ≤ 255 ∧ 0 ≤ f4 ∧ f4 ≤ f5 ∧ f5 ≤ 50000000 ∧ ((f1 = 3 ∧ 0 ≤ f6 ∧ f6 ≤ 1000000 ∧ f7 = 0) ∨ (f1 = 4 ∧ f6 = 0 ∧ 0 ≤ f7 ∧ f7 ≤ 11 ∧ f7 ≠ f0) ∨ (f1 ≠ 3 ∧ f1 ≠ 4 ∧ f6 = 0 ∧ f7 = 0)) := by
  unfold vld fieldsOk timesOk isWk inR
  simp only [Bool.and_eq_true, decide_eq_true_eq]
  by_cases h3 : f1 = 3
  · rw [if_pos h3]
    simp only [Bool.and_eq_true, decide_eq_true_eq]
    omega
  · rw [if_neg h3]
    by_cases h4 : f1 = 4
    · rw [if_pos h4]
      simp only [Bool.and_eq_true, decide_eq_true_eq]
      omega
    · rw [if_neg h4]
      simp only [Bool.and_eq_true, decide_eq_true_eq]
      omega
theorem rvalid_eq {f0 f1 f2 f3 f4 f5 f6 f7 : Int} {b : Bool} (h1 : b = true → 0 ≤ f0 ∧ f0 ≤ 11 ∧ 1 ≤ f1 ∧ f1 ≤ 4 ∧ 0 ≤ f2 ∧ f2 ≤ 255 ∧ 0 ≤ f3 ∧ f3 ≤ 255 ∧ 0 ≤ f4 ∧ f4 ≤ f5 ∧ f5 ≤ 50000000 ∧ ((f1 = 3 ∧ 0 ≤ f6 ∧ f6 ≤ 1000000 ∧ f7 = 0) ∨ (f1 = 4 ∧ f6 = 0 ∧ 0 ≤ f7 ∧ f7 ≤ 11 ∧ f7 ≠ f0) ∨ (f1 ≠ 3 ∧ f1 ≠ 4 ∧ f6 = 0 ∧ f7 = 0))) (h2 : 0 ≤ f0 ∧ f0 ≤ 11 ∧ 1 ≤ f1 ∧ f1 ≤ 4 ∧ 0 ≤ f2 ∧ f2 ≤ 255 ∧ 0 ≤ f3 ∧ f3 ≤ 255 ∧ 0 ≤ f4 ∧ f4 ≤ f5 ∧ f5 ≤ 50000000 ∧ ((f1 = 3 ∧ 0 ≤ f6 ∧ f6 ≤ 1000000 ∧ f7 = 0) ∨ (f1 = 4 ∧ f6 = 0 ∧ 0 ≤ f7 ∧ f7 ≤ 11 ∧ f7 ≠ f0) ∨ (f1 ≠ 3 ∧ f1 ≠ 4 ∧ f6 = 0 ∧ f7 = 0)) → b = true) : Ending.returned (.bool b) = .returned (.bool (vld ⟨f0, f1, f2, f3, f4, f5, f6, f7⟩)) := ret_bool (Bool.eq_iff_iff.2 ⟨fun h => vld_iff.2 (h1 h), fun h => h2 (vld_iff.1 h)⟩)

set_option maxRecDepth 100000 in
set_option maxHeartbeats 4000000 in
theorem rvalid_any (c : Cl) (w : World) : Calls Tryd.prog 39 #[clv c] w fun e w' => e = .returned (.bool (vld c)) ∧ Below w.heap.size w w' := by
  obtain ⟨f0, f1, f2, f3, f4, f5, f6, f7⟩ := c
  unfold clv
  simp only
  by_cases a0 : f0 < 0
  · go_enter Tryd.func39, Tryd.ntmps39
    go_wp2
    go_ret
    exact ⟨rvalid_eq (by first | (intro h; exact absurd h (by decide)) | (intro h; simp only [beq_iff_eq, bne_iff_ne, decide_eq_true_eq, ne_eq] at h; omega) | (intro h; omega)) (by intro h; first | (exfalso; omega) | (simp only [beq_iff_eq, bne_iff_ne, decide_eq_true_eq, ne_eq]; omega) | rfl), (Below.refl _ _).alloc (Nat.le_refl _) _⟩
  by_cases a1 : 11 < f0
  · go_enter Tryd.func39, Tryd.ntmps39
    go_wp2
    go_ret
    exact ⟨rvalid_eq (by first | (intro h; exact absurd h (by decide)) | (intro h; simp only [beq_iff_eq, bne_iff_ne, decide_eq_true_eq, ne_eq] at h; omega) | (intro h; omega)) (by intro h; first | (exfalso; omega) | (simp only [beq_iff_eq, bne_iff_ne, decide_eq_true_eq, ne_eq]; omega) | rfl), (Below.refl _ _).alloc (Nat.le_refl _) _⟩
  by_cases a2 : f1 < 1
  · go_enter Tryd.func39, Tryd.ntmps39
    go_wp2
    go_ret
    exact ⟨rvalid_eq (by first | (intro h; exact absurd h (by decide)) | (intro h; simp only [beq_iff_eq, bne_iff_ne, decide_eq_true_eq, ne_eq] at h; omega) | (intro h; omega)) (by intro h; first | (exfalso; omega) | (simp only [beq_iff_eq, bne_iff_ne, decide_eq_true_eq, ne_eq]; omega) | rfl), (Below.refl _ _).alloc (Nat.le_refl _) _⟩
  by_cases a3 : 4 < f1
  · go_enter Tryd.func39, Tryd.ntmps39
    go_wp2
    go_ret
    exact ⟨rvalid_eq (by first | (intro h; exact absurd h (by decide)) | (intro h; simp only [beq_iff_eq, bne_iff_ne, decide_eq_true_eq, ne_eq] at h; omega) | (intro h; omega)) (by intro h; first | (exfalso; omega) | (simp only [beq_iff_eq, bne_iff_ne, decide_eq_true_eq, ne_eq]; omega) | rfl), (Below.refl _ _).alloc (Nat.le_refl _) _⟩
  by_cases a4 : f2 < 0
  · go_enter Tryd.func39, Tryd.ntmps39
    go_wp2
    go_ret
    exact ⟨rvalid_eq (by first | (intro h; exact absurd h (by decide)) | (intro h; simp only [beq_iff_eq, bne_iff_ne, decide_eq_true_eq, ne_eq] at h; omega) | (intro h; omega)) (by intro h; first | (exfalso; omega) | (simp only [beq_iff_eq, bne_iff_ne, decide_eq_true_eq, ne_eq]; omega) | rfl), (Below.refl _ _).alloc (Nat.le_refl _) _⟩
  by_cases a5 : 255 < f2
  · go_enter Tryd.func39, Tryd.ntmps39
    go_wp2
    go_ret
    exact ⟨rvalid_eq (by first | (intro h; exact absurd h (by decide)) | (intro h; simp only [beq_iff_eq, bne_iff_ne, decide_eq_true_eq, ne_eq] at h; omega) | (intro h; omega)) (by intro h; first | (exfalso; omega) | (simp only [beq_iff_eq, bne_iff_ne, decide_eq_true_eq, ne_eq]; omega) | rfl), (Below.refl _ _).alloc (Nat.le_refl _) _⟩
  by_cases a6 : f3 < 0
  · go_enter Tryd.func39, Tryd.ntmps39
    go_wp2
    go_ret
    exact ⟨rvalid_eq (by first | (intro h; exact absurd h (by decide)) | (intro h; simp only [beq_iff_eq, bne_iff_ne, decide_eq_true_eq, ne_eq] at h; omega) | (intro h; omega)) (by intro h; first | (exfalso; omega) | (simp only [beq_iff_eq, bne_iff_ne, decide_eq_true_eq, ne_eq]; omega) | rfl), (Below.refl _ _).alloc (Nat.le_refl _) _⟩
  by_cases a7 : 255 < f3
  · go_enter Tryd.func39, Tryd.ntmps39
    go_wp2
    go_ret
    exact ⟨rvalid_eq (by first | (intro h; exact absurd h (by decide)) | (intro h; simp only [beq_iff_eq, bne_iff_ne, decide_eq_true_eq, ne_eq] at h; omega) | (intro h; omega)) (by intro h; first | (exfalso; omega) | (simp only [beq_iff_eq, bne_iff_ne, decide_eq_true_eq, ne_eq]; omega) | rfl), (Below.refl _ _).alloc (Nat.le_refl _) _⟩
  by_cases a8 : f4 < 0
  · go_enter Tryd.func39, Tryd.ntmps39
    go_wp2
    go_ret
    exact ⟨rvalid_eq (by first | (intro h; exact absurd h (by decide)) | (intro h; simp only [beq_iff_eq, bne_iff_ne, decide_eq_true_eq, ne_eq] at h; omega) | (intro h; omega)) (by intro h; first | (exfalso; omega) | (simp only [beq_iff_eq, bne_iff_ne, decide_eq_true_eq, ne_eq]; omega) | rfl), (Below.refl _ _).alloc (Nat.le_refl _) _⟩
  by_cases a9 : f5 < f4
  · go_enter Tryd.func39, Tryd.ntmps39
    go_wp2
    go_ret
    exact ⟨rvalid_eq (by first | (intro h; exact absurd h (by decide)) | (intro h; simp only [beq_iff_eq, bne_iff_ne, decide_eq_true_eq, ne_eq] at h; omega) | (intro h; omega)) (by intro h; first | (exfalso; omega) | (simp only [beq_iff_eq, bne_iff_ne, decide_eq_true_eq, ne_eq]; omega) | rfl), (Below.refl _ _).alloc (Nat.le_refl _) _⟩
  by_cases a10 : 50000000 < f5
  · go_enter Tryd.func39, Tryd.ntmps39
    go_wp2
    go_ret
    exact ⟨rvalid_eq (by first | (intro h; exact absurd h (by decide)) | (intro h; simp only [beq_iff_eq, bne_iff_ne, decide_eq_true_eq, ne_eq] at h; omega) | (intro h; omega)) (by intro h; first | (exfalso; omega) | (simp only [beq_iff_eq, bne_iff_ne, decide_eq_true_eq, ne_eq]; omega) | rfl), (Below.refl _ _).alloc (Nat.le_refl _) _⟩
  by_cases k3 : f1 = 3
  case pos =>
    subst k3
    by_cases b0 : 0 ≤ f6
    case neg =>
        go_enter Tryd.func39, Tryd.ntmps39
        go_wp2
        go_ret
        exact ⟨rvalid_eq (by first | (intro h; exact absurd h (by decide)) | (intro h; simp only [beq_iff_eq, bne_iff_ne, decide_eq_true_eq, ne_eq] at h; omega) | (intro h; omega)) (by intro h; first | (exfalso; omega) | (simp only [beq_iff_eq, bne_iff_ne, decide_eq_true_eq, ne_eq]; omega) | rfl), (Below.refl _ _).alloc (Nat.le_refl _) _⟩
    by_cases b1 : f6 ≤ 1000000
    case neg =>
        go_enter Tryd.func39, Tryd.ntmps39
        go_wp2
        go_ret
        exact ⟨rvalid_eq (by first | (intro h; exact absurd h (by decide)) | (intro h; simp only [beq_iff_eq, bne_iff_ne, decide_eq_true_eq, ne_eq] at h; omega) | (intro h; omega)) (by intro h; first | (exfalso; omega) | (simp only [beq_iff_eq, bne_iff_ne, decide_eq_true_eq, ne_eq]; omega) | rfl), (Below.refl _ _).alloc (Nat.le_refl _) _⟩
    by_cases b2 : f7 = 0
    case neg =>
        go_enter Tryd.func39, Tryd.ntmps39
        go_wp2
        go_ret
        exact ⟨rvalid_eq (by first | (intro h; exact absurd h (by decide)) | (intro h; simp only [beq_iff_eq, bne_iff_ne, decide_eq_true_eq, ne_eq] at h; omega) | (intro h; omega)) (by intro h; first | (exfalso; omega) | (simp only [beq_iff_eq, bne_iff_ne, decide_eq_true_eq, ne_eq]; omega) | rfl), (Below.refl _ _).alloc (Nat.le_refl _) _⟩
    go_enter Tryd.func39, Tryd.ntmps39
    go_wp2
    go_ret
    exact ⟨rvalid_eq (by first | (intro h; exact absurd h (by decide)) | (intro h; simp only [beq_iff_eq, bne_iff_ne, decide_eq_true_eq, ne_eq] at h; omega) | (intro h; omega)) (by intro h; first | (exfalso; omega) | (simp only [beq_iff_eq, bne_iff_ne, decide_eq_true_eq, ne_eq]; omega) | rfl), (Below.refl _ _).alloc (Nat.le_refl _) _⟩
  by_cases k4 : f1 = 4
  case pos =>
    subst k4
    by_cases b0 : f6 = 0
    case neg =>
        go_enter Tryd.func39, Tryd.ntmps39
        go_wp2
        go_ret
        exact ⟨rvalid_eq (by first | (intro h; exact absurd h (by decide)) | (intro h; simp only [beq_iff_eq, bne_iff_ne, decide_eq_true_eq, ne_eq] at h; omega) | (intro h; omega)) (by intro h; first | (exfalso; omega) | (simp only [beq_iff_eq, bne_iff_ne, decide_eq_true_eq, ne_eq]; omega) | rfl), (Below.refl _ _).alloc (Nat.le_refl _) _⟩
    by_cases b1 : 0 ≤ f7
    case neg =>
        go_enter Tryd.func39, Tryd.ntmps39
        go_wp2
        go_ret
        exact ⟨rvalid_eq (by first | (intro h; exact absurd h (by decide)) | (intro h; simp only [beq_iff_eq, bne_iff_ne, decide_eq_true_eq, ne_eq] at h; omega) | (intro h; omega)) (by intro h; first | (exfalso; omega) | (simp only [beq_iff_eq, bne_iff_ne, decide_eq_true_eq, ne_eq]; omega) | rfl), (Below.refl _ _).alloc (Nat.le_refl _) _⟩
    by_cases b2 : f7 ≤ 11
    case neg =>
        go_enter Tryd.func39, Tryd.ntmps39
        go_wp2
        go_ret
        exact ⟨rvalid_eq (by first | (intro h; exact absurd h (by decide)) | (intro h; simp only [beq_iff_eq, bne_iff_ne, decide_eq_true_eq, ne_eq] at h; omega) | (intro h; omega)) (by intro h; first | (exfalso; omega) | (simp only [beq_iff_eq, bne_iff_ne, decide_eq_true_eq, ne_eq]; omega) | rfl), (Below.refl _ _).alloc (Nat.le_refl _) _⟩
    by_cases b3 : f7 ≠ f0
    case neg =>
        go_enter Tryd.func39, Tryd.ntmps39
        go_wp2
        go_ret
        exact ⟨rvalid_eq (by first | (intro h; exact absurd h (by decide)) | (intro h; simp only [beq_iff_eq, bne_iff_ne, decide_eq_true_eq, ne_eq] at h; omega) | (intro h; omega)) (by intro h; first | (exfalso; omega) | (simp only [beq_iff_eq, bne_iff_ne, decide_eq_true_eq, ne_eq]; omega) | rfl), (Below.refl _ _).alloc (Nat.le_refl _) _⟩
    go_enter Tryd.func39, Tryd.ntmps39
    go_wp2
    go_ret
    exact ⟨rvalid_eq (by first | (intro h; exact absurd h (by decide)) | (intro h; simp only [beq_iff_eq, bne_iff_ne, decide_eq_true_eq, ne_eq] at h; omega) | (intro h; omega)) (by intro h; first | (exfalso; omega) | (simp only [beq_iff_eq, bne_iff_ne, decide_eq_true_eq, ne_eq]; omega) | rfl), (Below.refl _ _).alloc (Nat.le_refl _) _⟩
  by_cases b0 : f6 = 0
  case neg =>
      go_enter Tryd.func39, Tryd.ntmps39
      go_wp2
      go_ret
      exact ⟨rvalid_eq (by first | (intro h; exact absurd h (by decide)) | (intro h; simp only [beq_iff_eq, bne_iff_ne, decide_eq_true_eq, ne_eq] at h; omega) | (intro h; omega)) (by intro h; first | (exfalso; omega) | (simp only [beq_iff_eq, bne_iff_ne, decide_eq_true_eq, ne_eq]; omega) | rfl), (Below.refl _ _).alloc (Nat.le_refl _) _⟩
  by_cases b1 : f7 = 0
  case neg =>
      go_enter Tryd.func39, Tryd.ntmps39
      go_wp2
      go_ret
      exact ⟨rvalid_eq (by first | (intro h; exact absurd h (by decide)) | (intro h; simp only [beq_iff_eq, bne_iff_ne, decide_eq_true_eq, ne_eq] at h; omega) | (intro h; omega)) (by intro h; first | (exfalso; omega) | (simp only [beq_iff_eq, bne_iff_ne, decide_eq_true_eq, ne_eq]; omega) | rfl), (Below.refl _ _).alloc (Nat.le_refl _) _⟩
  go_enter Tryd.func39, Tryd.ntmps39
  go_wp2
  go_ret
  exact ⟨rvalid_eq (by first | (intro h; exact absurd h (by decide)) | (intro h; simp only [beq_iff_eq, bne_iff_ne, decide_eq_true_eq, ne_eq] at h; omega) | (intro h; omega)) (by intro h; first | (exfalso; omega) | (simp only [beq_iff_eq, bne_iff_ne, decide_eq_true_eq, ne_eq]; omega) | rfl), (Below.refl _ _).alloc (Nat.le_refl _) _⟩
end Go.Proofs.YtnabgijdbcdpmaaDoor

namespace Go.Proofs.YtnabgijdbcdpmaaDoor
open Go.RowKit Go.Rg Go.Proofs.YtnabgijdbcdpmaaDoor.PRightsMatchesReference Go.Proofs.YtnabgijdbcdpmaaDoorW.PrintWords
set_option linter.unusedVariables false
set_option linter.unusedSimpArgs false

theorem needOk_iff {n : List Int} : needOk n = true ↔ 1 ≤ n.length ∧ n.length ≤ 4 ∧ (∀ i (h : i < n.length), 0 ≤ n[i] ∧ n[i] ≤ 11) ∧ ∀ i (h : i + 1 < n.length), n[i] < n[i + 1] := by
  unfold needOk
  simp only [Bool.and_eq_true, inR, decide_eq_true_eq]
  rw [rising_iff, List.all_eq_true]
  constructor
  · rintro ⟨h1, h2, h3⟩
    refine ⟨by omega, by omega, fun i hi => ?_, h2⟩
    have := h3 _ (List.getElem_mem hi)
    simpa [isWk, inR] using this
  · rintro ⟨h1, h2, h3, h4⟩
    refine ⟨by omega, h4, fun x hx => ?_⟩
    obtain ⟨i, hi, rfl⟩ := List.mem_iff_getElem.1 hx
    simpa [isWk, inR] using h3 i hi
theorem vldW_iff {wt : Wt} : vldW wt = true ↔ (0 ≤ wt.te ∧ wt.te ≤ 7 ∧ 0 ≤ wt.cl ∧ wt.cl ≤ 7 ∧ 0 ≤ wt.at_ ∧ wt.at_ ≤ 50000000 ∧ 1 ≤ wt.us ∧ wt.us ≤ 1000000 ∧ 1 ≤ (wt.needs.length : Int) ∧ (wt.needs.length : Int) ≤ 4) ∧ ∀ n ∈ wt.needs, needOk n = true := by
  unfold vldW inR
  simp only [Bool.and_eq_true, decide_eq_true_eq, List.all_eq_true]
  constructor
  · rintro ⟨⟨a, b⟩, ⟨c, d⟩, ⟨e, f⟩, ⟨g, h⟩, ⟨i, j⟩, k⟩; exact ⟨⟨a, b, c, d, e, f, g, h, i, j⟩, k⟩
  · rintro ⟨⟨a, b, c, d, e, f, g, h, i, j⟩, k⟩; exact ⟨⟨a, b⟩, ⟨c, d⟩, ⟨e, f⟩, ⟨g, h⟩, ⟨i, j⟩, k⟩
theorem rvw_no {wt : Wt} (h : vldW wt = true → False) : Ending.returned (.bool false) = .returned (.bool (vldW wt)) := ret_bool (by rw [eq_comm, Bool.eq_false_iff]; exact h)

/-- The first numbers of a list are works, and ascend. -/
def nk (n : List Int) (j : Nat) : Prop := (∀ i (h : i < n.length), i < j → 0 ≤ n[i] ∧ n[i] ≤ 11) ∧ ∀ i (h : i + 1 < n.length), i + 1 < j → n[i] < n[i + 1]
theorem nk.step {n : List Int} {j : Nat} (h : nk n j) (hj : j < n.length) (h0 : 0 ≤ n[j]) (h1 : n[j] ≤ 11) (h2 : ∀ (h : 0 < j), n[j - 1] < n[j]) : nk n (j + 1) := by
  refine ⟨fun i hi hij => ?_, fun i hi hij => ?_⟩
  · by_cases e : i = j
    · subst e; exact ⟨h0, h1⟩
    · exact h.1 i hi (by omega)
  · by_cases e : i + 1 = j
    · subst e
      have := h2 (by omega)
      simpa using this
    · exact h.2 i hi (by omega)

set_option maxRecDepth 100000 in
set_option maxHeartbeats 4000000 in
theorem rvw_any (wt : Wt) (WA : Option Addr) (wn : Nat) (w : World) (hw : (Kd.slice 3 (Kd.int .i64)).C w WA wt.needs.length wt.needs) :
    Calls Tryd.prog 16 #[wtv wt WA wn] w fun e w' => e = .returned (.bool (vldW wt)) ∧ Below w.heap.size w w' := by
  have hv := @vldW_iff wt
  have hmm := max_len hw
  have HV := Lib.hid hv; clear hv
  unfold wtv
  by_cases a0 : wt.te < 0
  · clear hw
    go_enter Tryd.func16, Tryd.ntmps16
    go_wp2
    go_ret
    exact ⟨rvw_no (fun h => by have := (HV.out.1 h).1; omega), (Below.refl _ _).alloc (Nat.le_refl _) _⟩
  by_cases a1 : 7 < wt.te
  · clear hw
    go_enter Tryd.func16, Tryd.ntmps16
    go_wp2
    go_ret
    exact ⟨rvw_no (fun h => by have := (HV.out.1 h).1; omega), (Below.refl _ _).alloc (Nat.le_refl _) _⟩
  by_cases a2 : wt.cl < 0
  · clear hw
    go_enter Tryd.func16, Tryd.ntmps16
    go_wp2
    go_ret
    exact ⟨rvw_no (fun h => by have := (HV.out.1 h).1; omega), (Below.refl _ _).alloc (Nat.le_refl _) _⟩
  by_cases a3 : 7 < wt.cl
  · clear hw
    go_enter Tryd.func16, Tryd.ntmps16
    go_wp2
    go_ret
    exact ⟨rvw_no (fun h => by have := (HV.out.1 h).1; omega), (Below.refl _ _).alloc (Nat.le_refl _) _⟩
  by_cases a4 : wt.at_ < 0
  · clear hw
    go_enter Tryd.func16, Tryd.ntmps16
    go_wp2
    go_ret
    exact ⟨rvw_no (fun h => by have := (HV.out.1 h).1; omega), (Below.refl _ _).alloc (Nat.le_refl _) _⟩
  by_cases a5 : 50000000 < wt.at_
  · clear hw
    go_enter Tryd.func16, Tryd.ntmps16
    go_wp2
    go_ret
    exact ⟨rvw_no (fun h => by have := (HV.out.1 h).1; omega), (Below.refl _ _).alloc (Nat.le_refl _) _⟩
  by_cases a6 : wt.us < 1
  · clear hw
    go_enter Tryd.func16, Tryd.ntmps16
    go_wp2
    go_ret
    exact ⟨rvw_no (fun h => by have := (HV.out.1 h).1; omega), (Below.refl _ _).alloc (Nat.le_refl _) _⟩
  by_cases a7 : 1000000 < wt.us
  · clear hw
    go_enter Tryd.func16, Tryd.ntmps16
    go_wp2
    go_ret
    exact ⟨rvw_no (fun h => by have := (HV.out.1 h).1; omega), (Below.refl _ _).alloc (Nat.le_refl _) _⟩
  by_cases a8 : (wt.needs.length : Int) < 1
  · clear hw
    go_enter Tryd.func16, Tryd.ntmps16
    go_wp2
    go_ret
    exact ⟨rvw_no (fun h => by have := (HV.out.1 h).1; omega), (Below.refl _ _).alloc (Nat.le_refl _) _⟩
  by_cases a9 : 4 < (wt.needs.length : Int)
  · clear hw
    go_enter Tryd.func16, Tryd.ntmps16
    go_wp2
    go_ret
    exact ⟨rvw_no (fun h => by have := (HV.out.1 h).1; omega), (Below.refl _ _).alloc (Nat.le_refl _) _⟩
  have hb := (Below.refl w.heap.size w).alloc (Nat.le_refl _) (.cells (wtc wt WA wn) 29)
  have hk0 := heap_new (o := .cells (wtc wt WA wn) 29) (W := w) rfl
  have hz0 : w.heap.size + 1 ≤ (w.alloc (.cells (wtc wt WA wn) 29)).heap.size := by simp
  unfold wtc at hb hk0 hz0
  have HB := Lib.hid (And.intro hb (And.intro hk0 (And.intro hz0 hw))); clear hb hk0 hz0 hw
  go_enter Tryd.func16, Tryd.ntmps16
  go_wp2_with fail
  generalize w.alloc (.cells #[.int .i64 wt.te, .int .i64 wt.cl, .int .i64 wt.at_, .int .i64 wt.us, .slice WA wt.needs.length wn] 29) = w1 at *
  have hIN : (0 ≤ wt.te ∧ wt.te ≤ 7 ∧ 0 ≤ wt.cl ∧ wt.cl ≤ 7 ∧ 0 ≤ wt.at_ ∧ wt.at_ ≤ 50000000 ∧ 1 ≤ wt.us ∧ wt.us ≤ 1000000 ∧ 1 ≤ (wt.needs.length : Int) ∧ (wt.needs.length : Int) ≤ 4) := by omega
  have HIN := Lib.hid hIN; clear hIN
  clear a0 a1 a2 a3 a4 a5 a6 a7 a8
  go_loopw [3] (fun iv wr => ∃ k : Nat, iv = .int .i64 k ∧ k ≤ wt.needs.length ∧ Hid ((∀ n ∈ wt.needs.take k, needOk n = true) ∧ Below (w.heap.size + 1) w1 wr)) (fun iv wr => wt.needs.length - (intOf iv).toNat)
  case atStart => exact ⟨0, rfl, Nat.zero_le _, Lib.hid ⟨fun n hn => by simp at hn, Below.refl _ _⟩⟩
  case round =>
    obtain ⟨k, rfl, hk, HI⟩ := hrel
    have HBW := Lib.hid (HB.out.1.trans (HI.out.2.mono (by omega)))
    have hk0 := (HI.out.2.block w.heap.size (by omega)).trans HB.out.2.1
    have d3 : wr.cell? ⟨w.heap.size, 4, none⟩ = some (.slice WA wt.needs.length wn) := cell_of hk0 rfl
    clear hk0
    by_cases hlt : k < wt.needs.length
    · have hltI : (k : Int) < (wt.needs.length : Int) := by omega
      obtain ⟨ad, A0, c0, e, hx, hc0, hC0⟩ := at_L2 (Kd.C_below HB.out.2.2.2 HBW.out) (k : Int) (by omega) hltI
      cases e
      simp only [Int.toNat_natCast] at hx
      have hrd : rd_L2 wt.needs (k : Int) = wt.needs[k] := by unfold rd_L2; simp [hlt]
      rw [hrd] at hx hc0 hC0
      clear hrd
      have htk : wt.needs.take (k + 1) = wt.needs.take k ++ [wt.needs[k]] := List.take_succ_eq_append_getElem hlt
      have hmem : needOk wt.needs[k] = false → vldW wt = true → False := fun h hv => by
        have := (HV.out.1 hv).2 _ (List.getElem_mem hlt)
        rw [h] at this; cases this
      have hmn := max_len hC0
      have HTK := Lib.hid (And.intro htk hmem); clear htk hmem
      generalize wt.needs[k] = nd at *
      have hnok := @needOk_iff nd
      have HNK := Lib.hid hnok; clear hnok
      have HC := Lib.hid hC0; clear hC0
      by_cases b0 : (nd.length : Int) < 1
      · have HNO := Lib.hid (HTK.out.2 (by rw [Bool.eq_false_iff]; intro h; have := HNK.out.1 h; omega))
        go_wp2_with fail
        go_ret
        exact ⟨rvw_no HNO.out, HBW.out⟩
      by_cases b1 : 4 < (nd.length : Int)
      · have HNO := Lib.hid (HTK.out.2 (by rw [Bool.eq_false_iff]; intro h; have := HNK.out.1 h; omega))
        go_wp2_with fail
        go_ret
        exact ⟨rvw_no HNO.out, HBW.out⟩
      go_wp2_with fail
      clear hx d3
      go_loopw [5] (fun jv wr2 => ∃ j : Nat, jv = .int .i64 j ∧ j ≤ nd.length ∧ Hid (nk nd j ∧ Below wr.heap.size wr wr2)) (fun jv wr2 => nd.length - (intOf jv).toNat)
      case atStart => exact ⟨0, rfl, Nat.zero_le _, Lib.hid ⟨⟨fun _ _ h => absurd h (Nat.not_lt_zero _), fun _ _ h => absurd h (Nat.not_lt_zero _)⟩, Below.refl _ _⟩⟩
      case round =>
        obtain ⟨j, rfl, hj, HJ⟩ := hrel
        have HBW2 := Lib.hid (HBW.out.trans (HJ.out.2.mono HBW.out.size))
        by_cases jl : j < nd.length
        · have jlI : (j : Int) < (nd.length : Int) := by omega
          obtain ⟨ed, e, hy⟩ := Kd.at_int (Kd.C_below HC.out HJ.out.2) (j : Int) (by omega) jlI
          cases e
          simp only [Int.toNat_natCast] at hy
          rw [rd_get jl] at hy
          have HX0 : Hid (needOk nd = true → 0 ≤ nd[j] ∧ nd[j] ≤ 11) := Lib.hid fun h => (HNK.out.1 h).2.2.1 j jl
          have HX1 : Hid (∀ (h0 : 0 < j), needOk nd = true → nd[j - 1] < nd[j]) := Lib.hid fun h0 h => by
            have := (HNK.out.1 h).2.2.2 (j - 1) (by omega)
            simpa [show j - 1 + 1 = j by omega] using this
          have HX2 : Hid (0 ≤ nd[j] → nd[j] ≤ 11 → (∀ (h0 : 0 < j), nd[j - 1] < nd[j]) → nk nd (j + 1)) := Lib.hid fun h0 h1 h2 => HJ.out.1.step jl h0 h1 h2
          generalize nd[j] = x at *
          have hyX := cell_ext hy
          by_cases c0 : x < 0
          · have HNO := Lib.hid (HTK.out.2 (by rw [Bool.eq_false_iff]; intro h; have := HX0.out h; omega))
            go_wp2_with fail
            refine region_ext (by kernel_rfl) (by kernel_rfl) ?_
            repeat (go_big_quiet_step (fail))
            refine wpQuiet_nil ?_
            rintro W' ⟨X, rfl⟩
            go_wp2_with fail
            go_ret
            exact ⟨rvw_no HNO.out, HBW2.out.trans (X.2.below (fun _ _ h => h) HBW2.out.size)⟩
          have hd0 : decide (x < 0) = false := by simp; omega
          by_cases c1 : 11 < x
          · have HNO := Lib.hid (HTK.out.2 (by rw [Bool.eq_false_iff]; intro h; have := HX0.out h; omega))
            go_wp2_with fail
            refine region_ext (by kernel_rfl) (by kernel_rfl) ?_
            repeat (go_big_quiet_step (fail))
            refine wpQuiet_nil ?_
            rintro W' ⟨X, rfl⟩
            go_wp2_with fail
            go_ret
            exact ⟨rvw_no HNO.out, HBW2.out.trans (X.2.below (fun _ _ h => h) HBW2.out.size)⟩
          have hd1 : decide (11 < x) = false := by simp; omega
          by_cases j0 : j = 0
          · have HNX := Lib.hid (HX2.out (by omega) (by omega) (fun h => absurd h (by omega)))
            have hdj : decide (0 < j) = false := by simp; omega
            have hdk : decide ((0 : Int) < (j : Int)) = false := by simp; omega
            clear j0
            go_wp2_with fail
            refine region_ext (by kernel_rfl) (by kernel_rfl) ?_
            repeat (go_big_quiet_step (fail))
            refine wpQuiet_nil ?_
            rintro W' ⟨X, rfl⟩
            go_wp2_with fail
            go_roundw
            case rel => exact ⟨j + 1, by go_num, by omega, Lib.hid ⟨HNX.out, HJ.out.2.trans (X.2.below (fun _ _ h => h) HJ.out.2.size)⟩⟩
            case measure => simp [intOf]; omega
          · have hj1 : 0 < j := by omega
            have hj1I : (0 : Int) < (j : Int) := by omega
            have hm : j - 1 < nd.length := by omega
            obtain ⟨ed2, e, hz⟩ := Kd.at_int (Kd.C_below HC.out HJ.out.2) ((j : Int) - 1) (by omega) (by omega)
            cases e
            have hrd : rd nd ((j : Int) - 1) = nd[j - 1] := by rw [show (j : Int) - 1 = ((j - 1 : Nat) : Int) by omega]; exact rd_get hm
            rw [hrd] at hz
            clear hrd
            have HX3 := Lib.hid (HX1.out hj1)
            have HX4 : Hid (0 ≤ x → x ≤ 11 → nd[j - 1] < x → nk nd (j + 1)) := Lib.hid fun h0 h1 h2 => HX2.out h0 h1 (fun _ => h2)
            generalize nd[j - 1] = y at *
            have hz2 := hz
            rw [show ((j : Int) - 1).toNat = j - 1 by omega] at hz2
            have hzX := cell_ext hz
            have hzY := cell_ext hz2
            have hj0 : (0 : Int) ≤ (j : Int) - 1 := by omega
            have hj2 : (j : Int) - 1 < (nd.length : Int) := by omega
            have hwr : wrap64 ((j : Int) - 1) = (j : Int) - 1 := wrap_in (by omega) (by omega)
            by_cases c2 : x ≤ y
            · have HNO := Lib.hid (HTK.out.2 (by rw [Bool.eq_false_iff]; intro h; have := HX3.out h; omega))
              go_wp2_with fail
              refine region_ext (by kernel_rfl) (by kernel_rfl) ?_
              repeat (go_big_quiet_step (fail))
              refine wpQuiet_nil ?_
              rintro W' ⟨X, rfl⟩
              go_wp2_with fail
              go_ret
              exact ⟨rvw_no HNO.out, HBW2.out.trans (X.2.below (fun _ _ h => h) HBW2.out.size)⟩
            have hd2 : decide (x ≤ y) = false := by simp; omega
            have HNX := Lib.hid (HX4.out (by omega) (by omega) (by omega))
            go_wp2_with fail
            refine region_ext (by kernel_rfl) (by kernel_rfl) ?_
            repeat (go_big_quiet_step (fail))
            refine wpQuiet_nil ?_
            rintro W' ⟨X, rfl⟩
            go_wp2_with fail
            go_roundw
            case rel => exact ⟨j + 1, by go_num, by omega, Lib.hid ⟨HNX.out, HJ.out.2.trans (X.2.below (fun _ _ h => h) HJ.out.2.size)⟩⟩
            case measure => simp [intOf]; omega
        · obtain rfl : j = nd.length := by omega
          have HOK := Lib.hid (HNK.out.2 ⟨by omega, by omega, fun i h => HJ.out.1.1 i h h, fun i h => HJ.out.1.2 i h (by omega)⟩)
          go_wp2_with fail
          go_roundw
          case rel => exact ⟨k + 1, by go_num, by omega, Lib.hid ⟨fun n hn => by
            rw [HTK.out.1, List.mem_append, List.mem_singleton] at hn
            rcases hn with hn | rfl
            · exact HI.out.1 n hn
            · exact HOK.out, HI.out.2.trans (HJ.out.2.mono (Nat.le_trans HB.out.2.2.1 HI.out.2.size))⟩⟩
          case measure => simp [intOf]; omega
    · obtain rfl : k = wt.needs.length := by omega
      have HF := Lib.hid (show vldW wt = true from HV.out.2 ⟨HIN.out, by have := HI.out.1; rwa [List.take_length] at this⟩)
      go_wp2_with fail
      go_ret
      exact ⟨ret_bool HF.out.symm, HBW.out⟩
end Go.Proofs.YtnabgijdbcdpmaaDoor

namespace Go.Proofs.YtnabgijdbcdpmaaDoor
open Go.RowKit Go.Rg Go.Proofs.YtnabgijdbcdpmaaDoor.PRightsMatchesReference Go.Proofs.YtnabgijdbcdpmaaDoorW.PrintWords
set_option linter.unusedVariables false
set_option linter.unusedSimpArgs false

theorem rbit_on {x k : Int} (hx : 0 ≤ x) (hx2 : x ≤ 255) : ((x / 2 ^ k.toNat) % 2 == 1) = bitOn x k := by
  obtain ⟨n, rfl⟩ := Int.eq_ofNat_of_zero_le hx
  unfold bitOn
  have h1 : ((n : Int) / 2 ^ k.toNat) = ((n / 2 ^ k.toNat : Nat) : Int) := by simp
  rw [h1, Nat.testBit_eq_decide_div_mod_eq, Int.toNat_natCast]
  generalize n / 2 ^ k.toNat = m
  rw [beqD]
  exact decide_eq_decide.2 (by omega)

set_option maxRecDepth 100000 in
set_option maxHeartbeats 2000000 in
theorem rapplies_any (c : Cl) (wt : Wt) (WA : Option Addr) (wn : Nat) (w : World) (hw : (Kd.slice 3 (Kd.int .i64)).C w WA wt.needs.length wt.needs) :
    Calls Tryd.prog 18 #[clv c, wtv wt WA wn] w fun e w' => e = .returned (.bool (applies c wt)) ∧ Below w.heap.size w w' := by
  obtain ⟨hb, hk0, hk1, hsz⟩ := two_box w (clc c) (wtc wt WA wn) 40 29
  have h1 := rvalid_any c ((w.alloc (.cells (clc c) 40)).alloc (.cells (wtc wt WA wn) 29))
  have h2 := fun (W : World) (hW : Below w.heap.size w W) => rvw_any wt WA wn W (Kd.C_below hw hW)
  have hv : applies c wt = (vld c && (vldW wt && (bitOn c.f2 wt.te && (bitOn c.f3 wt.cl && inR wt.at_ c.f4 c.f5)))) := rfl
  rw [hv]
  have hbd1 := vldW_bd (wt := wt)
  have hbd2 := vld_bd (c := c)
  have hq1 : ∀ (h : 0 ≤ c.f2) (h' : c.f2 ≤ 255), ((c.f2 / 2 ^ wt.te.toNat) % 2 == 1) = bitOn c.f2 wt.te := fun h h' => rbit_on h h'
  have hq2 : ∀ (h : 0 ≤ c.f3) (h' : c.f3 ≤ 255), ((c.f3 / 2 ^ wt.cl.toNat) % 2 == 1) = bitOn c.f3 wt.cl := fun h h' => rbit_on h h'
  have hi : inR wt.at_ c.f4 c.f5 = (decide (c.f4 ≤ wt.at_) && decide (wt.at_ ≤ c.f5)) := rfl
  rw [hi]
  unfold wtv clv at *
  unfold wtc clc at *
  have H1 := Lib.hid h1; clear h1
  have H2 := Lib.hid h2; clear h2 hv hi
  have HD1 := Lib.hid hbd1; clear hbd1
  have HD2 := Lib.hid hbd2; clear hbd2
  have HQ1 := Lib.hid hq1; clear hq1
  have HQ2 := Lib.hid hq2; clear hq2
  generalize bitOn c.f2 wt.te = b3 at *
  generalize bitOn c.f3 wt.cl = b4 at *
  generalize vldW wt = b2 at *
  generalize vld c = b1 at *
  cases b1
  · go_enter Tryd.func18, Tryd.ntmps18
    have HB := Lib.hid hb; clear hb
    go_wp2_with fail
    refine H1.out.mono ?_
    rintro e w1 ⟨rfl, hb1⟩
    have HB1 := Lib.hid (HB.out.trans (hb1.mono HB.out.size)); clear hb1 hk0 hk1
    go_wp2_with fail
    go_ret
    exact ⟨rfl, HB1.out⟩
  · obtain ⟨p0, p1, p2, p3, p4, p5, p6, p7⟩ := HD2.out rfl
    have r1 := HQ1.out p4 p5
    have r2 := HQ2.out p6 p7
    clear HQ1 HQ2 HD2 p0 p1 p2 p3
    cases b2
    · go_enter Tryd.func18, Tryd.ntmps18
      have HB := Lib.hid hb; clear hb
      go_wp2_with fail
      refine H1.out.mono ?_
      rintro e w1 ⟨rfl, hb1⟩
      have c0 := (hb1.cell (p := ⟨w.heap.size + 1, 0, none⟩) (by simp)).trans (cell_of (o := 0) hk1 rfl)
      have c1 := (hb1.cell (p := ⟨w.heap.size + 1, 1, none⟩) (by simp)).trans (cell_of (o := 1) hk1 rfl)
      have c2 := (hb1.cell (p := ⟨w.heap.size + 1, 2, none⟩) (by simp)).trans (cell_of (o := 2) hk1 rfl)
      have c3 := (hb1.cell (p := ⟨w.heap.size + 1, 3, none⟩) (by simp)).trans (cell_of (o := 3) hk1 rfl)
      have c4 := (hb1.cell (p := ⟨w.heap.size + 1, 4, none⟩) (by simp)).trans (cell_of (o := 4) hk1 rfl)
      have HB1 := Lib.hid (HB.out.trans (hb1.mono HB.out.size)); clear hb1 hk0 hk1 r1 r2
      go_wp2_with fail
      refine (H2.out _ HB1.out).mono ?_
      rintro e w2 ⟨rfl, hb2⟩
      have HB2 := Lib.hid (HB1.out.trans (hb2.mono HB1.out.size)); clear hb2 c0 c1 c2 c3 c4
      go_wp2_with fail
      go_ret
      exact ⟨rfl, HB2.out⟩
    · obtain ⟨s0, s1, s2, s3, s4, s5, s6, s7⟩ := HD1.out rfl
      clear HD1
      go_enter Tryd.func18, Tryd.ntmps18
      have HB := Lib.hid hb; clear hb
      have HR1 := Lib.hid r1; clear r1
      have HR2 := Lib.hid r2; clear r2
      go_wp2_with fail
      refine H1.out.mono ?_
      rintro e w1 ⟨rfl, hb1⟩
      have c0 := (hb1.cell (p := ⟨w.heap.size + 1, 0, none⟩) (by simp)).trans (cell_of (o := 0) hk1 rfl)
      have c1 := (hb1.cell (p := ⟨w.heap.size + 1, 1, none⟩) (by simp)).trans (cell_of (o := 1) hk1 rfl)
      have c2 := (hb1.cell (p := ⟨w.heap.size + 1, 2, none⟩) (by simp)).trans (cell_of (o := 2) hk1 rfl)
      have c3 := (hb1.cell (p := ⟨w.heap.size + 1, 3, none⟩) (by simp)).trans (cell_of (o := 3) hk1 rfl)
      have c4 := (hb1.cell (p := ⟨w.heap.size + 1, 4, none⟩) (by simp)).trans (cell_of (o := 4) hk1 rfl)
      have hk0' := (hb1.block w.heap.size (by simp; omega)).trans hk0
      have hk1' := (hb1.block (w.heap.size + 1) (by simp)).trans hk1
      have HB1 := Lib.hid (HB.out.trans (hb1.mono HB.out.size)); clear hb1 hk0 hk1
      have K0 := Lib.hid hk0'; clear hk0'
      have K1 := Lib.hid hk1'; clear hk1'
      go_wp2_with fail
      refine (H2.out _ HB1.out).mono ?_
      rintro e w2 ⟨rfl, hb2⟩
      have hk0' := (hb2.block w.heap.size (Array.getElem?_eq_some_iff.1 K0.out).1).trans K0.out
      have hk1' := (hb2.block (w.heap.size + 1) (Array.getElem?_eq_some_iff.1 K1.out).1).trans K1.out
      have HB2 := Lib.hid (HB1.out.trans (hb2.mono HB1.out.size)); clear hb2 c0 c1 c2 c3 c4
      have d2 := cell_of (o := 2) hk0' rfl
      have d3 := cell_of (o := 3) hk0' rfl
      have d4 := cell_of (o := 4) hk0' rfl
      have d5 := cell_of (o := 5) hk0' rfl
      have d6 := cell_of (o := 0) hk1' rfl
      have d7 := cell_of (o := 1) hk1' rfl
      have d8 := cell_of (o := 2) hk1' rfl
      clear K0 K1 hk0' hk1'
      have r1 := HR1.out
      have r2 := HR2.out
      clear HR1 HR2
      have hn1 : (0 : Int) ≤ c.f2 / 2 ^ wt.te.toNat := Int.ediv_nonneg p4 (Int.pow_nonneg (by decide))
      have hn2 : (0 : Int) ≤ c.f3 / 2 ^ wt.cl.toNat := Int.ediv_nonneg p6 (Int.pow_nonneg (by decide))
      cases b3
      · go_wp2_with fail
        go_ret
        exact ⟨rfl, HB2.out⟩
      · cases b4
        · go_wp2_with fail
          go_ret
          exact ⟨rfl, HB2.out⟩
        · by_cases q4 : c.f4 ≤ wt.at_
          · have hd : decide (c.f4 ≤ wt.at_) = true := by simpa using q4
            go_wp2_with fail
            go_ret
            exact ⟨ret_bool (by rw [hd]; rfl), HB2.out⟩
          · have hd : decide (c.f4 ≤ wt.at_) = false := by simpa using q4
            go_wp2_with fail
            go_ret
            exact ⟨ret_bool (by rw [hd]; rfl), HB2.out⟩
end Go.Proofs.YtnabgijdbcdpmaaDoor
