/- Rights: merged texts (Xb Pl Va Ix Ixf Ap Cl Xi Vb Vc Vd Ve Vf Vg Bk): lemmas and contracts of functions that the laws reach. -/
import Derived.Test.YtnabgijdbcdpmaaDoorProg
import Derived.Below
import Derived.Deep.Draws
import Derived.Deep.AppendLies
import Derived.Maps.AppendAt
import Derived.OwnWalk
import Derived.Laws.BytesArg
import Derived.Laws.MakeOwn
import Derived.Laws.OwnMore
import Derived.Deep.OwnRows
import Derived.Tactics
import Derived.Lib.ConvBytes
import Derived.Laws.Slices
import Derived.WalkKit
import Derived.KernelRfl
import Derived.RowKit3
import Derived.Deep.LoopGhost
import Derived.Deep.QuietTactic
import Derived.BigQuiet
import Derived.WideLaws
import Derived.Deep.DeepCutAuto
import Derived.Deep.CutBlock
import Derived.Deep.RegionHeld3
import Derived.Laws.Rows
import Derived.Lib.AppendStr
import Derived.ArgAppend
import Derived.Laws.IdiomCopy
import Derived.OrdersHeld
import Derived.Laws.BitsLemmas
import Derived.RowKit
import Derived.Test.YtnabgijdbcdpmaaDoorWWords
import Derived.Test.YtnabgijdbcdpmaaDoorZa
import Derived.WalkLawsBesides
import Derived.WalkSpells
import Derived.Outline
import Derived.Lib.Hide
namespace Go.Proofs.YtnabgijdbcdpmaaDoor.PRightsMatchesReference
open Go.RowKit Go.Proofs.YtnabgijdbcdpmaaDoorW.PrintWords
set_option linter.unusedVariables false
set_option linter.unusedSimpArgs false

theorem info3 : (Tryd.prog.info? 3).map (fun i => (i.zero, i.size, i.bytes)) = some (some (.int .i64 0), 1, 8) := by kernel_rfl
theorem info23 : (Tryd.prog.info? 23).map (fun i => (i.zero, i.size, i.bytes)) = some (some (.slice none 0 0), 1, 24) := by kernel_rfl
theorem info40 : (Tryd.prog.info? 40).map (fun i => (i.zero, i.size, i.bytes)) = some (some (.agg #[(.int .i64 0), (.int .i64 0), (.int .i64 0), (.int .i64 0), (.int .i64 0), (.int .i64 0), (.int .i64 0), (.int .i64 0)]), 8, 64) := by kernel_rfl
-- the values' own types
/-! #### struct type 40 -/
structure S40 where
  f0 : Int
  f1 : Int
  f2 : Int
  f3 : Int
  f4 : Int
  f5 : Int
  f6 : Int
  f7 : Int
def z40 : S40 := ⟨(0 : Int), (0 : Int), (0 : Int), (0 : Int), (0 : Int), (0 : Int), (0 : Int), (0 : Int)⟩
def k40 : Kd S40 := Kd.iso (Kd.pair (Kd.int .i64) (Kd.pair (Kd.int .i64) (Kd.pair (Kd.int .i64) (Kd.pair (Kd.int .i64) (Kd.pair (Kd.int .i64) (Kd.pair (Kd.int .i64) (Kd.pair (Kd.int .i64) (Kd.int .i64)))))))) (fun x : S40 => (x.f0, x.f1, x.f2, x.f3, x.f4, x.f5, x.f6, x.f7))
theorem k40_open {w : World} {x : S40} {cs : List Value} (h : k40.K w x cs) : cs = [.int .i64 x.f0, .int .i64 x.f1, .int .i64 x.f2, .int .i64 x.f3, .int .i64 x.f4, .int .i64 x.f5, .int .i64 x.f6, .int .i64 x.f7] := by
  obtain ⟨_, _, rfl, rfl, ⟨_, _, rfl, rfl, ⟨_, _, rfl, rfl, ⟨_, _, rfl, rfl, ⟨_, _, rfl, rfl, ⟨_, _, rfl, rfl, ⟨_, _, rfl, rfl, rfl⟩⟩⟩⟩⟩⟩⟩ := h
  exact rfl
theorem k40_openM {w : World} {base : Nat} {ok : Nat → Prop} {x : S40} {cs : List Value} (h : k40.M w base ok x cs) : cs = [.int .i64 x.f0, .int .i64 x.f1, .int .i64 x.f2, .int .i64 x.f3, .int .i64 x.f4, .int .i64 x.f5, .int .i64 x.f6, .int .i64 x.f7] := by
  obtain ⟨_, _, rfl, rfl, ⟨_, _, rfl, rfl, ⟨_, _, rfl, rfl, ⟨_, _, rfl, rfl, ⟨_, _, rfl, rfl, ⟨_, _, rfl, rfl, ⟨_, _, rfl, rfl, rfl⟩⟩⟩⟩⟩⟩⟩ := h
  exact rfl
theorem k40_mk (w : World) (x : S40)  : k40.K w x [.int .i64 x.f0, .int .i64 x.f1, .int .i64 x.f2, .int .i64 x.f3, .int .i64 x.f4, .int .i64 x.f5, .int .i64 x.f6, .int .i64 x.f7] := ⟨[.int .i64 x.f0], [.int .i64 x.f1, .int .i64 x.f2, .int .i64 x.f3, .int .i64 x.f4, .int .i64 x.f5, .int .i64 x.f6, .int .i64 x.f7], rfl, rfl, ⟨[.int .i64 x.f1], [.int .i64 x.f2, .int .i64 x.f3, .int .i64 x.f4, .int .i64 x.f5, .int .i64 x.f6, .int .i64 x.f7], rfl, rfl, ⟨[.int .i64 x.f2], [.int .i64 x.f3, .int .i64 x.f4, .int .i64 x.f5, .int .i64 x.f6, .int .i64 x.f7], rfl, rfl, ⟨[.int .i64 x.f3], [.int .i64 x.f4, .int .i64 x.f5, .int .i64 x.f6, .int .i64 x.f7], rfl, rfl, ⟨[.int .i64 x.f4], [.int .i64 x.f5, .int .i64 x.f6, .int .i64 x.f7], rfl, rfl, ⟨[.int .i64 x.f5], [.int .i64 x.f6, .int .i64 x.f7], rfl, rfl, ⟨[.int .i64 x.f6], [.int .i64 x.f7], rfl, rfl, rfl⟩⟩⟩⟩⟩⟩⟩
theorem k40_mkM (w : World) (base : Nat) (ok : Nat → Prop) (x : S40)  : k40.M w base ok x [.int .i64 x.f0, .int .i64 x.f1, .int .i64 x.f2, .int .i64 x.f3, .int .i64 x.f4, .int .i64 x.f5, .int .i64 x.f6, .int .i64 x.f7] := ⟨[.int .i64 x.f0], [.int .i64 x.f1, .int .i64 x.f2, .int .i64 x.f3, .int .i64 x.f4, .int .i64 x.f5, .int .i64 x.f6, .int .i64 x.f7], rfl, rfl, ⟨[.int .i64 x.f1], [.int .i64 x.f2, .int .i64 x.f3, .int .i64 x.f4, .int .i64 x.f5, .int .i64 x.f6, .int .i64 x.f7], rfl, rfl, ⟨[.int .i64 x.f2], [.int .i64 x.f3, .int .i64 x.f4, .int .i64 x.f5, .int .i64 x.f6, .int .i64 x.f7], rfl, rfl, ⟨[.int .i64 x.f3], [.int .i64 x.f4, .int .i64 x.f5, .int .i64 x.f6, .int .i64 x.f7], rfl, rfl, ⟨[.int .i64 x.f4], [.int .i64 x.f5, .int .i64 x.f6, .int .i64 x.f7], rfl, rfl, ⟨[.int .i64 x.f5], [.int .i64 x.f6, .int .i64 x.f7], rfl, rfl, ⟨[.int .i64 x.f6], [.int .i64 x.f7], rfl, rfl, rfl⟩⟩⟩⟩⟩⟩⟩
def rd_T40 (xs : List S40) (i : Int) : S40 := xs.getD i.toNat z40
theorem at_T40 {w : World} {A : Option Addr} {n : Nat} {xs : List S40} (h : Kd.C k40 w A n xs) (i : Int) (h0 : 0 ≤ i) (h1 : i < n) : ∃ ad , A = some ad ∧ w.cell? (ad.add (i.toNat * 8)) = some (.int .i64 (rd_T40 xs i).f0) ∧ w.cell? ⟨(ad.add (i.toNat * 8)).block, (ad.add (i.toNat * 8)).off + 1, none⟩ = some (.int .i64 (rd_T40 xs i).f1) ∧ w.cell? ⟨(ad.add (i.toNat * 8)).block, (ad.add (i.toNat * 8)).off + 2, none⟩ = some (.int .i64 (rd_T40 xs i).f2) ∧ w.cell? ⟨(ad.add (i.toNat * 8)).block, (ad.add (i.toNat * 8)).off + 3, none⟩ = some (.int .i64 (rd_T40 xs i).f3) ∧ w.cell? ⟨(ad.add (i.toNat * 8)).block, (ad.add (i.toNat * 8)).off + 4, none⟩ = some (.int .i64 (rd_T40 xs i).f4) ∧ w.cell? ⟨(ad.add (i.toNat * 8)).block, (ad.add (i.toNat * 8)).off + 5, none⟩ = some (.int .i64 (rd_T40 xs i).f5) ∧ w.cell? ⟨(ad.add (i.toNat * 8)).block, (ad.add (i.toNat * 8)).off + 6, none⟩ = some (.int .i64 (rd_T40 xs i).f6) ∧ w.cell? ⟨(ad.add (i.toNat * 8)).block, (ad.add (i.toNat * 8)).off + 7, none⟩ = some (.int .i64 (rd_T40 xs i).f7) := by
  obtain ⟨ad, c, e, _, hK, hc0⟩ := Kd.C_get h z40 i h0 h1
  have hc : ∀ j u, c[j]? = some u → w.cell? (ad.add (i.toNat * 8 + j)) = some u := hc0
  obtain rfl := k40_open hK
  exact ⟨ad, e, hc 0 _ rfl, by rw [← add_field _ _ 1 (by omega)]; exact hc 1 _ rfl, by rw [← add_field _ _ 2 (by omega)]; exact hc 2 _ rfl, by rw [← add_field _ _ 3 (by omega)]; exact hc 3 _ rfl, by rw [← add_field _ _ 4 (by omega)]; exact hc 4 _ rfl, by rw [← add_field _ _ 5 (by omega)]; exact hc 5 _ rfl, by rw [← add_field _ _ 6 (by omega)]; exact hc 6 _ rfl, by rw [← add_field _ _ 7 (by omega)]; exact hc 7 _ rfl⟩

def rd_L2 (xs : List (List Int)) (i : Int) : (List Int) := xs.getD i.toNat ([] : List Int)
theorem at_L2 {w : World} {A : Option Addr} {n : Nat} {xs : List (List Int)} (h : Kd.C (Kd.slice 3 (Kd.int .i64)) w A n xs) (i : Int) (h0 : 0 ≤ i) (h1 : i < n) : ∃ ad A0 c0, A = some ad ∧ w.cell? (ad.add i.toNat) = some (.slice A0 (rd_L2 xs i).length c0) ∧ (rd_L2 xs i).length ≤ c0 ∧ (Kd.int .i64).C w A0 (rd_L2 xs i).length (rd_L2 xs i) := by
  obtain ⟨ad, c, e, _, hK, hc0⟩ := Kd.C_get h ([] : List Int) i h0 h1
  have hc : ∀ j u, c[j]? = some u → w.cell? (ad.add (i.toNat * 1 + j)) = some u := hc0
  obtain ⟨A0, c0, rfl, l0, g0⟩ := hK
  exact ⟨ad, A0, c0, e, by have hq := hc 0 _ rfl; rwa [Nat.mul_one, Nat.add_zero] at hq, l0, g0⟩

end Go.Proofs.YtnabgijdbcdpmaaDoor.PRightsMatchesReference

namespace Go.Proofs.YtnabgijdbcdpmaaDoor
open Go.RowKit Go.Proofs.YtnabgijdbcdpmaaDoor.PRightsMatchesReference Go.Proofs.YtnabgijdbcdpmaaDoorW.PrintWords
set_option linter.unusedVariables false
set_option linter.unusedSimpArgs false

abbrev Cl := S40
def hasI (l : List Int) (n : Int) : Bool := l.contains n
structure Wt where
  te : Int
  cl : Int
  at_ : Int
  us : Int
  needs : List (List Int)

def inR (x lo hi : Int) : Bool := decide (lo ≤ x) && decide (x ≤ hi)
def isWk (x : Int) : Bool := inR x 0 11
def fieldsOk (c : Cl) : Bool :=
  if c.f1 = 3 then inR c.f6 0 1000000 && decide (c.f7 = 0)
  else if c.f1 = 4 then decide (c.f6 = 0) && (isWk c.f7 && decide (c.f7 ≠ c.f0))
  else decide (c.f6 = 0) && decide (c.f7 = 0)
def timesOk (c : Cl) : Bool := decide (0 ≤ c.f4) && (decide (c.f4 ≤ c.f5) && decide (c.f5 ≤ 50000000))
def vld (c : Cl) : Bool := isWk c.f0 && (inR c.f1 1 4 && (inR c.f2 0 255 && (inR c.f3 0 255 && (timesOk c && fieldsOk c))))
def vldL (l : List Cl) : Bool := decide (l.length ≤ 12) && l.all vld
def rising : List Int → Bool
  | [] => true
  | [_] => true
  | a :: b :: r => decide (a < b) && rising (b :: r)
def needOk (n : List Int) : Bool := inR n.length 1 4 && (rising n && n.all isWk)
def vldW (w : Wt) : Bool := inR w.te 0 7 && (inR w.cl 0 7 && (inR w.at_ 0 50000000 && (inR w.us 1 1000000 && (inR w.needs.length 1 4 && w.needs.all needOk))))
def usedOk (u : List Int) : Bool := u.all fun n => inR n 0 1000000
def givenB (l : List Cl) (u : List Int) (w : Wt) : Bool := vldL l && (decide (u.length = 12) && (usedOk u && vldW w))
def bitOn (x k : Int) : Bool := x.toNat.testBit k.toNat
def applies (c : Cl) (w : Wt) : Bool := vld c && (vldW w && (bitOn c.f2 w.te && (bitOn c.f3 w.cl && inR w.at_ c.f4 c.f5)))
def offered (l : List Cl) (w : Wt) (k : Int) : Bool := l.any fun c => decide (c.f1 = 1) && (decide (c.f0 = k) && applies c w)
/-- The packages that begin with acc, in order. -/
def pkgs (off : Int → Bool) : List (List Int) → List Int → List (List Int)
  | [], acc => [acc]
  | n :: ns, acc => n.flatMap fun k => if !hasI acc k && off k then pkgs off ns (acc ++ [k]) else []
def packs (l : List Cl) (w : Wt) : List (List Int) := pkgs (offered l w) w.needs []
def forbK (c : Cl) (u : List Int) (w : Wt) (p : List Int) : Bool :=
  if c.f1 = 2 then hasI p c.f0
  else if c.f1 = 3 then hasI p c.f0 && decide (c.f6 < rd u c.f0 + w.us)
  else if c.f1 = 4 then hasI p c.f0 && hasI p c.f7
  else false
def forb (u : List Int) (w : Wt) (p : List Int) (c : Cl) : Bool := applies c w && forbK c u w p
/-- The clauses that forbid a package, as bits. -/
def bits : List Bool → Nat
  | [] => 0
  | b :: r => (if b then 1 else 0) + 2 * bits r
def brk (l : List Cl) (u : List Int) (w : Wt) (p : List Int) : Nat := bits (l.map (forb u w p))
def idxs (m : Nat) : List Int := ((List.range 12).filter fun i => m.testBit i).map Int.ofNat

def clv (c : Cl) : Value := .agg #[.int .i64 c.f0, .int .i64 c.f1, .int .i64 c.f2, .int .i64 c.f3, .int .i64 c.f4, .int .i64 c.f5, .int .i64 c.f6, .int .i64 c.f7]
def wtv (w : Wt) (A : Option Addr) (n : Nat) : Value := .agg #[.int .i64 w.te, .int .i64 w.cl, .int .i64 w.at_, .int .i64 w.us, .slice A w.needs.length n]
end Go.Proofs.YtnabgijdbcdpmaaDoor

namespace Go.Proofs.YtnabgijdbcdpmaaDoor
open Go.RowKit Go.Rg Go.Proofs.YtnabgijdbcdpmaaDoor.PRightsMatchesReference Go.Proofs.YtnabgijdbcdpmaaDoorW.PrintWords
set_option linter.unusedVariables false
set_option linter.unusedSimpArgs false

theorem ret_bool {a b : Bool} (h : a = b) : Ending.returned (.bool a) = .returned (.bool b) := by rw [h]
theorem ret_int {k : IntKind} {a b : Int} (h : a = b) : Ending.returned (.int k a) = .returned (.int k b) := by rw [h]

theorem beqD (a b : Int) : (a == b) = decide (a = b) := by by_cases h : a = b <;> simp [h]
theorem bneD (a b : Int) : (a != b) = decide (a ≠ b) := by by_cases h : a = b <;> simp [h]

theorem isIn_any (x lo hi : Int) (w : World) :
    Calls Tryd.prog 41 #[.int .i64 x, .int .i64 lo, .int .i64 hi] w fun e w' => e = .returned (.bool (inR x lo hi)) ∧ w = w' := by
  by_cases h : lo ≤ x <;> by_cases h2 : x ≤ hi
  all_goals
    go_enter Tryd.func41, Tryd.ntmps41
    go_wp2
    go_ret
    refine ⟨ret_bool ?_, rfl⟩
    simp [inR, h, h2]
theorem isWk_any (x : Int) (w : World) :
    Calls Tryd.prog 44 #[.int .i64 x] w fun e w' => e = .returned (.bool (isWk x)) ∧ w = w' := by
  go_enter Tryd.func44, Tryd.ntmps44
  go_wp2_with fail
  refine (isIn_any _ _ _ _).mono ?_
  rintro e w' ⟨rfl, rfl⟩
  go_wp2_with fail
  go_ret
  exact ⟨rfl, rfl⟩

theorem plain_any (c : Cl) (w : World) :
    Calls Tryd.prog 96 #[clv c] w fun e w' => e = .returned (.bool (decide (c.f6 = 0) && decide (c.f7 = 0))) ∧ Below w.heap.size w w' := by
  unfold clv
  by_cases h6 : c.f6 = 0 <;> by_cases h7 : c.f7 = 0
  all_goals
    go_enter Tryd.func96, Tryd.ntmps96
    go_wp2
    go_ret
    refine ⟨ret_bool ?_, (Below.refl _ _).alloc (Nat.le_refl _) _⟩
    simp [h6, h7]

theorem kind3_any (c : Cl) (w : World) :
    Calls Tryd.prog 99 #[clv c] w fun e w' => e = .returned (.bool (inR c.f6 0 1000000 && decide (c.f7 = 0))) ∧ Below w.heap.size w w' := by
  unfold clv
  have hi := fun W => isIn_any c.f6 0 1000000 W
  generalize inR c.f6 0 1000000 = b at *
  cases b <;> by_cases h7 : c.f7 = 0
  all_goals
    have HI := Lib.hid hi; clear hi
    go_enter Tryd.func99, Tryd.ntmps99
    go_wp2_with (go_at_call 41; refine (HI.out _).mono ?_; rintro e w' ⟨rfl, rfl⟩)
    go_ret
    refine ⟨ret_bool ?_, (Below.refl _ _).alloc (Nat.le_refl _) _⟩
    simp [h7]

theorem kind5_any (c : Cl) (w : World) :
    Calls Tryd.prog 101 #[clv c] w fun e w' => e = .returned (.bool (decide (c.f6 = 0) && (isWk c.f7 && decide (c.f7 ≠ c.f0)))) ∧ Below w.heap.size w w' := by
  unfold clv
  have hi := fun W => isWk_any c.f7 W
  have q6 : (c.f6 == 0) = decide (c.f6 = 0) := beqD _ _
  have q7 : (c.f7 != c.f0) = decide (c.f7 ≠ c.f0) := bneD _ _
  generalize decide (c.f6 = 0) = b6 at *
  generalize decide (c.f7 ≠ c.f0) = b7 at *
  generalize isWk c.f7 = b at *
  have HI := Lib.hid hi; clear hi
  cases b6 <;> cases b <;> cases b7
  all_goals
    go_enter Tryd.func101, Tryd.ntmps101
    go_wp2_with (go_at_call 44; refine (HI.out _).mono ?_; rintro e w' ⟨rfl, rfl⟩)
    go_ret
    refine ⟨ret_bool ?_, (Below.refl _ _).alloc (Nat.le_refl _) _⟩
    rfl

/-- What the table of kinds holds. -/
def Kinds (w : World) : Prop := ∃ t : TypeId × Nat × Nat, w.heap[0]? = some (.cells #[.nilFunc, .nilFunc, .func (.func 96) #[] #[], .func (.func 97) #[] #[], .func (.func 96) #[] #[], .func (.func 98) #[] #[], .func (.func 99) #[] #[], .func (.func 100) #[] #[], .func (.func 101) #[] #[], .func (.func 102) #[] #[]] t.1 t.2)
end Go.Proofs.YtnabgijdbcdpmaaDoor

namespace Go.Proofs.YtnabgijdbcdpmaaDoor
open Go.RowKit Go.Rg Go.Proofs.YtnabgijdbcdpmaaDoor.PRightsMatchesReference Go.Proofs.YtnabgijdbcdpmaaDoorW.PrintWords
set_option linter.unusedVariables false
set_option linter.unusedSimpArgs false

/-- The index of the first element for which p holds; -1 if there is none. -/
def fIdx {α : Type} (p : α → Bool) (xs : List α) : Int := match xs.findIdx? p with | some i => (i : Int) | none => -1
theorem fIdx_none {α : Type} {p : α → Bool} {xs : List α} (h : xs.any p = false) : fIdx p xs = -1 := by
  unfold fIdx
  rw [List.findIdx?_eq_none_iff.2 (by simpa using h)]
theorem fIdx_at {α : Type} {p : α → Bool} {xs : List α} {k : Nat} (hk : k < xs.length) (h : (xs.take k).any p = false) (hp : p xs[k] = true) : fIdx p xs = k := by
  unfold fIdx
  rw [List.findIdx?_eq_some_iff_getElem.2 ⟨hk, hp, fun j hj => ?_⟩]
  have h' : ∀ x ∈ xs.take k, ¬ p x = true := by simpa using h
  have := h' xs[j] (by rw [List.mem_take_iff_getElem]; exact ⟨j, by omega, rfl⟩)
  simpa using this
theorem fIdx_nonneg {α : Type} (p : α → Bool) (xs : List α) : decide (0 ≤ fIdx p xs) = xs.any p := by
  cases h : xs.any p with
  | false => rw [fIdx_none h]; rfl
  | true =>
    unfold fIdx
    have : (xs.findIdx? p).isSome = true := by rw [List.findIdx?_isSome]; exact h
    cases e : xs.findIdx? p with
    | none => rw [e] at this; cases this
    | some i => simp
theorem any_take_succ {α : Type} {p : α → Bool} {xs : List α} {k : Nat} (hk : k < xs.length) (h : (xs.take k).any p = false) (hp : p xs[k] = false) : (xs.take (k + 1)).any p = false := by
  rw [List.take_succ_eq_append_getElem hk, List.any_append, h]
  simp [hp]
theorem rd_get {xs : List Int} {k : Nat} (hk : k < xs.length) : rd xs k = xs[k] := by
  unfold rd
  simp [hk]
theorem max_len {α : Type} {d : Kd α} {w : World} {A : Option Addr} {xs : List α} (h : d.C w A xs.length xs) : xs.length ≤ 9223372036854775807 := h.2.1

theorem index_any (A : Option Addr) (c : Nat) (xs : List Int) (x : Int) (w : World) (hr : (Kd.int .i64).C w A xs.length xs) :
    Calls Tryd.prog 78 #[.slice A xs.length c, .int .i64 x] w fun e w' => e = .returned (.int .i64 (fIdx (fun y => x == y) xs)) ∧ w = w' := by
  have hm := max_len hr
  have HR := Lib.hid hr; clear hr
  go_enter Tryd.func78, Tryd.ntmps78
  go_wp2
  go_loop [8] (fun i => ∃ k : Nat, k ≤ xs.length ∧ Hid ((xs.take k).any (fun y => x == y) = false) ∧ i = .int .i64 k) (fun i => xs.length - (intOf i).toNat)
  case atStart => exact ⟨0, Nat.zero_le _, Lib.hid (by simp), rfl⟩
  case round =>
    obtain ⟨k, hk, HA, rfl⟩ := hrel
    by_cases hlt : k < xs.length
    · have hltI : (k : Int) < (xs.length : Int) := by omega
      obtain ⟨ad, e, hx⟩ := Kd.at_int HR.out (k : Int) (by omega) hltI
      cases e
      simp only [Int.toNat_natCast] at hx
      by_cases hq : x = rd xs (k : Int)
      · have q1 : (x == rd xs (k : Int)) = true := by simpa using hq
        have H1 := Lib.hid hq; clear hq
        go_wp2
        go_ret
        exact ⟨ret_int (fIdx_at hlt HA.out (by have := H1.out; rw [rd_get hlt] at this; simpa using this)).symm, rfl⟩
      · have q1 : (x == rd xs (k : Int)) = false := by simpa using hq
        have H1 := Lib.hid hq; clear hq
        go_wp2
        go_round
        case rel => exact ⟨k + 1, by omega, Lib.hid (any_take_succ hlt HA.out (by have := H1.out; rw [rd_get hlt] at this; simpa using this)), by go_num⟩
        case measure => simp [intOf]; omega
    · obtain rfl : k = xs.length := by omega
      go_wp2
      go_ret
      exact ⟨ret_int (fIdx_none (by have := HA.out; rwa [List.take_length] at this)).symm, rfl⟩

theorem contains_any (A : Option Addr) (c : Nat) (xs : List Int) (x : Int) (w : World) (hr : (Kd.int .i64).C w A xs.length xs) :
    Calls Tryd.prog 72 #[.slice A xs.length c, .int .i64 x] w fun e w' => e = .returned (.bool (hasI xs x)) ∧ w = w' := by
  have hq : decide (0 ≤ fIdx (fun y => x == y) xs) = xs.contains x := by rw [fIdx_nonneg, List.contains_eq_any_beq]
  have HR := Lib.hid hr; clear hr
  go_enter Tryd.func72, Tryd.ntmps72
  go_wp2_with fail
  refine (index_any A c xs x _ HR.out).mono ?_
  rintro e w' ⟨rfl, rfl⟩
  have HQ := Lib.hid hq; clear hq
  generalize fIdx (fun y => x == y) xs = n at *
  go_wp2_with fail
  go_ret
  exact ⟨ret_bool HQ.out, rfl⟩
end Go.Proofs.YtnabgijdbcdpmaaDoor

namespace Go.Proofs.YtnabgijdbcdpmaaDoor
open Go.RowKit Go.Rg Go.Proofs.YtnabgijdbcdpmaaDoor.PRightsMatchesReference Go.Proofs.YtnabgijdbcdpmaaDoorW.PrintWords
set_option linter.unusedVariables false
set_option linter.unusedSimpArgs false

/-- A function value can be called. -/
def Enters (gf : Nat) : Prop := ∀ (args : Array Value) (w : World), (callFunc gf args).run Tryd.prog w = .ok (.enter gf args) w

def TakesC (gf : Nat) (lb : Array Value) (p : Cl → Bool) (xs : List Cl) (w : World) : Prop := ∀ (k : Nat) (hk : k < xs.length) (W : World), Below w.heap.size w W →
  Calls Tryd.prog gf (#[clv (xs[k])] ++ lb) W fun e W' => e = .returned (.bool (p (xs[k]))) ∧ Below W.heap.size W W'
theorem TakesC.mono {gf : Nat} {lb : Array Value} {p : Cl → Bool} {xs : List Cl} {w w1 : World} (h : TakesC gf lb p xs w) (hb : Below w.heap.size w w1) : TakesC gf lb p xs w1 :=
  fun k hk W hW => h k hk W (hb.trans (hW.mono hb.size))

set_option maxRecDepth 10000 in
theorem indexFC_any (gf : Nat) (lb : Array Value) (eg : Enters gf) (p : Cl → Bool) (A : Option Addr) (c : Nat) (xs : List Cl) (w : World) (hr : Kd.C k40 w A xs.length xs) (hf : TakesC gf lb p xs w) :
    Calls Tryd.prog 75 #[.slice A xs.length c, .func (.func gf) #[] lb] w fun e w' => e = .returned (.int .i64 (fIdx p xs)) ∧ Below w.heap.size w w' := by
  have hm := max_len hr
  have HR0 := Lib.hid hr; clear hr
  have HF := Lib.hid hf; clear hf
  unfold Enters at eg
  go_enter Tryd.func75, Tryd.ntmps75
  go_wp2
  go_loopw [8] (fun i wr => ∃ k : Nat, k ≤ xs.length ∧ Hid ((xs.take k).any p = false) ∧ i = .int .i64 k ∧ Hid (Below w.heap.size w wr)) (fun i wr => xs.length - (intOf i).toNat)
  case atStart => exact ⟨0, Nat.zero_le _, Lib.hid (by simp), rfl, Lib.hid (Below.refl _ _)⟩
  case round =>
    obtain ⟨k, hk, HA, rfl, HB⟩ := hrel
    by_cases hlt : k < xs.length
    · have hltI : (k : Int) < (xs.length : Int) := by omega
      have HR := Kd.C_below HR0.out HB.out
      obtain ⟨ad, e, x0, x1, x2, x3, x4, x5, x6, x7⟩ := at_T40 HR (k : Int) (by omega) hltI
      cases e
      simp only [Int.toNat_natCast] at x0 x1 x2 x3 x4 x5 x6 x7
      have hrd : rd_T40 xs (k : Int) = xs[k] := by unfold rd_T40; simp [hlt]
      rw [hrd] at x0 x1 x2 x3 x4 x5 x6 x7
      have hcall := HF.out k hlt _ HB.out
      unfold clv at hcall
      clear hrd
      have HLT := Lib.hid hltI
      have HCALL := Lib.hid hcall; clear hcall
      clear HR
      go_wp2_with fail
      refine HCALL.out.mono ?_
      rintro e w1 ⟨rfl, hb1⟩
      have HB1 := Lib.hid (HB.out.trans (hb1.mono HB.out.size)); clear hb1
      clear HCALL
      cases hq : p xs[k] with
      | true =>
        have HQ := Lib.hid hq; clear hq
        go_wp2_with fail
        go_ret
        exact ⟨ret_int (fIdx_at hlt HA.out HQ.out).symm, HB1.out⟩
      | false =>
        have HQ := Lib.hid hq; clear hq
        go_wp2_with fail
        go_roundw
        case rel => exact ⟨k + 1, by omega, Lib.hid (any_take_succ hlt HA.out HQ.out), by go_num, HB1⟩
        case measure => simp [intOf]; omega
    · obtain rfl : k = xs.length := by omega
      go_wp2
      go_ret
      exact ⟨ret_int (fIdx_none (by have := HA.out; rwa [List.take_length] at this)).symm, HB.out⟩

theorem containsFC_any (gf : Nat) (lb : Array Value) (eg : Enters gf) (p : Cl → Bool) (A : Option Addr) (c : Nat) (xs : List Cl) (w : World) (hr : Kd.C k40 w A xs.length xs) (hf : TakesC gf lb p xs w) :
    Calls Tryd.prog 60 #[.slice A xs.length c, .func (.func gf) #[] lb] w fun e w' => e = .returned (.bool (xs.any p)) ∧ Below w.heap.size w w' := by
  have hq := fIdx_nonneg p xs
  have HC := Lib.hid (indexFC_any gf lb eg p A c xs w hr hf)
  clear hr hf eg
  go_enter Tryd.func60, Tryd.ntmps60
  go_wp2_with fail
  refine HC.out.mono ?_
  rintro e w' ⟨rfl, hb⟩
  have HQ := Lib.hid hq; clear hq
  clear HC
  generalize fIdx p xs = n at *
  go_wp2_with fail
  go_ret
  exact ⟨ret_bool HQ.out, hb⟩

set_option maxRecDepth 10000 in
theorem allC_any (gf : Nat) (lb : Array Value) (eg : Enters gf) (p : Cl → Bool) (A : Option Addr) (c : Nat) (xs : List Cl) (w : World) (hr : Kd.C k40 w A xs.length xs) (hf : TakesC gf lb p xs w) :
    Calls Tryd.prog 37 #[.slice A xs.length c, .func (.func gf) #[] lb] w fun e w' => e = .returned (.bool (xs.all p)) ∧ Below w.heap.size w w' := by
  have hb0 : Below w.heap.size w (w.alloc (.cells #[.func (.func gf) #[] lb] 64)) := (Below.refl _ _).alloc (Nat.le_refl _) _
  have HB := Lib.hid hb0
  have hcell : (w.alloc (.cells #[.func (.func gf) #[] lb] 64)).cell? ⟨w.heap.size, 0, none⟩ = some (.func (.func gf) #[] lb) := cell_new rfl
  have hlz : w.heap.size < (w.alloc (.cells #[.func (.func gf) #[] lb] 64)).heap.size := by simp
  have HLZ := Lib.hid hlz; clear hlz
  have HCELL := Lib.hid hcell; clear hcell
  have hall : (!xs.any fun x => !p x) = xs.all p := by rw [List.not_any_eq_all_not]; simp
  have HALL := Lib.hid hall; clear hall
  have ht : TakesC 61 #[.pointer (some ⟨w.heap.size, 0, none⟩)] (fun x => !p x) xs (w.alloc (.cells #[.func (.func gf) #[] lb] 64)) := by
    intro k hk W hW
    have hc1 : W.cell? ⟨w.heap.size, 0, none⟩ = some (.func (.func gf) #[] lb) := (hW.cell (p := ⟨w.heap.size, 0, none⟩) HLZ.out).trans HCELL.out
    have HB2 := Lib.hid (Nat.le_trans HB.out.size hW.size)
    have hcall := (hf k hk _ ((HB.out.trans (hW.mono HB.out.size)).alloc HB2.out (.cells #[.int .i64 xs[k].f0, .int .i64 xs[k].f1, .int .i64 xs[k].f2, .int .i64 xs[k].f3, .int .i64 xs[k].f4, .int .i64 xs[k].f5, .int .i64 xs[k].f6, .int .i64 xs[k].f7] 40)))
    unfold clv at hcall
    unfold clv
    have HCALL := Lib.hid hcall; clear hcall
    have hlt2 : w.heap.size < W.heap.size := Nat.lt_of_lt_of_le HLZ.out hW.size
    have HW := Lib.hid hW; clear hW hb0
    show Calls Tryd.prog _ _ W fun e W' => e = .returned (.bool (!p xs[k])) ∧ Below W.heap.size W W'
    generalize p xs[k] = b at *
    unfold Enters at eg
    go_enter Tryd.func61, Tryd.ntmps61
    go_wp2_with fail
    refine HCALL.out.mono ?_
    rintro e w1 ⟨rfl, hb1⟩
    have hb1 := ((Below.refl _ _).alloc (Nat.le_refl _) _).trans (hb1.mono (by simp))
    clear HCALL
    cases b
    all_goals
      go_wp2_with fail
      go_ret
      exact ⟨rfl, hb1⟩
  have HC := Lib.hid (containsFC_any 61 #[.pointer (some ⟨w.heap.size, 0, none⟩)] (fun args w => rfl) (fun x => !p x) A c xs _ (Kd.C_below hr hb0) ht)
  clear ht hr hf
  generalize (xs.any fun x => !p x) = q at *
  go_enter Tryd.func37, Tryd.ntmps37
  go_wp2_with fail
  refine HC.out.mono ?_
  rintro e w1 ⟨rfl, hb1⟩
  clear HC
  have hb2 := HB.out.trans (hb1.mono HB.out.size)
  have HB3 := Lib.hid hb2; clear hb2 hb1 hb0
  cases q
  all_goals
    go_wp2_with fail
    go_ret
    exact ⟨ret_bool HALL.out, HB3.out⟩

def TakesI (gf : Nat) (lb : Array Value) (p : Int → Bool) (xs : List Int) (w : World) : Prop := ∀ (k : Nat) (hk : k < xs.length) (W : World), Below w.heap.size w W →
  Calls Tryd.prog gf (#[.int .i64 (xs[k])] ++ lb) W fun e W' => e = .returned (.bool (p (xs[k]))) ∧ Below W.heap.size W W'
theorem TakesI.mono {gf : Nat} {lb : Array Value} {p : Int → Bool} {xs : List Int} {w w1 : World} (h : TakesI gf lb p xs w) (hb : Below w.heap.size w w1) : TakesI gf lb p xs w1 :=
  fun k hk W hW => h k hk W (hb.trans (hW.mono hb.size))

set_option maxRecDepth 10000 in
theorem indexFI_any (gf : Nat) (lb : Array Value) (eg : Enters gf) (p : Int → Bool) (A : Option Addr) (c : Nat) (xs : List Int) (w : World) (hr : Kd.C (Kd.int .i64) w A xs.length xs) (hf : TakesI gf lb p xs w) :
    Calls Tryd.prog 76 #[.slice A xs.length c, .func (.func gf) #[] lb] w fun e w' => e = .returned (.int .i64 (fIdx p xs)) ∧ Below w.heap.size w w' := by
  have hm := max_len hr
  have HR0 := Lib.hid hr; clear hr
  have HF := Lib.hid hf; clear hf
  unfold Enters at eg
  go_enter Tryd.func76, Tryd.ntmps76
  go_wp2
  go_loopw [8] (fun i wr => ∃ k : Nat, k ≤ xs.length ∧ Hid ((xs.take k).any p = false) ∧ i = .int .i64 k ∧ Hid (Below w.heap.size w wr)) (fun i wr => xs.length - (intOf i).toNat)
  case atStart => exact ⟨0, Nat.zero_le _, Lib.hid (by simp), rfl, Lib.hid (Below.refl _ _)⟩
  case round =>
    obtain ⟨k, hk, HA, rfl, HB⟩ := hrel
    by_cases hlt : k < xs.length
    · have hltI : (k : Int) < (xs.length : Int) := by omega
      have HR := Kd.C_below HR0.out HB.out
      obtain ⟨ad, e, hx⟩ := Kd.at_int HR (k : Int) (by omega) hltI
      cases e
      simp only [Int.toNat_natCast] at hx
      have hrd : rd xs (k : Int) = xs[k] := rd_get hlt
      rw [hrd] at hx
      have hcall := HF.out k hlt _ HB.out
      clear hrd
      have HLT := Lib.hid hltI
      have HCALL := Lib.hid hcall; clear hcall
      clear HR
      go_wp2_with fail
      refine HCALL.out.mono ?_
      rintro e w1 ⟨rfl, hb1⟩
      have HB1 := Lib.hid (HB.out.trans (hb1.mono HB.out.size)); clear hb1
      clear HCALL
      cases hq : p xs[k] with
      | true =>
        have HQ := Lib.hid hq; clear hq
        go_wp2_with fail
        go_ret
        exact ⟨ret_int (fIdx_at hlt HA.out HQ.out).symm, HB1.out⟩
      | false =>
        have HQ := Lib.hid hq; clear hq
        go_wp2_with fail
        go_roundw
        case rel => exact ⟨k + 1, by omega, Lib.hid (any_take_succ hlt HA.out HQ.out), by go_num, HB1⟩
        case measure => simp [intOf]; omega
    · obtain rfl : k = xs.length := by omega
      go_wp2
      go_ret
      exact ⟨ret_int (fIdx_none (by have := HA.out; rwa [List.take_length] at this)).symm, HB.out⟩

theorem containsFI_any (gf : Nat) (lb : Array Value) (eg : Enters gf) (p : Int → Bool) (A : Option Addr) (c : Nat) (xs : List Int) (w : World) (hr : Kd.C (Kd.int .i64) w A xs.length xs) (hf : TakesI gf lb p xs w) :
    Calls Tryd.prog 62 #[.slice A xs.length c, .func (.func gf) #[] lb] w fun e w' => e = .returned (.bool (xs.any p)) ∧ Below w.heap.size w w' := by
  have hq := fIdx_nonneg p xs
  have HC := Lib.hid (indexFI_any gf lb eg p A c xs w hr hf)
  clear hr hf eg
  go_enter Tryd.func62, Tryd.ntmps62
  go_wp2_with fail
  refine HC.out.mono ?_
  rintro e w' ⟨rfl, hb⟩
  have HQ := Lib.hid hq; clear hq
  clear HC
  generalize fIdx p xs = n at *
  go_wp2_with fail
  go_ret
  exact ⟨ret_bool HQ.out, hb⟩

set_option maxRecDepth 10000 in
theorem allI_any (gf : Nat) (lb : Array Value) (eg : Enters gf) (p : Int → Bool) (A : Option Addr) (c : Nat) (xs : List Int) (w : World) (hr : Kd.C (Kd.int .i64) w A xs.length xs) (hf : TakesI gf lb p xs w) :
    Calls Tryd.prog 43 #[.slice A xs.length c, .func (.func gf) #[] lb] w fun e w' => e = .returned (.bool (xs.all p)) ∧ Below w.heap.size w w' := by
  have hb0 : Below w.heap.size w (w.alloc (.cells #[.func (.func gf) #[] lb] 68)) := (Below.refl _ _).alloc (Nat.le_refl _) _
  have HB := Lib.hid hb0
  have hcell : (w.alloc (.cells #[.func (.func gf) #[] lb] 68)).cell? ⟨w.heap.size, 0, none⟩ = some (.func (.func gf) #[] lb) := cell_new rfl
  have hlz : w.heap.size < (w.alloc (.cells #[.func (.func gf) #[] lb] 68)).heap.size := by simp
  have HLZ := Lib.hid hlz; clear hlz
  have HCELL := Lib.hid hcell; clear hcell
  have hall : (!xs.any fun x => !p x) = xs.all p := by rw [List.not_any_eq_all_not]; simp
  have HALL := Lib.hid hall; clear hall
  have ht : TakesI 63 #[.pointer (some ⟨w.heap.size, 0, none⟩)] (fun x => !p x) xs (w.alloc (.cells #[.func (.func gf) #[] lb] 68)) := by
    intro k hk W hW
    have hc1 : W.cell? ⟨w.heap.size, 0, none⟩ = some (.func (.func gf) #[] lb) := (hW.cell (p := ⟨w.heap.size, 0, none⟩) HLZ.out).trans HCELL.out
    have HB2 := Lib.hid (Nat.le_trans HB.out.size hW.size)
    have hcall := (hf k hk _ (HB.out.trans (hW.mono HB.out.size)))
    have HCALL := Lib.hid hcall; clear hcall
    have hlt2 : w.heap.size < W.heap.size := Nat.lt_of_lt_of_le HLZ.out hW.size
    have HW := Lib.hid hW; clear hW hb0
    show Calls Tryd.prog _ _ W fun e W' => e = .returned (.bool (!p xs[k])) ∧ Below W.heap.size W W'
    generalize p xs[k] = b at *
    unfold Enters at eg
    go_enter Tryd.func63, Tryd.ntmps63
    go_wp2_with fail
    refine HCALL.out.mono ?_
    rintro e w1 ⟨rfl, hb1⟩
    clear HCALL
    cases b
    all_goals
      go_wp2_with fail
      go_ret
      exact ⟨rfl, hb1⟩
  have HC := Lib.hid (containsFI_any 63 #[.pointer (some ⟨w.heap.size, 0, none⟩)] (fun args w => rfl) (fun x => !p x) A c xs _ (Kd.C_below hr hb0) ht)
  clear ht hr hf
  generalize (xs.any fun x => !p x) = q at *
  go_enter Tryd.func43, Tryd.ntmps43
  go_wp2_with fail
  refine HC.out.mono ?_
  rintro e w1 ⟨rfl, hb1⟩
  clear HC
  have hb2 := HB.out.trans (hb1.mono HB.out.size)
  have HB3 := Lib.hid hb2; clear hb2 hb1 hb0
  cases q
  all_goals
    go_wp2_with fail
    go_ret
    exact ⟨ret_bool HALL.out, HB3.out⟩

def TakesL (gf : Nat) (lb : Array Value) (p : (List Int) → Bool) (xs : List (List Int)) (w : World) : Prop := ∀ (k : Nat) (hk : k < xs.length) (A : Option Addr) (c : Nat) (W : World), Below w.heap.size w W → (Kd.int .i64).C W A (xs[k]).length (xs[k]) → (xs[k]).length ≤ c →
  Calls Tryd.prog gf (#[.slice A (xs[k]).length c] ++ lb) W fun e W' => e = .returned (.bool (p (xs[k]))) ∧ Below W.heap.size W W'
theorem TakesL.mono {gf : Nat} {lb : Array Value} {p : (List Int) → Bool} {xs : List (List Int)} {w w1 : World} (h : TakesL gf lb p xs w) (hb : Below w.heap.size w w1) : TakesL gf lb p xs w1 :=
  fun k hk A c W hW => h k hk A c W (hb.trans (hW.mono hb.size))

set_option maxRecDepth 10000 in
theorem indexFL_any (gf : Nat) (lb : Array Value) (eg : Enters gf) (p : (List Int) → Bool) (A : Option Addr) (c : Nat) (xs : List (List Int)) (w : World) (hr : Kd.C (Kd.slice 3 (Kd.int .i64)) w A xs.length xs) (hf : TakesL gf lb p xs w) :
    Calls Tryd.prog 77 #[.slice A xs.length c, .func (.func gf) #[] lb] w fun e w' => e = .returned (.int .i64 (fIdx p xs)) ∧ Below w.heap.size w w' := by
  have hm := max_len hr
  have HR0 := Lib.hid hr; clear hr
  have HF := Lib.hid hf; clear hf
  unfold Enters at eg
  go_enter Tryd.func77, Tryd.ntmps77
  go_wp2
  go_loopw [8] (fun i wr => ∃ k : Nat, k ≤ xs.length ∧ Hid ((xs.take k).any p = false) ∧ i = .int .i64 k ∧ Hid (Below w.heap.size w wr)) (fun i wr => xs.length - (intOf i).toNat)
  case atStart => exact ⟨0, Nat.zero_le _, Lib.hid (by simp), rfl, Lib.hid (Below.refl _ _)⟩
  case round =>
    obtain ⟨k, hk, HA, rfl, HB⟩ := hrel
    by_cases hlt : k < xs.length
    · have hltI : (k : Int) < (xs.length : Int) := by omega
      have HR := Kd.C_below HR0.out HB.out
      obtain ⟨ad, A0, c0, e, hx, hc0, hC0⟩ := at_L2 HR (k : Int) (by omega) hltI
      cases e
      simp only [Int.toNat_natCast] at hx
      have hrd : rd_L2 xs (k : Int) = xs[k] := by unfold rd_L2; simp [hlt]
      rw [hrd] at hx hC0 hc0
      have hcall := HF.out k hlt A0 c0 _ HB.out hC0 hc0
      have HC0 := Lib.hid hC0; clear hC0 hrd
      have HL0 := Lib.hid hc0; clear hc0
      have HLT := Lib.hid hltI
      have HCALL := Lib.hid hcall; clear hcall
      clear HR
      go_wp2_with fail
      refine HCALL.out.mono ?_
      rintro e w1 ⟨rfl, hb1⟩
      have HB1 := Lib.hid (HB.out.trans (hb1.mono HB.out.size)); clear hb1
      clear HCALL
      cases hq : p xs[k] with
      | true =>
        have HQ := Lib.hid hq; clear hq
        go_wp2_with fail
        go_ret
        exact ⟨ret_int (fIdx_at hlt HA.out HQ.out).symm, HB1.out⟩
      | false =>
        have HQ := Lib.hid hq; clear hq
        go_wp2_with fail
        go_roundw
        case rel => exact ⟨k + 1, by omega, Lib.hid (any_take_succ hlt HA.out HQ.out), by go_num, HB1⟩
        case measure => simp [intOf]; omega
    · obtain rfl : k = xs.length := by omega
      go_wp2
      go_ret
      exact ⟨ret_int (fIdx_none (by have := HA.out; rwa [List.take_length] at this)).symm, HB.out⟩

theorem containsFL_any (gf : Nat) (lb : Array Value) (eg : Enters gf) (p : (List Int) → Bool) (A : Option Addr) (c : Nat) (xs : List (List Int)) (w : World) (hr : Kd.C (Kd.slice 3 (Kd.int .i64)) w A xs.length xs) (hf : TakesL gf lb p xs w) :
    Calls Tryd.prog 64 #[.slice A xs.length c, .func (.func gf) #[] lb] w fun e w' => e = .returned (.bool (xs.any p)) ∧ Below w.heap.size w w' := by
  have hq := fIdx_nonneg p xs
  have HC := Lib.hid (indexFL_any gf lb eg p A c xs w hr hf)
  clear hr hf eg
  go_enter Tryd.func64, Tryd.ntmps64
  go_wp2_with fail
  refine HC.out.mono ?_
  rintro e w' ⟨rfl, hb⟩
  have HQ := Lib.hid hq; clear hq
  clear HC
  generalize fIdx p xs = n at *
  go_wp2_with fail
  go_ret
  exact ⟨ret_bool HQ.out, hb⟩

set_option maxRecDepth 10000 in
theorem allL_any (gf : Nat) (lb : Array Value) (eg : Enters gf) (p : (List Int) → Bool) (A : Option Addr) (c : Nat) (xs : List (List Int)) (w : World) (hr : Kd.C (Kd.slice 3 (Kd.int .i64)) w A xs.length xs) (hf : TakesL gf lb p xs w) :
    Calls Tryd.prog 45 #[.slice A xs.length c, .func (.func gf) #[] lb] w fun e w' => e = .returned (.bool (xs.all p)) ∧ Below w.heap.size w w' := by
  have hb0 : Below w.heap.size w (w.alloc (.cells #[.func (.func gf) #[] lb] 66)) := (Below.refl _ _).alloc (Nat.le_refl _) _
  have HB := Lib.hid hb0
  have hcell : (w.alloc (.cells #[.func (.func gf) #[] lb] 66)).cell? ⟨w.heap.size, 0, none⟩ = some (.func (.func gf) #[] lb) := cell_new rfl
  have hlz : w.heap.size < (w.alloc (.cells #[.func (.func gf) #[] lb] 66)).heap.size := by simp
  have HLZ := Lib.hid hlz; clear hlz
  have HCELL := Lib.hid hcell; clear hcell
  have hall : (!xs.any fun x => !p x) = xs.all p := by rw [List.not_any_eq_all_not]; simp
  have HALL := Lib.hid hall; clear hall
  have ht : TakesL 65 #[.pointer (some ⟨w.heap.size, 0, none⟩)] (fun x => !p x) xs (w.alloc (.cells #[.func (.func gf) #[] lb] 66)) := by
    intro k hk A0 c0 W hW hC0 hc0
    have hc1 : W.cell? ⟨w.heap.size, 0, none⟩ = some (.func (.func gf) #[] lb) := (hW.cell (p := ⟨w.heap.size, 0, none⟩) HLZ.out).trans HCELL.out
    have HB2 := Lib.hid (Nat.le_trans HB.out.size hW.size)
    have hcall := (hf k hk A0 c0 _ (HB.out.trans (hW.mono HB.out.size)) hC0 hc0)
    have HCALL := Lib.hid hcall; clear hcall
    have HC0 := Lib.hid hC0; clear hC0
    have hlt2 : w.heap.size < W.heap.size := Nat.lt_of_lt_of_le HLZ.out hW.size
    have HW := Lib.hid hW; clear hW hb0
    show Calls Tryd.prog _ _ W fun e W' => e = .returned (.bool (!p xs[k])) ∧ Below W.heap.size W W'
    generalize p xs[k] = b at *
    unfold Enters at eg
    go_enter Tryd.func65, Tryd.ntmps65
    go_wp2_with fail
    refine HCALL.out.mono ?_
    rintro e w1 ⟨rfl, hb1⟩
    clear HCALL
    cases b
    all_goals
      go_wp2_with fail
      go_ret
      exact ⟨rfl, hb1⟩
  have HC := Lib.hid (containsFL_any 65 #[.pointer (some ⟨w.heap.size, 0, none⟩)] (fun args w => rfl) (fun x => !p x) A c xs _ (Kd.C_below hr hb0) ht)
  clear ht hr hf
  generalize (xs.any fun x => !p x) = q at *
  go_enter Tryd.func45, Tryd.ntmps45
  go_wp2_with fail
  refine HC.out.mono ?_
  rintro e w1 ⟨rfl, hb1⟩
  clear HC
  have hb2 := HB.out.trans (hb1.mono HB.out.size)
  have HB3 := Lib.hid hb2; clear hb2 hb1 hb0
  cases q
  all_goals
    go_wp2_with fail
    go_ret
    exact ⟨ret_bool HALL.out, HB3.out⟩

end Go.Proofs.YtnabgijdbcdpmaaDoor

namespace Go.Proofs.YtnabgijdbcdpmaaDoor
open Go.RowKit Go.Rg Go.Proofs.YtnabgijdbcdpmaaDoor.PRightsMatchesReference Go.Proofs.YtnabgijdbcdpmaaDoorW.PrintWords
set_option linter.unusedVariables false
set_option linter.unusedSimpArgs false

/-- A row of numbers in a block of its own. -/
def Row (W : World) (v : Value) (xs : List Int) : Prop := W.ownsRow 0 3 1 v xs.length (nums .i64 xs)

theorem Row.nil (W : World) : Row W (.slice none 0 0) [] := own_nil W 0 3 1
theorem Row.fr {W W1 : World} {S : Nat → Prop} {v : Value} {xs : List Int} (h : Row W v xs) (hf : Fr S W W1) (hS : ∀ g, v.ownBlock = some g → ¬ S g) : Row W1 v xs :=
  own_move h (fun k hk => hf.block k (own_lt h k hk) (hS k hk))
theorem Row.lt {W : World} {v : Value} {xs : List Int} (h : Row W v xs) : ∀ g, v.ownBlock = some g → g < W.heap.size := fun g hg => own_lt h g hg
theorem Row.reads {W : World} {v : Value} {xs : List Int} (h : Row W v xs) : ∃ A c, v = .slice A xs.length c ∧ (Kd.int .i64).C W A xs.length xs := by
  have h' : (Kd.int .i64).R 3 W 0 (fun _ => True) v xs := Kd.R_of_own h (fun _ _ => trivial)
  obtain ⟨A, c, e, _, hr⟩ := Kd.R_reads h'
  exact ⟨A, c, e, hr⟩

theorem take_snd {α : Type} (a : List α) (b : α) (c : List α) {n : Nat} (h : a.length = n) : (a ++ [b] ++ c).take (n + 1) = a ++ [b] := by
  subst h
  rw [show a.length + 1 = (a ++ [b]).length by simp]
  exact List.take_left
theorem take_fst {α : Type} (a : List α) (b : α) (c : List α) {n : Nat} (h : a.length = n) : (a ++ [b] ++ c).take n = a := by
  subst h
  rw [List.append_assoc]
  exact List.take_left
theorem row_prefix {w3 : World} {g cap : Nat} {xs : List Int} {y : Int} (h : Row w3 (.slice (some ⟨g, 0, none⟩) (xs.length + 1) cap) (xs ++ [y])) : Row w3 (.slice (some ⟨g, 0, none⟩) xs.length cap) xs := by
  rcases h.2 with ⟨h1, _⟩ | ⟨g', cap', cur, e, hb, hh, hn, hm, hs, ht⟩
  · cases h1
  · injection e with e1 e2 e3
    injection e1 with e1
    injection e1 with e1
    subst e1 e3
    refine ⟨by simp [nums], .inr ⟨g, cap, cur, rfl, hb, hh, ?_, hm, hs, ?_⟩⟩
    · simp only [List.length_append, List.length_singleton] at hn; omega
    · have h2 := congrArg (List.take xs.length) ht
      rw [List.take_take] at h2
      simp only [List.length_append, List.length_singleton, Nat.mul_one] at h2
      rw [Nat.min_eq_left (by omega)] at h2
      rw [Nat.mul_one, h2]
      simp [nums]
theorem app_one {W : World} {v : Value} {xs : List Int} (y : Int) (ty : TypeId) (h : Row W v xs) (hl : xs.length + 1 ≤ 1000) :
    ∃ v1 w1, (Builtin.append_ #[23, 23] ty #[v, .slice (some ⟨W.heap.size, 0, none⟩) 1 1]).run Tryd.prog (W.alloc (.cells #[.int .i64 y] 3)) = .ok v1 w1 ∧
      Row w1 v1 (xs ++ [y]) ∧ Row w1 v xs ∧ Fr (fun k => v.ownBlock = some k) W w1 ∧ ((v1.ownBlock = v.ownBlock ∧ ∀ w3, Row w3 v1 (xs ++ [y]) → Row w3 v xs) ∨ ∃ b, v1.ownBlock = some b ∧ W.heap.size ≤ b) := by
  obtain ⟨i0, hi, hzz⟩ := Option.map_eq_some_iff.1 info3
  simp only [Prod.mk.injEq] at hzz
  obtain ⟨hz0, hz1, hz2⟩ := hzz
  have hnews : ∀ j u, ([.int .i64 y] : List Value)[j]? = some u → (W.alloc (.cells #[.int .i64 y] 3)).cell? ((⟨W.heap.size, 0, none⟩ : Addr).add j) = some u := by
    intro j u hj
    rw [add_plain]
    exact cell_new (by simpa using hj)
  have h1 : ∀ u ∈ ([.int .i64 y] : List Value), u.oneCell' = true := by intro u hu; rw [List.mem_singleton.1 hu]; rfl
  have hn1 : (nums .i64 (xs ++ [y])) = nums .i64 xs ++ [.int .i64 y] := by simp [nums]
  have hA : Fr (fun _ => False) W (W.alloc (.cells #[.int .i64 y] 3)) := (Fr.refl _ _).alloc _
  have hR := h.fr hA (fun _ _ h => h)
  have fresh : ∀ (cap : Nat) (cs : Array Value), xs.length + 1 ≤ cap → cap ≤ maxLen → cs.size = cap → cs.toList.take (xs.length + 1) = nums .i64 (xs ++ [y]) →
      Row ((W.alloc (.cells #[.int .i64 y] 3)).drew.alloc (.cells cs 3)) (.slice (some ⟨(W.alloc (.cells #[.int .i64 y] 3)).heap.size, 0, none⟩) (xs.length + 1) cap) (xs ++ [y]) ∧ Row ((W.alloc (.cells #[.int .i64 y] 3)).drew.alloc (.cells cs 3)) v xs ∧
      Fr (fun k => v.ownBlock = some k) W ((W.alloc (.cells #[.int .i64 y] 3)).drew.alloc (.cells cs 3)) := by
    intro cap cs hc hcm hcs htk
    have hB : Fr (fun _ => False) W ((W.alloc (.cells #[.int .i64 y] 3)).drew.alloc (.cells cs 3)) := hA.drew.alloc _
    refine ⟨⟨by simp [nums], .inr ⟨_, cap, cs, by simp, Nat.zero_le _, heap_alloc_new _ _, by simpa using hc, hcm, by simpa using hcs, by simpa using htk⟩⟩, h.fr hB (fun _ _ h => h), hB.mono (fun _ _ h => h.elim)⟩
  rcases h.2 with ⟨rfl, h0⟩ | ⟨g, cap, cur, rfl, _, hg, hnc, hcm, hcs, htake⟩
  · obtain rfl : xs = [] := List.eq_nil_of_length_eq_zero h0
    have hr := run_append_nil (P := Tryd.prog) (W.alloc (.cells #[.int .i64 y] 3)) 23 ty 3 i0 _ Tryd.underlying23 hi hz0 ⟨W.heap.size, 0, none⟩ 1 1 [.int .i64 y] (by simp [hz1]) hnews (by omega) (by omega) (by rw [hz2]; omega)
    refine ⟨_, _, hr, ?_⟩
    have hge := grownCap_ge (W.alloc (.cells #[.int .i64 y] 3)) 1 0 3
    have hcm := grownCap_le_maxLen (W.alloc (.cells #[.int .i64 y] 3)) 1 0 3 (by unfold maxLen; omega)
    obtain ⟨f1, f2, f3⟩ := fresh (grownCap (W.alloc (.cells #[.int .i64 y] 3)) 1 0 3) (([.int .i64 y] : List Value).toArray ++ Builtin.zeroCells (Value.int .i64 0).cells (grownCap (W.alloc (.cells #[.int .i64 y] 3)) 1 0 3 - 1)) (by simpa using hge) hcm
      (by simp only [Array.size_append, List.size_toArray, size_zeroCells, List.length_singleton]; have : (Value.int .i64 0).cells.size = 1 := rfl; rw [this]; omega) (by simp [nums])
    exact ⟨by simpa using f1, f2, f3, .inr ⟨_, rfl, by simp⟩⟩
  · have hgl := (Array.getElem?_eq_some_iff.1 hg).1
    have hgA : (W.alloc (.cells #[.int .i64 y] 3)).heap[g]? = some (.cells cur 3 (0, 0)) := heap_old hg
    by_cases hroom : xs.length + 1 ≤ cap
    · have hr := run_append_room (P := Tryd.prog) (W.alloc (.cells #[.int .i64 y] 3)) 23 ty 3 i0 Tryd.underlying23 hi g xs.length cap cur hgA ⟨W.heap.size, 0, none⟩ 1 1 [.int .i64 y] (by simp [hz1]) hnews h1 hroom (by rw [hz1]; simp only [List.length_singleton]; omega)
      have hsr := setRow_heap (W.alloc (.cells #[.int .i64 y] 3)) g cur (cur.toList.take (xs.length * i0.size) ++ [Value.int .i64 y] ++ cur.toList.drop (xs.length * i0.size + [Value.int .i64 y].length)).toArray 3 (0, 0) hgA
      rw [hz1] at hr hsr
      simp only [Nat.mul_one, List.length_singleton] at hr hsr htake
      refine ⟨_, _, hr, ⟨by simp [nums], .inr ⟨g, cap, _, by simp, Nat.zero_le _, hsr, by simpa using hroom, hcm, ?_, ?_⟩⟩, ⟨by simp [nums], .inr ⟨g, cap, _, rfl, Nat.zero_le _, hsr, hnc, hcm, ?_, ?_⟩⟩, ⟨rfl, rfl, rfl, by simp [World.setRow], fun k hk hne => ?_⟩, .inl ⟨rfl, fun w3 h3 => row_prefix h3⟩⟩
      · simp only [List.size_toArray, List.length_append, List.length_take, List.length_drop, Array.length_toList, List.length_singleton]; omega
      · rw [htake, hn1]
        simpa using take_snd (nums .i64 xs) (Value.int .i64 y) (cur.toList.drop (xs.length + 1)) (nums_length _ _)
      · simp only [List.size_toArray, List.length_append, List.length_take, List.length_drop, Array.length_toList, List.length_singleton]; omega
      · rw [htake]
        simpa using take_fst (nums .i64 xs) (Value.int .i64 y) (cur.toList.drop (xs.length + 1)) (nums_length _ _)
      · refine (setRow_other _ g k _ (fun e => hne (by simp [Value.ownBlock, e]))).trans ?_
        exact Below.heap_alloc _ _ _ hk
    · have holds : ∀ j u, (nums .i64 xs)[j]? = some u → (W.alloc (.cells #[.int .i64 y] 3)).cell? ((⟨g, 0, none⟩ : Addr).add j) = some u := World.ownsRow.cells (g := g) hR rfl
      have hr := run_append_grow (P := Tryd.prog) (W.alloc (.cells #[.int .i64 y] 3)) 23 ty 3 i0 _ Tryd.underlying23 hi hz0 ⟨g, 0, none⟩ xs.length cap (nums .i64 xs) (by simp [nums, hz1]) holds ⟨W.heap.size, 0, none⟩ 1 1 [.int .i64 y] (by simp [hz1]) hnews (by omega) (by omega) (growslice_fits (by omega) (by rw [hz2]; omega))
      refine ⟨_, _, hr, ?_⟩
      have hge := grownCap_ge (W.alloc (.cells #[.int .i64 y] 3)) (xs.length + 1) cap 3
      have hcm := grownCap_le_maxLen (W.alloc (.cells #[.int .i64 y] 3)) (xs.length + 1) cap 3 (by unfold maxLen; omega)
      obtain ⟨f1, f2, f3⟩ := fresh (grownCap (W.alloc (.cells #[.int .i64 y] 3)) (xs.length + 1) cap 3) ((nums .i64 xs).toArray ++ ([.int .i64 y] : List Value).toArray ++ Builtin.zeroCells (Value.int .i64 0).cells (grownCap (W.alloc (.cells #[.int .i64 y] 3)) (xs.length + 1) cap 3 - (xs.length + 1))) hge hcm
        (by simp only [Array.size_append, List.size_toArray, size_zeroCells, List.length_singleton, nums_length]; have : (Value.int .i64 0).cells.size = 1 := rfl; rw [this]; omega) (by rw [hn1]; simpa using take_snd (nums .i64 xs) (Value.int .i64 y) _ (nums_length _ _))
      exact ⟨by simpa using f1, f2, f3, .inr ⟨_, rfl, by simp⟩⟩
end Go.Proofs.YtnabgijdbcdpmaaDoor

namespace Go.Proofs.YtnabgijdbcdpmaaDoor
open Go.RowKit Go.Rg Go.Proofs.YtnabgijdbcdpmaaDoor.PRightsMatchesReference Go.Proofs.YtnabgijdbcdpmaaDoorW.PrintWords
set_option linter.unusedVariables false
set_option linter.unusedSimpArgs false

/-- A list of numbers in new memory. -/
def Fresh (w : World) (w' : World) (v : Value) (xs : List Int) : Prop := (Kd.int .i64).R 3 w' w.heap.size (fun k => w.heap.size ≤ k) v xs ∧ Below w.heap.size w w'

theorem clone_any (ad : Addr) (c : Nat) (xs : List Int) (w : World) (hr : (Kd.int .i64).C w (some ad) xs.length xs) (hl : xs.length ≤ 1000) :
    Calls Tryd.prog 71 #[.slice (some ad) xs.length c] w fun e w' => ∃ v, e = .returned v ∧ Fresh w w' v xs := by
  have hb : Below w.heap.size w (w.alloc (.cells #[] 3)) := (Below.refl _ _).alloc (Nat.le_refl _) _
  have hown : (Kd.int .i64).R 3 (w.alloc (.cells #[] 3)) w.heap.size (fun k => w.heap.size ≤ k) (.slice (some ⟨w.heap.size, 0, none⟩) 0 0) [] :=
    Kd.R_of_own (own_lit w w.heap.size 3 .i64 [] (Nat.le_refl _) (by simp)) (fun k hk => by simp [Value.ownBlock] at hk; omega)
  have hr2 := Kd.C_below hr hb
  have HB := Lib.hid hb; clear hb
  have HO := Lib.hid hown; clear hown
  have HR := Lib.hid hr2; clear hr2 hr
  have hz := Nat.le_refl w.heap.size
  have hsz : w.heap.size ≤ (w.alloc (.cells #[] 3)).heap.size := by simp
  have HSZ := Lib.hid hsz; clear hsz
  have heq : ∀ W, (binOp .eql 23 (.slice (some ad) xs.length c) (.slice none 0 0)).run Tryd.prog W = .ok (.bool false) W := fun W => Lib.run_eql_slice_nil W 23 3 (some ad) xs.length c 0 0 Tryd.underlying23
  go_enter Tryd.func71, Tryd.ntmps71
  go_wp2_with (at_builtin; refine Kd.R_append_rows (Kd.int .i64) (w0 := w) (Rr := fun x cs => cs = [.int .i64 x]) w.heap.size rfl (.tmp 5) (.tmp 6) 23 3 (.int .i64 0) 8 rfl Tryd.underlying23 info3 rfl (by decide) (by decide) _ [] xs (some ad) xs.length c (fun k => w.heap.size ≤ k) (fun _ => False) rfl rfl HO.out HR.out (fun _ _ h => h) (fun _ h => h.elim) (fun k hk => Nat.le_trans HSZ.out hk) HB.out HSZ.out (by simp only [List.length_nil]; omega) ?_; intro v1 w1 h1 h2 h3 h4)
  rw [List.nil_append] at h1
  have H1 := Lib.hid h1; clear h1
  have H2 := Lib.hid h2; clear h2 h3 h4
  go_wp2_with fail
  go_ret
  exact ⟨_, rfl, H1.out, H2.out⟩
end Go.Proofs.YtnabgijdbcdpmaaDoor

namespace Go.Proofs.YtnabgijdbcdpmaaDoor
open Go.RowKit Go.Rg Go.Proofs.YtnabgijdbcdpmaaDoor.PRightsMatchesReference Go.Proofs.YtnabgijdbcdpmaaDoorW.PrintWords
set_option linter.unusedVariables false
set_option linter.unusedSimpArgs false

theorem take_step {a b : List Int} {i : Nat} (ha : i < a.length) (hb : i < b.length) (h : a.take i = b.take i) (he : a[i] = b[i]) : a.take (i + 1) = b.take (i + 1) := by
  rw [List.take_succ_eq_append_getElem ha, List.take_succ_eq_append_getElem hb, h, he]
theorem ne_at {a b : List Int} {i : Nat} (ha : i < a.length) (hb : i < b.length) (he : a[i] ≠ b[i]) : decide (a = b) = false := by
  rw [decide_eq_false_iff_not]; intro h; subst h; exact he rfl
theorem ne_len {a b : List Int} (h : a.length ≠ b.length) : decide (a = b) = false := by
  rw [decide_eq_false_iff_not]; intro e; subst e; exact h rfl
set_option maxRecDepth 100000 in
theorem equal_any (A0 : Option Addr) (c0 : Nat) (a : List Int) (A1 : Option Addr) (c1 : Nat) (b : List Int) (w : World) (ha : (Kd.int .i64).C w A0 a.length a) (hc0 : a.length ≤ c0) (hb : (Kd.int .i64).C w A1 b.length b) (hc1 : b.length ≤ c1) :
    Calls Tryd.prog 56 #[.slice A0 a.length c0, .slice A1 b.length c1] w fun e w' => e = .returned (.bool (decide (a = b))) ∧ Below w.heap.size w w' := by
  have hma : a.length ≤ 9223372036854775807 := ha.2.1
  have hmb : b.length ≤ 9223372036854775807 := hb.2.1
  have HA := Lib.hid (And.intro ha hb); clear ha hb
  go_enter Tryd.func56, Tryd.ntmps56
  by_cases hl : a.length = b.length
  · have hne : ((a.length : Int) != (b.length : Int)) = false := by rw [bneD]; simp [hl]
    go_wp2_with fail
    go_loopw [13] (fun iv wr => ∃ i : Nat, i ≤ a.length ∧ iv = .int .i64 i ∧ Hid (a.take i = b.take i ∧ Below w.heap.size w wr)) (fun iv wr => a.length - (intOf iv).toNat)
    case atStart => exact ⟨0, Nat.zero_le _, rfl, Lib.hid ⟨rfl, Below.refl _ _⟩⟩
    case round =>
      obtain ⟨i, hi, rfl, HI⟩ := hrel
      by_cases hil : i < a.length
      · have hiI : (i : Int) < (a.length : Int) := by omega
        have hiJ : (i : Int) < (b.length : Int) := by omega
        have hib : i < b.length := by omega
        obtain ⟨xd, e, hx⟩ := Kd.at_int (Kd.C_below HA.out.1 HI.out.2) (i : Int) (by omega) hiI
        cases e
        obtain ⟨yd, e, hy⟩ := Kd.at_int (Kd.C_below HA.out.2 HI.out.2) (i : Int) (by omega) hiJ
        cases e
        simp only [Int.toNat_natCast] at hx hy
        rw [rd_get hil] at hx
        rw [rd_get hib] at hy
        have h1 := take_step hil hib HI.out.1
        have h2 := ne_at hil hib
        generalize a[i] = x at *
        generalize b[i] = y at *
        have eX := cell_ext hx
        have eY := cell_ext hy
        cases hxy : (x != y) with
        | false =>
          have HN := Lib.hid (h1 (by simpa using hxy)); clear h1 h2
          go_wp2_with fail
          refine region_ext (by kernel_rfl) (by kernel_rfl) ?_
          repeat (go_big_quiet_step (fail))
          refine wpQuiet_nil ?_
          rintro W' ⟨X, rfl⟩
          go_wp2_with fail
          go_roundw
          case rel => exact ⟨i + 1, by omega, by go_num, Lib.hid ⟨HN.out, HI.out.2.trans (X.2.below (fun _ _ h => h) HI.out.2.size)⟩⟩
          case measure => simp [intOf]; omega
        | true =>
          have HN := Lib.hid (h2 (by simpa using hxy)); clear h1 h2
          go_wp2_with fail
          refine region_ext (by kernel_rfl) (by kernel_rfl) ?_
          repeat (go_big_quiet_step (fail))
          refine wpQuiet_nil ?_
          rintro W' ⟨X, rfl⟩
          go_wp2_with fail
          go_ret
          exact ⟨ret_bool HN.out.symm, HI.out.2.trans (X.2.below (fun _ _ h => h) HI.out.2.size)⟩
      · obtain rfl : i = a.length := by omega
        have HN := Lib.hid (show decide (a = b) = true by
          have := HI.out.1
          rw [List.take_length, hl, List.take_length] at this
          exact decide_eq_true this)
        have hfin : ¬ ((a.length : Int) < (b.length : Int)) := by omega
        go_wp2_with fail
        go_ret
        exact ⟨ret_bool HN.out.symm, HI.out.2⟩
  · have hne : ((a.length : Int) != (b.length : Int)) = true := by rw [bneD]; simp; omega
    have HN := Lib.hid (ne_len hl)
    go_wp2_with fail
    go_ret
    exact ⟨ret_bool HN.out.symm, Below.refl _ _⟩
set_option maxRecDepth 100000 in
theorem ints_any (A0 : Option Addr) (c0 : Nat) (a : List Int) (A1 : Option Addr) (c1 : Nat) (b : List Int) (w : World) (ha : (Kd.int .i64).C w A0 a.length a) (hc0 : a.length ≤ c0) (hb : (Kd.int .i64).C w A1 b.length b) (hc1 : b.length ≤ c1) :
    Calls Tryd.prog 22 #[.slice A0 a.length c0, .slice A1 b.length c1] w fun e w' => e = .returned (.bool (decide (a = b))) ∧ Below w.heap.size w w' := by
  have hma : a.length ≤ 9223372036854775807 := ha.2.1
  have hmb : b.length ≤ 9223372036854775807 := hb.2.1
  have HA := Lib.hid (And.intro ha hb); clear ha hb
  go_enter Tryd.func22, Tryd.ntmps22
  by_cases hl : a.length = b.length
  · have hne : ((a.length : Int) != (b.length : Int)) = false := by rw [bneD]; simp [hl]
    go_wp2_with fail
    go_loopw [5] (fun iv wr => ∃ i : Nat, i ≤ a.length ∧ iv = .int .i64 i ∧ Hid (a.take i = b.take i ∧ Below w.heap.size w wr)) (fun iv wr => a.length - (intOf iv).toNat)
    case atStart => exact ⟨0, Nat.zero_le _, rfl, Lib.hid ⟨rfl, Below.refl _ _⟩⟩
    case round =>
      obtain ⟨i, hi, rfl, HI⟩ := hrel
      by_cases hil : i < a.length
      · have hiI : (i : Int) < (a.length : Int) := by omega
        have hiJ : (i : Int) < (b.length : Int) := by omega
        have hib : i < b.length := by omega
        obtain ⟨xd, e, hx⟩ := Kd.at_int (Kd.C_below HA.out.1 HI.out.2) (i : Int) (by omega) hiI
        cases e
        obtain ⟨yd, e, hy⟩ := Kd.at_int (Kd.C_below HA.out.2 HI.out.2) (i : Int) (by omega) hiJ
        cases e
        simp only [Int.toNat_natCast] at hx hy
        rw [rd_get hil] at hx
        rw [rd_get hib] at hy
        have h1 := take_step hil hib HI.out.1
        have h2 := ne_at hil hib
        generalize a[i] = x at *
        generalize b[i] = y at *
        have eX := cell_ext hx
        have eY := cell_ext hy
        cases hxy : (x != y) with
        | false =>
          have HN := Lib.hid (h1 (by simpa using hxy)); clear h1 h2
          go_wp2_with fail
          refine region_ext (by kernel_rfl) (by kernel_rfl) ?_
          repeat (go_big_quiet_step (fail))
          refine wpQuiet_nil ?_
          rintro W' ⟨X, rfl⟩
          go_wp2_with fail
          go_roundw
          case rel => exact ⟨i + 1, by omega, by go_num, Lib.hid ⟨HN.out, HI.out.2.trans (X.2.below (fun _ _ h => h) HI.out.2.size)⟩⟩
          case measure => simp [intOf]; omega
        | true =>
          have HN := Lib.hid (h2 (by simpa using hxy)); clear h1 h2
          go_wp2_with fail
          refine region_ext (by kernel_rfl) (by kernel_rfl) ?_
          repeat (go_big_quiet_step (fail))
          refine wpQuiet_nil ?_
          rintro W' ⟨X, rfl⟩
          go_wp2_with fail
          go_ret
          exact ⟨ret_bool HN.out.symm, HI.out.2.trans (X.2.below (fun _ _ h => h) HI.out.2.size)⟩
      · obtain rfl : i = a.length := by omega
        have HN := Lib.hid (show decide (a = b) = true by
          have := HI.out.1
          rw [List.take_length, hl, List.take_length] at this
          exact decide_eq_true this)
        have hfin : ¬ ((a.length : Int) < (b.length : Int)) := by omega
        go_wp2_with fail
        go_ret
        exact ⟨ret_bool HN.out.symm, HI.out.2⟩
  · have hne : ((a.length : Int) != (b.length : Int)) = true := by rw [bneD]; simp; omega
    have HN := Lib.hid (ne_len hl)
    go_wp2_with fail
    go_ret
    exact ⟨ret_bool HN.out.symm, Below.refl _ _⟩

theorem rising_iff : ∀ (n : List Int), rising n = true ↔ ∀ i (h : i + 1 < n.length), n[i] < n[i + 1]
  | [] => by simp [rising]
  | [a] => by simp [rising]
  | a :: b :: r => by
    have ih := rising_iff (b :: r)
    simp only [rising, Bool.and_eq_true, decide_eq_true_eq]
    rw [ih]
    constructor
    · rintro ⟨h1, h2⟩ i hi
      cases i with
      | zero => exact h1
      | succ i => exact h2 i (by simp at hi ⊢; omega)
    · intro h
      exact ⟨h 0 (by simp), fun i hi => h (i + 1) (by simp at hi ⊢; omega)⟩
def upTo (n : List Int) (k : Nat) : Prop := ∀ i (h : i + 1 < n.length), i + 1 < k → n[i] < n[i + 1]
theorem upTo.step {n : List Int} {k : Nat} (h : upTo n k) (hk : k < n.length) (h2 : 0 < k → rd n ((k : Int) - 1) < n[k]) : upTo n (k + 1) := fun i hi hik => by
  by_cases e : i + 1 = k
  · subst e
    have := h2 (by omega)
    rwa [show (((i + 1 : Nat) : Int) - 1) = ((i : Nat) : Int) by omega, rd_get (by omega)] at this
  · exact h i hi (by omega)
theorem not_rising {n : List Int} {k : Nat} (hk : k < n.length) (h0 : 0 < k) (h : n[k] ≤ rd n ((k : Int) - 1)) : rising n = false := by
  rw [Bool.eq_false_iff]
  intro hr
  have := (rising_iff n).1 hr (k - 1) (by omega)
  rw [show (k : Int) - 1 = ((k - 1 : Nat) : Int) by omega, rd_get (by omega)] at h
  have e : n[k - 1 + 1]'(by omega) = n[k] := by congr 1; omega
  rw [e] at this
  omega
set_option maxRecDepth 100000 in
theorem rising_any (A : Option Addr) (c : Nat) (xs : List Int) (w : World) (hr : (Kd.int .i64).C w A xs.length xs) (hc : xs.length ≤ c) :
    Calls Tryd.prog 42 #[.slice A xs.length c] w fun e w' => e = .returned (.bool (rising xs)) ∧ Below w.heap.size w w' := by
  have hm : xs.length ≤ 9223372036854775807 := hr.2.1
  have HR := Lib.hid hr; clear hr
  go_enter Tryd.func42, Tryd.ntmps42
  go_wp2_with fail
  go_loopw [6] (fun iv wr => ∃ i : Nat, i ≤ xs.length ∧ iv = .int .i64 i ∧ Hid (upTo xs i ∧ Below w.heap.size w wr)) (fun iv wr => xs.length - (intOf iv).toNat)
  case atStart => exact ⟨0, Nat.zero_le _, rfl, Lib.hid ⟨fun i h h2 => absurd h2 (Nat.not_lt_zero _), Below.refl _ _⟩⟩
  case round =>
    obtain ⟨i, hi, rfl, HI⟩ := hrel
    by_cases hil : i < xs.length
    · have hiI : (i : Int) < (xs.length : Int) := by omega
      obtain ⟨pd, e, hx⟩ := Kd.at_int (Kd.C_below HR.out HI.out.2) (i : Int) (by omega) hiI
      cases e
      simp only [Int.toNat_natCast] at hx
      have hx1 : 0 < i → wr.cell? (pd.add (i - 1)) = some (.int .i64 (rd xs ((i : Int) - 1))) := fun h0 => by
        obtain ⟨pd', e, hx⟩ := Kd.at_int (Kd.C_below HR.out HI.out.2) ((i : Int) - 1) (by omega) (by omega)
        cases e
        rwa [show ((i : Int) - 1).toNat = i - 1 by omega] at hx
      rw [rd_get hil] at hx
      have hst := HI.out.1.step hil
      have hno := not_rising hil
      generalize xs[i] = y at *
      generalize rd xs ((i : Int) - 1) = z at *
      have HY := Lib.hid (And.intro hst hno); clear hst hno
      have eX := cell_ext hx
      have hcase : decide (0 < i) = false ∨ (decide (0 < i) = true ∧ decide (y ≤ z) = true) ∨ (decide (0 < i) = true ∧ decide (y ≤ z) = false) := by
        simp only [decide_eq_true_eq, decide_eq_false_iff_not]
        omega
      rcases hcase with n2 | ⟨n2, n3⟩ | ⟨n2, n3⟩
      · have HN := Lib.hid (HY.out.1 (fun h => by simp only [decide_eq_false_iff_not] at n2; omega))
        go_wp2_with fail
        refine region_ext (by kernel_rfl) (by kernel_rfl) ?_
        repeat (go_big_quiet_step (fail))
        refine wpQuiet_nil ?_
        rintro W' ⟨X, rfl⟩
        go_wp2_with fail
        go_roundw
        case rel => exact ⟨i + 1, by omega, by go_num, Lib.hid ⟨HN.out, HI.out.2.trans (X.2.below (fun _ _ h => h) HI.out.2.size)⟩⟩
        case measure => simp [intOf]; omega
      · have hi0 : 0 < i := by simp only [decide_eq_true_eq] at n2; omega
        have HN := Lib.hid (HY.out.2 hi0 (by simp only [decide_eq_true_eq] at n3; omega))
        have eZ := cell_ext (hx1 hi0)
        have hwi : wrap64 ((i : Int) - 1) = (i : Int) - 1 := by unfold wrap64; omega
        have htn : ((i : Int) - 1).toNat = i - 1 := by omega
        go_wp2_with fail
        refine region_ext (by kernel_rfl) (by kernel_rfl) ?_
        repeat (go_big_quiet_step (fail))
        refine wpQuiet_nil ?_
        rintro W' ⟨X, rfl⟩
        go_wp2_with fail
        go_ret
        exact ⟨ret_bool HN.out.symm, HI.out.2.trans (X.2.below (fun _ _ h => h) HI.out.2.size)⟩
      · have hi0 : 0 < i := by simp only [decide_eq_true_eq] at n2; omega
        have HN := Lib.hid (HY.out.1 (fun _ => by simp only [decide_eq_false_iff_not] at n3; omega))
        have eZ := cell_ext (hx1 hi0)
        have hwi : wrap64 ((i : Int) - 1) = (i : Int) - 1 := by unfold wrap64; omega
        have htn : ((i : Int) - 1).toNat = i - 1 := by omega
        go_wp2_with fail
        refine region_ext (by kernel_rfl) (by kernel_rfl) ?_
        repeat (go_big_quiet_step (fail))
        refine wpQuiet_nil ?_
        rintro W' ⟨X, rfl⟩
        go_wp2_with fail
        go_roundw
        case rel => exact ⟨i + 1, by omega, by go_num, Lib.hid ⟨HN.out, HI.out.2.trans (X.2.below (fun _ _ h => h) HI.out.2.size)⟩⟩
        case measure => simp [intOf]; omega
    · obtain rfl : i = xs.length := by omega
      have HN := Lib.hid ((rising_iff xs).2 fun i h => HI.out.1 i h h)
      go_wp2_with fail
      go_ret
      exact ⟨ret_bool HN.out.symm, HI.out.2⟩
/-- What cmp.Compare answers. -/
def cmpV (x y : Int) : Int := if x < y then -1 else if y < x then 1 else 0
theorem nan_any (x : Int) (w : World) : Calls Tryd.prog 79 #[.int .i64 x] w fun e w' => e = .returned (.bool false) ∧ w' = w := by
  go_enter Tryd.func79, Tryd.ntmps79
  go_wp2
  go_ret
  exact ⟨by simp, rfl⟩
theorem cmp_any (x y : Int) (w : World) : Calls Tryd.prog 74 #[.int .i64 x, .int .i64 y] w fun e w' => e = .returned (.int .i64 (cmpV x y)) ∧ w' = w := by
  have h3 : (decide (x < y) = true ∧ cmpV x y = -1) ∨ (decide (x < y) = false ∧ decide (y < x) = true ∧ cmpV x y = 1) ∨ (decide (x < y) = false ∧ decide (y < x) = false ∧ cmpV x y = 0) := by
    unfold cmpV
    by_cases h1 : x < y
    · simp [h1]
    · by_cases h2 : y < x <;> simp [h1, h2]
  go_enter Tryd.func74, Tryd.ntmps74
  rcases h3 with ⟨h1, h4⟩ | ⟨h1, h2, h4⟩ | ⟨h1, h2, h4⟩ <;> rw [h4] <;> clear h4
  all_goals
    go_wp2_with fail
    refine (nan_any _ _).mono ?_
    rintro e w1 ⟨rfl, rfl⟩
    go_wp2_with fail
    refine (nan_any _ _).mono ?_
    rintro e w1 ⟨rfl, rfl⟩
    go_wp2_with fail
    go_ret
    exact ⟨rfl, rfl⟩

/-- The order of lists, number by number. -/
def lexC : List Int → List Int → Int
  | [], [] => 0
  | [], _ :: _ => -1
  | _ :: _, [] => 1
  | a :: r, b :: q => if a < b then -1 else if b < a then 1 else lexC r q
theorem lexC_at {a b : List Int} {i : Nat} (ha : i < a.length) (hb : i < b.length) : (cmpV a[i] b[i] ≠ 0 → lexC (a.drop i) (b.drop i) = cmpV a[i] b[i]) ∧ (cmpV a[i] b[i] = 0 → lexC (a.drop i) (b.drop i) = lexC (a.drop (i + 1)) (b.drop (i + 1))) := by
  rw [List.drop_eq_getElem_cons ha, List.drop_eq_getElem_cons hb]
  unfold cmpV
  simp only [lexC]
  by_cases h1 : a[i] < b[i]
  · simp [h1]
  · by_cases h2 : b[i] < a[i] <;> simp [h1, h2]
theorem lexC_over {a b : List Int} {i : Nat} (ha : i < a.length) (hb : b.length ≤ i) : lexC (a.drop i) (b.drop i) = 1 := by
  rw [List.drop_eq_getElem_cons ha, List.drop_of_length_le hb]; rfl
theorem lexC_done {a b : List Int} : lexC (a.drop a.length) (b.drop a.length) = if a.length < b.length then -1 else 0 := by
  rw [List.drop_of_length_le (Nat.le_refl _)]
  by_cases h : a.length < b.length
  · rw [if_pos h, List.drop_eq_getElem_cons h]; rfl
  · rw [if_neg h, List.drop_of_length_le (by omega)]; rfl
set_option maxRecDepth 100000 in
theorem compare_any (A0 : Option Addr) (c0 : Nat) (a : List Int) (A1 : Option Addr) (c1 : Nat) (b : List Int) (w : World) (ha : (Kd.int .i64).C w A0 a.length a) (hc0 : a.length ≤ c0) (hb : (Kd.int .i64).C w A1 b.length b) (hc1 : b.length ≤ c1) :
    Calls Tryd.prog 51 #[.slice A0 a.length c0, .slice A1 b.length c1] w fun e w' => e = .returned (.int .i64 (lexC a b)) ∧ Below w.heap.size w w' := by
  have hma : a.length ≤ 9223372036854775807 := ha.2.1
  have hmb : b.length ≤ 9223372036854775807 := hb.2.1
  have HA := Lib.hid (And.intro ha hb); clear ha hb
  go_enter Tryd.func51, Tryd.ntmps51
  go_wp2_with fail
  go_loopw [11] (fun iv wr => ∃ i : Nat, i ≤ a.length ∧ iv = .int .i64 i ∧ Hid (lexC a b = lexC (a.drop i) (b.drop i) ∧ Below w.heap.size w wr)) (fun iv wr => a.length - (intOf iv).toNat)
  case atStart => exact ⟨0, Nat.zero_le _, rfl, Lib.hid ⟨rfl, Below.refl _ _⟩⟩
  case round =>
    obtain ⟨i, hi, rfl, HI⟩ := hrel
    by_cases hil : i < a.length
    · have hiI : (i : Int) < (a.length : Int) := by omega
      obtain ⟨xd, e, hx⟩ := Kd.at_int (Kd.C_below HA.out.1 HI.out.2) (i : Int) (by omega) hiI
      cases e
      simp only [Int.toNat_natCast] at hx
      rw [rd_get hil] at hx
      by_cases hib : i < b.length
      · have hiJ : (i : Int) < (b.length : Int) := by omega
        have hiK : ¬ (b.length : Int) ≤ (i : Int) := by omega
        obtain ⟨yd, e, hy⟩ := Kd.at_int (Kd.C_below HA.out.2 HI.out.2) (i : Int) (by omega) hiJ
        cases e
        simp only [Int.toNat_natCast] at hy
        rw [rd_get hib] at hy
        have hL := lexC_at hil hib
        generalize a[i] = x at *
        generalize b[i] = y at *
        have HLX := Lib.hid hL; clear hL
        go_wp2_with fail
        refine (cmp_any x y wr).mono ?_
        rintro e w1 ⟨rfl, rfl⟩
        generalize cmpV x y = q at *
        cases hq : (q != 0) with
        | true =>
          have HN := Lib.hid (HI.out.1.trans (HLX.out.1 (by simpa using hq)))
          go_wp2_with fail
          go_ret
          exact ⟨ret_int HN.out.symm, HI.out.2⟩
        | false =>
          have HN := Lib.hid (HI.out.1.trans (HLX.out.2 (by simpa using hq)))
          go_wp2_with fail
          go_roundw
          case rel => exact ⟨i + 1, by omega, by go_num, Lib.hid ⟨HN.out, HI.out.2⟩⟩
          case measure => simp [intOf]; omega
      · have hiK : (b.length : Int) ≤ (i : Int) := by omega
        have HN := Lib.hid (HI.out.1.trans (lexC_over hil (by omega)))
        go_wp2_with fail
        go_ret
        exact ⟨ret_int HN.out.symm, HI.out.2⟩
    · obtain rfl : i = a.length := by omega
      have hN := HI.out.1.trans lexC_done
      by_cases hab : a.length < b.length
      · have habI : (a.length : Int) < (b.length : Int) := by omega
        rw [if_pos hab] at hN
        have HN := Lib.hid hN; clear hN
        go_wp2_with fail
        go_ret
        exact ⟨ret_int HN.out.symm, HI.out.2⟩
      · have habI : ¬ (a.length : Int) < (b.length : Int) := by omega
        rw [if_neg hab] at hN
        have HN := Lib.hid hN; clear hN
        go_wp2_with fail
        go_ret
        exact ⟨ret_int HN.out.symm, HI.out.2⟩
/-- What pick answers. -/
def pickV (a n : Int) : Int := if a < 0 then Int.tmod (-(a + 1)) n else Int.tmod a n
theorem pick_any (a n : Int) (h1 : -9223372036854775808 ≤ a) (h2 : a ≤ 9223372036854775807) (hn : 0 < n) (w : World) :
    Calls Tryd.prog 36 #[.int .i64 a, .int .i64 n] w fun e w' => e = .returned (.int .i64 (pickV a n)) ∧ Drawn0 w w' := by
  have hne : (n == 0) = false := by simp; omega
  by_cases h : a < 0
  · have hpk : pickV a n = Int.tmod (-(a + 1)) n := by unfold pickV; rw [if_pos h]
    have hw1 : wrap64 (a + 1) = a + 1 := by unfold wrap64; omega
    have hw2 : wrap64 (-(a + 1)) = -(a + 1) := by unfold wrap64; omega
    have H := Lib.hid hpk
    clear hpk
    go_enter Tryd.func36, Tryd.ntmps36
    go_wp2_with fail
    go_ret
    exact ⟨ret_int (by rw [H.out, Int.neg_tmod]), Drawn0.refl _⟩
  · have hpk : pickV a n = Int.tmod a n := by unfold pickV; rw [if_neg h]
    have H := Lib.hid hpk
    clear hpk
    go_enter Tryd.func36, Tryd.ntmps36
    go_wp2_with fail
    go_ret
    exact ⟨ret_int (by rw [H.out, Int.tmod_eq_emod_of_nonneg (by omega)]), Drawn0.refl _⟩

theorem shr_and (x k : Nat) (hx : x < 2 ^ 62) : (Go.bits .and .i64 ((x : Int) / 2 ^ k) 1 == 1) = x.testBit k := by
  have h1 : ((x : Int) / 2 ^ k) = ((x / 2 ^ k : Nat) : Int) := by simp
  have h2 := Nat.div_le_self x (2 ^ k)
  have h3 := (bits_nat .i64 62 (by decide) (fun n h0 h1 => by rw [IntKind.wrap_i64]; omega) (x / 2 ^ k) 1 (by omega) (by decide)).1
  rw [h1, show ((1 : Int)) = ((1 : Nat) : Int) from rfl, h3]
  rw [Nat.testBit_eq_decide_div_mod_eq, Nat.and_one_is_mod]
  rw [beqD]
  exact decide_eq_decide.2 (by omega)
/-- The numbers below k whose bits are set. -/
def idx (m k : Nat) : List Int := ((List.range k).filter fun i => m.testBit i).map Int.ofNat
theorem idx_succ (m k : Nat) : idx m (k + 1) = idx m k ++ if m.testBit k = true then [(k : Int)] else [] := by
  unfold idx
  rw [List.range_succ, List.filter_append, List.map_append, List.filter_cons]
  split <;> simp
theorem idx_len (m k : Nat) : (idx m k).length ≤ k := by
  unfold idx
  rw [List.length_map]
  exact Nat.le_trans (List.length_filter_le _ _) (by simp)
theorem introw {W : World} {g : Nat} {e : TypeId} {xs : List Int} (hl : xs.length ≤ 9223372036854775807) (h : W.heap[g]? = some (.cells (nums .i64 xs).toArray e (0, 0))) : (Kd.int .i64).C W (some ⟨g, 0, none⟩) xs.length xs := by
  refine ⟨rfl, hl, fun _ => ⟨_, rfl, fun j p hj => ⟨[.int .i64 p], rfl, rfl, fun i u hi => ?_⟩⟩⟩
  obtain ⟨hjl, hp⟩ := List.getElem?_eq_some_iff.1 hj
  cases i with
  | zero =>
    obtain rfl : Value.int .i64 p = u := by simpa using hi
    rw [add_plain]
    refine cell_of h ?_
    simp [nums, hj, Kd.int, Kd.scalar]
  | succ i => simp at hi
set_option maxRecDepth 100000 in
theorem indices_any (m : Nat) (hm : m < 2 ^ 62) (w : World) :
    Calls Tryd.prog 49 #[.int .i64 m] w fun e w' => ∃ v, e = .returned v ∧ Fresh w w' v (idxs m) := by
  have HM := Lib.hid hm
  go_enter Tryd.func49, Tryd.ntmps49
  go_wp2_with fail
  go_loopw [3, 5] (fun ov iv wr => ∃ k : Nat, k ≤ 12 ∧ iv = .int .i64 k ∧ Hid ((Kd.int .i64).R 3 wr w.heap.size (fun k => w.heap.size ≤ k) ov (idx m k) ∧ Below w.heap.size w wr)) (fun ov iv wr => 12 - (intOf iv).toNat)
  case atStart => exact ⟨0, Nat.zero_le _, rfl, Lib.hid ⟨Kd.R_nil _ _ _ _ _, Below.refl _ _⟩⟩
  case round =>
    obtain ⟨k, hk, rfl, HI⟩ := hrel
    obtain ⟨OA, oc, rfl, hoc, hOC⟩ := Kd.R_reads HI.out.1
    clear hOC hoc
    by_cases h1 : k < 12
    · have hkI : (k : Int) < 12 := by omega
      have hk64 : (k : Int) < 64 := by omega
      have hk0 : k < 64 := by omega
      have hq := shr_and m k HM.out
      have hs := idx_succ m k
      have hil := idx_len m k
      generalize m.testBit k = b at *
      have HSc := Lib.hid hs; clear hs
      generalize idx m k = out at *
      cases b with
      | false =>
        go_wp2_with fail
        go_roundw
        case rel => exact ⟨k + 1, by omega, by go_num, Lib.hid ⟨by rw [HSc.out]; simpa using HI.out.1, HI.out.2⟩⟩
        case measure => simp [intOf]; omega
      | true =>
        have hA := (Below.refl wr.heap.size wr).alloc (Nat.le_refl _) (.cells #[.int .i64 (k : Int)] 3)
        have hRow := introw (xs := [(k : Int)]) (by simp) (heap_new (o := .cells #[.int .i64 (k : Int)] 3) (W := wr) rfl)
        have HOX := Lib.hid (And.intro (Kd.R_below HI.out.1 hA) (And.intro hRow (And.intro (HI.out.2.trans (hA.mono HI.out.2.size)) (Nat.le_trans HI.out.2.size hA.size)))); clear hA hRow
        go_wp2_with (at_builtin; go_loud (refine Kd.R_append_rows (Kd.int .i64) (w0 := w) (Rr := fun x cs => cs = [.int .i64 x]) w.heap.size rfl (.tmp 13) (.tmp 15) 23 3 (.int .i64 0) 8 rfl Tryd.underlying23 info3 rfl (by decide) (by decide) _ out [(k : Int)] _ 1 1 (fun k => w.heap.size ≤ k) (fun _ => False) rfl rfl HOX.out.1 HOX.out.2.1 (fun _ _ h => h) (fun _ h => h.elim) (fun k hk => Nat.le_trans HOX.out.2.2.2 hk) HOX.out.2.2.1 HOX.out.2.2.2 (by omega) ?_; intro v1 w7 h1 h2 h3 h4))
        have HJ := Lib.hid (And.intro h1 h2); clear h1 h2 h3 h4
        go_wp2_with fail
        go_roundw
        case rel => exact ⟨k + 1, by omega, by go_num, Lib.hid ⟨by rw [HSc.out]; simpa using HJ.out.1, HJ.out.2⟩⟩
        case measure => simp [intOf]; omega
    · obtain rfl : k = 12 := by omega
      go_wp2_with fail
      go_ret
      exact ⟨_, rfl, HI.out.1, HI.out.2⟩
/-- A clause's cells. -/
def cl8 (c : Cl) : List Value := [.int .i64 c.f0, .int .i64 c.f1, .int .i64 c.f2, .int .i64 c.f3, .int .i64 c.f4, .int .i64 c.f5, .int .i64 c.f6, .int .i64 c.f7]
theorem cl8_get : ∀ (l : List Cl) (j : Nat) (p : Cl) (i : Nat) (u : Value), l[j]? = some p → (cl8 p)[i]? = some u → (l.flatMap cl8)[j * 8 + i]? = some u
  | [], j, p, i, u, h, _ => by simp at h
  | c :: r, 0, p, i, u, h, hi => by
    obtain rfl : c = p := by simpa using h
    have h8 : i < (cl8 c).length := (List.getElem?_eq_some_iff.1 hi).1
    rw [List.flatMap_cons, Nat.zero_mul, Nat.zero_add, List.getElem?_append_left h8]
    exact hi
  | c :: r, j + 1, p, i, u, h, hi => by
    have ih := cl8_get r j p i u (by simpa using h) hi
    have h8 : (cl8 c).length = 8 := rfl
    rw [List.flatMap_cons, List.getElem?_append_right (by omega), h8, show (j + 1) * 8 + i - 8 = j * 8 + i by omega]
    exact ih
theorem clrows {W : World} {g : Nat} {e : TypeId} {l : List Cl} (hl : l.length ≤ 9223372036854775807) (h : W.heap[g]? = some (.cells (l.flatMap cl8).toArray e (0, 0))) : Kd.C k40 W (some ⟨g, 0, none⟩) l.length l := by
  refine ⟨rfl, hl, fun _ => ⟨_, rfl, fun j p hj => ⟨cl8 p, rfl, k40_mk W p, fun i u hi => ?_⟩⟩⟩
  rw [add_plain]
  refine cell_of h ?_
  have := cl8_get l j p i u hj hi
  show (l.flatMap cl8).toArray[j * 8 + i]? = some u
  simpa using this
set_option maxRecDepth 100000 in
theorem clause_any (k n : Int) (w : World) : Calls Tryd.prog 59 #[.int .i64 k, .int .i64 n] w fun e w' => e = .returned (clv ⟨n, k, 255, 255, 0, 50000000, 0, 0⟩) ∧ Below w.heap.size w w' := by
  have hk := heap_new (o := .cells #[.int .i64 n, .int .i64 k, .int .i64 255, .int .i64 255, .int .i64 0, .int .i64 50000000, .int .i64 0, .int .i64 0] 40) (W := w) rfl
  have hb := (Below.refl w.heap.size w).alloc (Nat.le_refl _) (.cells #[.int .i64 n, .int .i64 k, .int .i64 255, .int .i64 255, .int .i64 0, .int .i64 50000000, .int .i64 0, .int .i64 0] 40)
  go_enter Tryd.func59, Tryd.ntmps59
  go_wp2_with fail
  have c0 := cell_of (o := 0) hk rfl
  have c1 := cell_of (o := 1) hk rfl
  have c2 := cell_of (o := 2) hk rfl
  have c3 := cell_of (o := 3) hk rfl
  have c4 := cell_of (o := 4) hk rfl
  have c5 := cell_of (o := 5) hk rfl
  have c6 := cell_of (o := 6) hk rfl
  have c7 := cell_of (o := 7) hk rfl
  refine bodyPost_ret (v := clv ⟨n, k, 255, 255, 0, 50000000, 0, 0⟩) ?_ rfl ⟨rfl, hb⟩
  simp [results, Tryd.results59, go_sem, c0, c1, c2, c3, c4, c5, c6, c7, clv]
theorem lit6 (W : World) : (Instr.buildSlice 24 6 #[(0, clv ⟨1, 1, 255, 255, 0, 50000000, 0, 0⟩), (1, clv ⟨2, 1, 255, 255, 0, 50000000, 0, 0⟩), (2, clv ⟨3, 1, 255, 255, 0, 50000000, 0, 0⟩), (3, clv ⟨1, 2, 255, 255, 0, 50000000, 0, 0⟩), (4, clv ⟨2, 4, 255, 255, 0, 50000000, 0, 3⟩), (5, clv ⟨2, 3, 255, 255, 0, 50000000, 10, 0⟩)]).run Tryd.prog W = .ok (.slice (some ⟨W.heap.size, 0, none⟩) 6 6) (W.alloc (.cells #[.int .i64 1, .int .i64 1, .int .i64 255, .int .i64 255, .int .i64 0, .int .i64 50000000, .int .i64 0, .int .i64 0, .int .i64 2, .int .i64 1, .int .i64 255, .int .i64 255, .int .i64 0, .int .i64 50000000, .int .i64 0, .int .i64 0, .int .i64 3, .int .i64 1, .int .i64 255, .int .i64 255, .int .i64 0, .int .i64 50000000, .int .i64 0, .int .i64 0, .int .i64 1, .int .i64 2, .int .i64 255, .int .i64 255, .int .i64 0, .int .i64 50000000, .int .i64 0, .int .i64 0, .int .i64 2, .int .i64 4, .int .i64 255, .int .i64 255, .int .i64 0, .int .i64 50000000, .int .i64 0, .int .i64 3, .int .i64 2, .int .i64 3, .int .i64 255, .int .i64 255, .int .i64 0, .int .i64 50000000, .int .i64 10, .int .i64 0] 40)) := by kernel_rfl
theorem example_lit {ops : Array Oper} {Q : Exit → Act → World → Prop} {o : Oper} {a : Act} {W : World} (rest : List Oper) (hg : o.guard = none) (ho : o.op = .buildSlice 24 6 #[(0, .tmp 12), (1, .tmp 13), (2, .tmp 14), (3, .tmp 15), (4, .tmp 16), (5, .tmp 17)])
    (h0 : a.eval (.tmp 12) = clv ⟨1, 1, 255, 255, 0, 50000000, 0, 0⟩) (h1 : a.eval (.tmp 13) = clv ⟨2, 1, 255, 255, 0, 50000000, 0, 0⟩) (h2 : a.eval (.tmp 14) = clv ⟨3, 1, 255, 255, 0, 50000000, 0, 0⟩) (h3 : a.eval (.tmp 15) = clv ⟨1, 2, 255, 255, 0, 50000000, 0, 0⟩) (h4 : a.eval (.tmp 16) = clv ⟨2, 4, 255, 255, 0, 50000000, 0, 3⟩) (h5 : a.eval (.tmp 17) = clv ⟨2, 3, 255, 255, 0, 50000000, 10, 0⟩)
    (h : wpList Tryd.prog ops Q rest (a.put o.dst (.slice (some ⟨W.heap.size, 0, none⟩) 6 6)) (W.alloc (.cells #[.int .i64 1, .int .i64 1, .int .i64 255, .int .i64 255, .int .i64 0, .int .i64 50000000, .int .i64 0, .int .i64 0, .int .i64 2, .int .i64 1, .int .i64 255, .int .i64 255, .int .i64 0, .int .i64 50000000, .int .i64 0, .int .i64 0, .int .i64 3, .int .i64 1, .int .i64 255, .int .i64 255, .int .i64 0, .int .i64 50000000, .int .i64 0, .int .i64 0, .int .i64 1, .int .i64 2, .int .i64 255, .int .i64 255, .int .i64 0, .int .i64 50000000, .int .i64 0, .int .i64 0, .int .i64 2, .int .i64 4, .int .i64 255, .int .i64 255, .int .i64 0, .int .i64 50000000, .int .i64 0, .int .i64 3, .int .i64 2, .int .i64 3, .int .i64 255, .int .i64 255, .int .i64 0, .int .i64 50000000, .int .i64 10, .int .i64 0] 40))) : wpList Tryd.prog ops Q (o :: rest) a W := by
  refine wpList_plain hg fun K hK => ?_
  unfold Oper.wp
  have e : (execOp a.eval o).run Tryd.prog W = .ok (.value (.slice (some ⟨W.heap.size, 0, none⟩) 6 6)) (W.alloc (.cells #[.int .i64 1, .int .i64 1, .int .i64 255, .int .i64 255, .int .i64 0, .int .i64 50000000, .int .i64 0, .int .i64 0, .int .i64 2, .int .i64 1, .int .i64 255, .int .i64 255, .int .i64 0, .int .i64 50000000, .int .i64 0, .int .i64 0, .int .i64 3, .int .i64 1, .int .i64 255, .int .i64 255, .int .i64 0, .int .i64 50000000, .int .i64 0, .int .i64 0, .int .i64 1, .int .i64 2, .int .i64 255, .int .i64 255, .int .i64 0, .int .i64 50000000, .int .i64 0, .int .i64 0, .int .i64 2, .int .i64 4, .int .i64 255, .int .i64 255, .int .i64 0, .int .i64 50000000, .int .i64 0, .int .i64 3, .int .i64 2, .int .i64 3, .int .i64 255, .int .i64 255, .int .i64 0, .int .i64 50000000, .int .i64 10, .int .i64 0] 40)) := by
    unfold execOp
    rw [ho]
    have e2 : ((#[(0, .tmp 12), (1, .tmp 13), (2, .tmp 14), (3, .tmp 15), (4, .tmp 16), (5, .tmp 17)] : Array (Nat × Operand)).map fun (i, x) => (i, a.eval x)) = #[(0, clv ⟨1, 1, 255, 255, 0, 50000000, 0, 0⟩), (1, clv ⟨2, 1, 255, 255, 0, 50000000, 0, 0⟩), (2, clv ⟨3, 1, 255, 255, 0, 50000000, 0, 0⟩), (3, clv ⟨1, 2, 255, 255, 0, 50000000, 0, 0⟩), (4, clv ⟨2, 4, 255, 255, 0, 50000000, 0, 3⟩), (5, clv ⟨2, 3, 255, 255, 0, 50000000, 10, 0⟩)] := by
      simp [h0, h1, h2, h3, h4, h5]
    show ((do pure (Next.value (← Instr.buildSlice 24 6 ((#[(0, .tmp 12), (1, .tmp 13), (2, .tmp 14), (3, .tmp 15), (4, .tmp 16), (5, .tmp 17)] : Array (Nat × Operand)).map fun (i, x) => (i, a.eval x)))) : Sem Next)).run Tryd.prog W = _
    rw [e2]
    simp only [Sem.run_bind, lit6, Result.andThen, Sem.run_pure]
  rw [e]
  exact hK _ _ h
def exL : List Cl := [⟨1, 1, 255, 255, 0, 50000000, 0, 0⟩, ⟨2, 1, 255, 255, 0, 50000000, 0, 0⟩, ⟨3, 1, 255, 255, 0, 50000000, 0, 0⟩, ⟨1, 2, 255, 255, 0, 50000000, 0, 0⟩, ⟨2, 4, 255, 255, 0, 50000000, 0, 3⟩, ⟨2, 3, 255, 255, 0, 50000000, 10, 0⟩]
def exU : List Int := [0, 0, 8, 0, 0, 0, 0, 0, 0, 0, 0, 0]
set_option maxRecDepth 100000 in
set_option maxHeartbeats 4000000 in
theorem example_any (w : World) : Calls Tryd.prog 35 #[] w fun e w' => ∃ A c UA uc, e = .returned (.tuple #[.slice A exL.length c, .slice UA exU.length uc]) ∧ exL.length ≤ c ∧ exU.length ≤ uc ∧ Kd.C k40 w' A exL.length exL ∧ (Kd.int .i64).C w' UA exU.length exU ∧ Below w.heap.size w w' := by
  go_enter Tryd.func35, Tryd.ntmps35
  go_wp2_with fail
  refine (clause_any 4 2 w).mono ?_
  rintro e w1 ⟨rfl, hb1⟩
  have HB1 := Lib.hid hb1; clear hb1
  unfold clv
  go_wp2_with fail
  have hA1 := (Below.refl w1.heap.size w1).alloc (Nat.le_refl _) (.cells #[.int .i64 2, .int .i64 4, .int .i64 255, .int .i64 255, .int .i64 0, .int .i64 50000000, .int .i64 0, .int .i64 3] 40)
  have HK1 := Lib.hid (And.intro (HB1.out.trans (hA1.mono HB1.out.size)) (heap_new (o := .cells #[.int .i64 2, .int .i64 4, .int .i64 255, .int .i64 255, .int .i64 0, .int .i64 50000000, .int .i64 0, .int .i64 3] 40) (W := w1) rfl)); clear hA1 HB1
  generalize w1.alloc (.cells #[.int .i64 2, .int .i64 4, .int .i64 255, .int .i64 255, .int .i64 0, .int .i64 50000000, .int .i64 0, .int .i64 3] 40) = W1 at *
  generalize w1.heap.size = g1 at *
  refine (clause_any 3 2 W1).mono ?_
  rintro e w2 ⟨rfl, hb2⟩
  have hA2 := (Below.refl w2.heap.size w2).alloc (Nat.le_refl _) (.cells #[.int .i64 2, .int .i64 3, .int .i64 255, .int .i64 255, .int .i64 0, .int .i64 50000000, .int .i64 10, .int .i64 0] 40)
  have hb2 := hb2.trans (hA2.mono hb2.size)
  have HK2 := Lib.hid (And.intro (HK1.out.1.trans (hb2.mono HK1.out.1.size)) (And.intro ((hb2.block _ (Array.getElem?_eq_some_iff.1 HK1.out.2).1).trans HK1.out.2) (heap_new (o := .cells #[.int .i64 2, .int .i64 3, .int .i64 255, .int .i64 255, .int .i64 0, .int .i64 50000000, .int .i64 10, .int .i64 0] 40) (W := w2) rfl))); clear hA2 HK1 hb2
  generalize hW2 : w2.alloc (.cells #[.int .i64 2, .int .i64 3, .int .i64 255, .int .i64 255, .int .i64 0, .int .i64 50000000, .int .i64 10, .int .i64 0] 40) = W2 at *
  have hz2 : W2.heap.size = w2.heap.size + 1 := by rw [← hW2]; simp
  have hmk : (Instr.makeSlice 23 (.int .i64 12) (.int .i64 12)).run Tryd.prog W2 = .ok (.slice (some ⟨W2.heap.size, 0, none⟩) 12 12) (W2.alloc (.cells #[.int .i64 0, .int .i64 0, .int .i64 0, .int .i64 0, .int .i64 0, .int .i64 0, .int .i64 0, .int .i64 0, .int .i64 0, .int .i64 0, .int .i64 0, .int .i64 0] 3)) := by
    rw [show (#[.int .i64 0, .int .i64 0, .int .i64 0, .int .i64 0, .int .i64 0, .int .i64 0, .int .i64 0, .int .i64 0, .int .i64 0, .int .i64 0, .int .i64 0, .int .i64 0] : Array Value) = madeCells #[.int .i64 0] 12 by kernel_rfl]
    exact print_make 23 3 .i64 8 Tryd.underlying23 info3 (by decide) 12 (by decide) _
  unfold clv
  go_wp2_with fail
  clear hmk
  have hA3 := (Below.refl W2.heap.size W2).alloc (Nat.le_refl _) (.cells #[.int .i64 0, .int .i64 0, .int .i64 8, .int .i64 0, .int .i64 0, .int .i64 0, .int .i64 0, .int .i64 0, .int .i64 0, .int .i64 0, .int .i64 0, .int .i64 0] 3)
  have hK3 : Below w.heap.size w (W2.alloc (.cells #[.int .i64 0, .int .i64 0, .int .i64 8, .int .i64 0, .int .i64 0, .int .i64 0, .int .i64 0, .int .i64 0, .int .i64 0, .int .i64 0, .int .i64 0, .int .i64 0] 3)) ∧ (W2.alloc (.cells #[.int .i64 0, .int .i64 0, .int .i64 8, .int .i64 0, .int .i64 0, .int .i64 0, .int .i64 0, .int .i64 0, .int .i64 0, .int .i64 0, .int .i64 0, .int .i64 0] 3)).heap[g1]? = some (.cells #[.int .i64 2, .int .i64 4, .int .i64 255, .int .i64 255, .int .i64 0, .int .i64 50000000, .int .i64 0, .int .i64 3] 40) ∧ (W2.alloc (.cells #[.int .i64 0, .int .i64 0, .int .i64 8, .int .i64 0, .int .i64 0, .int .i64 0, .int .i64 0, .int .i64 0, .int .i64 0, .int .i64 0, .int .i64 0, .int .i64 0] 3)).heap[w2.heap.size]? = some (.cells #[.int .i64 2, .int .i64 3, .int .i64 255, .int .i64 255, .int .i64 0, .int .i64 50000000, .int .i64 10, .int .i64 0] 40) ∧ (W2.alloc (.cells #[.int .i64 0, .int .i64 0, .int .i64 8, .int .i64 0, .int .i64 0, .int .i64 0, .int .i64 0, .int .i64 0, .int .i64 0, .int .i64 0, .int .i64 0, .int .i64 0] 3)).heap[w2.heap.size + 1]? = some (.cells #[.int .i64 0, .int .i64 0, .int .i64 8, .int .i64 0, .int .i64 0, .int .i64 0, .int .i64 0, .int .i64 0, .int .i64 0, .int .i64 0, .int .i64 0, .int .i64 0] 3) :=
    ⟨HK2.out.1.trans (hA3.mono HK2.out.1.size), (hA3.block _ (Array.getElem?_eq_some_iff.1 HK2.out.2.1).1).trans HK2.out.2.1, (hA3.block _ (Array.getElem?_eq_some_iff.1 HK2.out.2.2).1).trans HK2.out.2.2, heap_new hz2⟩
  have HK3 := Lib.hid hK3; clear hK3 hA3 HK2 hW2
  generalize W2.alloc (.cells #[.int .i64 0, .int .i64 0, .int .i64 8, .int .i64 0, .int .i64 0, .int .i64 0, .int .i64 0, .int .i64 0, .int .i64 0, .int .i64 0, .int .i64 0, .int .i64 0] 3) = W3 at *
  clear hz2
  generalize w2.heap.size = g2 at *
  refine region_freeS (fun _ => False) [4, 5, 7] #[false, false, false, false, true, true, false, true, false, false] 7 (by kernel_rfl) (by kernel_rfl) (fun c a d v w h => by obtain ⟨_, _, _, _, h, _⟩ := h.2; cases h) ?_
  simp only [pick_cons, pick_nil, nthO_succ, nthO_zero]
  have a0 := cell_extB (B := fun _ => False) (cell_of (o := 0) HK3.out.2.1 rfl) (fun h => h)
  have b0 := cell_extB (B := fun _ => False) (cell_of (o := 0) HK3.out.2.2.1 rfl) (fun h => h)
  have a1 := cell_extB (B := fun _ => False) (cell_of (o := 1) HK3.out.2.1 rfl) (fun h => h)
  have b1 := cell_extB (B := fun _ => False) (cell_of (o := 1) HK3.out.2.2.1 rfl) (fun h => h)
  have a2 := cell_extB (B := fun _ => False) (cell_of (o := 2) HK3.out.2.1 rfl) (fun h => h)
  have b2 := cell_extB (B := fun _ => False) (cell_of (o := 2) HK3.out.2.2.1 rfl) (fun h => h)
  have a3 := cell_extB (B := fun _ => False) (cell_of (o := 3) HK3.out.2.1 rfl) (fun h => h)
  have b3 := cell_extB (B := fun _ => False) (cell_of (o := 3) HK3.out.2.2.1 rfl) (fun h => h)
  have a4 := cell_extB (B := fun _ => False) (cell_of (o := 4) HK3.out.2.1 rfl) (fun h => h)
  have b4 := cell_extB (B := fun _ => False) (cell_of (o := 4) HK3.out.2.2.1 rfl) (fun h => h)
  have a5 := cell_extB (B := fun _ => False) (cell_of (o := 5) HK3.out.2.1 rfl) (fun h => h)
  have b5 := cell_extB (B := fun _ => False) (cell_of (o := 5) HK3.out.2.2.1 rfl) (fun h => h)
  have a6 := cell_extB (B := fun _ => False) (cell_of (o := 6) HK3.out.2.1 rfl) (fun h => h)
  have b6 := cell_extB (B := fun _ => False) (cell_of (o := 6) HK3.out.2.2.1 rfl) (fun h => h)
  have a7 := cell_extB (B := fun _ => False) (cell_of (o := 7) HK3.out.2.1 rfl) (fun h => h)
  have b7 := cell_extB (B := fun _ => False) (cell_of (o := 7) HK3.out.2.2.1 rfl) (fun h => h)
  repeat (go_big_quiet_step (fail))
  refine wpQuiet_nil ?_
  clear a0 b0 a1 b1 a2 b2 a3 b3 a4 b4 a5 b5 a6 b6 a7 b7
  have HS := Lib.hid (show Fr (fun _ => False) W3 W3.drew ∧ Below W3.heap.size W3 W3.drew from ⟨(Fr.refl _ _).drew, ⟨rfl, rfl, rfl, Nat.le_refl _, fun _ _ => rfl⟩⟩)
  generalize W3.drew = u0 at HS ⊢
  refine any_stepS [0] (by kernel_rfl) ?_
  simp only [List.forall_mem_cons, List.forall_mem_nil, nthO_succ, nthO_zero]
  refine ⟨?_, fun _ h => by cases h⟩
  go_wp2_with fail
  refine (clause_any 1 1 u0).mono ?_
  rintro e u1 ⟨rfl, hb⟩
  have HS_ := Lib.hid (And.intro (HS.out.1.call hb) (HS.out.2.trans (hb.mono HS.out.2.size))); clear HS hb; have HS := HS_; clear HS_
  go_wp2_with fail
  refine ⟨⟨⟨_, HS.out.1⟩, rfl⟩, ?_⟩
  refine any_stepS [1] (by kernel_rfl) ?_
  simp only [List.forall_mem_cons, List.forall_mem_nil, nthO_succ, nthO_zero]
  refine ⟨?_, fun _ h => by cases h⟩
  go_wp2_with fail
  refine (clause_any 1 2 u1).mono ?_
  rintro e u2 ⟨rfl, hb⟩
  have HS_ := Lib.hid (And.intro (HS.out.1.call hb) (HS.out.2.trans (hb.mono HS.out.2.size))); clear HS hb; have HS := HS_; clear HS_
  go_wp2_with fail
  refine ⟨⟨⟨_, HS.out.1⟩, rfl⟩, ?_⟩
  refine any_stepS [2] (by kernel_rfl) ?_
  simp only [List.forall_mem_cons, List.forall_mem_nil, nthO_succ, nthO_zero]
  refine ⟨?_, fun _ h => by cases h⟩
  go_wp2_with fail
  refine (clause_any 1 3 u2).mono ?_
  rintro e u3 ⟨rfl, hb⟩
  have HS_ := Lib.hid (And.intro (HS.out.1.call hb) (HS.out.2.trans (hb.mono HS.out.2.size))); clear HS hb; have HS := HS_; clear HS_
  go_wp2_with fail
  refine ⟨⟨⟨_, HS.out.1⟩, rfl⟩, ?_⟩
  refine any_stepS [3] (by kernel_rfl) ?_
  simp only [List.forall_mem_cons, List.forall_mem_nil, nthO_succ, nthO_zero]
  refine ⟨?_, fun _ h => by cases h⟩
  go_wp2_with fail
  refine (clause_any 2 1 u3).mono ?_
  rintro e u4 ⟨rfl, hb⟩
  have HS_ := Lib.hid (And.intro (HS.out.1.call hb) (HS.out.2.trans (hb.mono HS.out.2.size))); clear HS hb; have HS := HS_; clear HS_
  go_wp2_with fail
  refine ⟨⟨⟨_, HS.out.1⟩, rfl⟩, ?_⟩
  have hA4 := (Below.refl u4.heap.size u4).alloc (Nat.le_refl _) (.cells #[.int .i64 1, .int .i64 1, .int .i64 255, .int .i64 255, .int .i64 0, .int .i64 50000000, .int .i64 0, .int .i64 0, .int .i64 2, .int .i64 1, .int .i64 255, .int .i64 255, .int .i64 0, .int .i64 50000000, .int .i64 0, .int .i64 0, .int .i64 3, .int .i64 1, .int .i64 255, .int .i64 255, .int .i64 0, .int .i64 50000000, .int .i64 0, .int .i64 0, .int .i64 1, .int .i64 2, .int .i64 255, .int .i64 255, .int .i64 0, .int .i64 50000000, .int .i64 0, .int .i64 0, .int .i64 2, .int .i64 4, .int .i64 255, .int .i64 255, .int .i64 0, .int .i64 50000000, .int .i64 0, .int .i64 3, .int .i64 2, .int .i64 3, .int .i64 255, .int .i64 255, .int .i64 0, .int .i64 50000000, .int .i64 10, .int .i64 0] 40)
  have hF4 := HS.out.1.alloc (.cells #[.int .i64 1, .int .i64 1, .int .i64 255, .int .i64 255, .int .i64 0, .int .i64 50000000, .int .i64 0, .int .i64 0, .int .i64 2, .int .i64 1, .int .i64 255, .int .i64 255, .int .i64 0, .int .i64 50000000, .int .i64 0, .int .i64 0, .int .i64 3, .int .i64 1, .int .i64 255, .int .i64 255, .int .i64 0, .int .i64 50000000, .int .i64 0, .int .i64 0, .int .i64 1, .int .i64 2, .int .i64 255, .int .i64 255, .int .i64 0, .int .i64 50000000, .int .i64 0, .int .i64 0, .int .i64 2, .int .i64 4, .int .i64 255, .int .i64 255, .int .i64 0, .int .i64 50000000, .int .i64 0, .int .i64 3, .int .i64 2, .int .i64 3, .int .i64 255, .int .i64 255, .int .i64 0, .int .i64 50000000, .int .i64 10, .int .i64 0] 40)
  have hL4 : Kd.C k40 (u4.alloc (.cells #[.int .i64 1, .int .i64 1, .int .i64 255, .int .i64 255, .int .i64 0, .int .i64 50000000, .int .i64 0, .int .i64 0, .int .i64 2, .int .i64 1, .int .i64 255, .int .i64 255, .int .i64 0, .int .i64 50000000, .int .i64 0, .int .i64 0, .int .i64 3, .int .i64 1, .int .i64 255, .int .i64 255, .int .i64 0, .int .i64 50000000, .int .i64 0, .int .i64 0, .int .i64 1, .int .i64 2, .int .i64 255, .int .i64 255, .int .i64 0, .int .i64 50000000, .int .i64 0, .int .i64 0, .int .i64 2, .int .i64 4, .int .i64 255, .int .i64 255, .int .i64 0, .int .i64 50000000, .int .i64 0, .int .i64 3, .int .i64 2, .int .i64 3, .int .i64 255, .int .i64 255, .int .i64 0, .int .i64 50000000, .int .i64 10, .int .i64 0] 40)) (some ⟨u4.heap.size, 0, none⟩) exL.length exL := clrows (by decide) (heap_new (W := u4) (o := .cells (exL.flatMap cl8).toArray 40) rfl)
  have h3 := hF4.block _ (Array.getElem?_eq_some_iff.1 HK3.out.2.2.2).1 (fun h => h)
  have hU4 : (Kd.int .i64).C (u4.alloc (.cells #[.int .i64 1, .int .i64 1, .int .i64 255, .int .i64 255, .int .i64 0, .int .i64 50000000, .int .i64 0, .int .i64 0, .int .i64 2, .int .i64 1, .int .i64 255, .int .i64 255, .int .i64 0, .int .i64 50000000, .int .i64 0, .int .i64 0, .int .i64 3, .int .i64 1, .int .i64 255, .int .i64 255, .int .i64 0, .int .i64 50000000, .int .i64 0, .int .i64 0, .int .i64 1, .int .i64 2, .int .i64 255, .int .i64 255, .int .i64 0, .int .i64 50000000, .int .i64 0, .int .i64 0, .int .i64 2, .int .i64 4, .int .i64 255, .int .i64 255, .int .i64 0, .int .i64 50000000, .int .i64 0, .int .i64 3, .int .i64 2, .int .i64 3, .int .i64 255, .int .i64 255, .int .i64 0, .int .i64 50000000, .int .i64 10, .int .i64 0] 40)) (some ⟨g2 + 1, 0, none⟩) exU.length exU := introw (by decide) (h3.trans HK3.out.2.2.2)
  have HZ := Lib.hid (And.intro hF4 (And.intro hL4 (And.intro hU4 (HK3.out.1.trans ((HS.out.2.trans (hA4.mono HS.out.2.size)).mono HK3.out.1.size))))); clear hF4 hL4 hU4 hA4 h3 HS HK3
  refine any_stepS [6] (by kernel_rfl) ?_
  simp only [List.forall_mem_cons, List.forall_mem_nil, nthO_succ, nthO_zero]
  refine ⟨?_, fun _ h => by cases h⟩
  refine example_lit [] rfl rfl rfl rfl rfl rfl rfl rfl ?_
  go_wp2_with fail
  refine ⟨⟨⟨_, HZ.out.1⟩, rfl⟩, ?_⟩
  generalize u4.alloc (.cells #[.int .i64 1, .int .i64 1, .int .i64 255, .int .i64 255, .int .i64 0, .int .i64 50000000, .int .i64 0, .int .i64 0, .int .i64 2, .int .i64 1, .int .i64 255, .int .i64 255, .int .i64 0, .int .i64 50000000, .int .i64 0, .int .i64 0, .int .i64 3, .int .i64 1, .int .i64 255, .int .i64 255, .int .i64 0, .int .i64 50000000, .int .i64 0, .int .i64 0, .int .i64 1, .int .i64 2, .int .i64 255, .int .i64 255, .int .i64 0, .int .i64 50000000, .int .i64 0, .int .i64 0, .int .i64 2, .int .i64 4, .int .i64 255, .int .i64 255, .int .i64 0, .int .i64 50000000, .int .i64 0, .int .i64 3, .int .i64 2, .int .i64 3, .int .i64 255, .int .i64 255, .int .i64 0, .int .i64 50000000, .int .i64 10, .int .i64 0] 40) = u5 at *
  generalize u4.heap.size = g4 at *
  refine any_stepS [8] (by kernel_rfl) ?_
  simp only [List.forall_mem_cons, List.forall_mem_nil, nthO_succ, nthO_zero]
  refine ⟨?_, fun _ h => by cases h⟩
  go_wp2_with fail
  refine ⟨⟨⟨_, HZ.out.1⟩, rfl⟩, ?_⟩
  refine any_stepS [9] (by kernel_rfl) ?_
  simp only [List.forall_mem_cons, List.forall_mem_nil, nthO_succ, nthO_zero]
  refine ⟨?_, fun _ h => by cases h⟩
  go_wp2_with fail
  refine ⟨⟨⟨_, HZ.out.1⟩, rfl⟩, wpAnyH_done (by kernel_rfl) ?_ _⟩
  go_wp2_with fail
  go_ret2
  exact ⟨_, _, _, _, rfl, Nat.le_refl _, Nat.le_refl _, HZ.out.2.1, HZ.out.2.2.1, HZ.out.2.2.2⟩
end Go.Proofs.YtnabgijdbcdpmaaDoor

namespace Go.Proofs.YtnabgijdbcdpmaaDoor
open Go.RowKit Go.Rg Go.Proofs.YtnabgijdbcdpmaaDoor.PRightsMatchesReference Go.Proofs.YtnabgijdbcdpmaaDoorW.PrintWords
set_option linter.unusedVariables false
set_option linter.unusedSimpArgs false

theorem wrap_in {x : Int} (h0 : -9223372036854775808 ≤ x) (h1 : x ≤ 9223372036854775807) : wrap64 x = x := by unfold wrap64; omega
theorem kind1_any (c : Cl) (U : Value) (wt : Wt) (WA : Option Addr) (wn : Nat) (P : Value) (w : World) :
    Calls Tryd.prog 97 #[clv c, U, wtv wt WA wn, P] w fun e w' => e = .returned (.bool false) ∧ Below w.heap.size w w' := by
  unfold clv wtv
  go_enter Tryd.func97, Tryd.ntmps97
  go_wp2
  go_ret
  exact ⟨rfl, ((Below.refl _ _).alloc (Nat.le_refl _) _).alloc (by simp) _⟩

theorem kind2_any (c : Cl) (U : Value) (wt : Wt) (WA : Option Addr) (wn : Nat) (PA : Option Addr) (pc : Nat) (p : List Int) (w : World) (hp : (Kd.int .i64).C w PA p.length p) :
    Calls Tryd.prog 98 #[clv c, U, wtv wt WA wn, .slice PA p.length pc] w fun e w' => e = .returned (.bool (hasI p c.f0)) ∧ Below w.heap.size w w' := by
  unfold clv wtv
  have HP := Lib.hid hp; clear hp
  go_enter Tryd.func98, Tryd.ntmps98
  go_wp2_with fail
  refine (contains_any PA pc p c.f0 _ (Kd.C_below HP.out (((Below.refl _ _).alloc (Nat.le_refl _) _).alloc (by simp) _))).mono ?_
  rintro e w' ⟨rfl, rfl⟩
  go_wp2_with fail
  go_ret
  exact ⟨rfl, ((Below.refl _ _).alloc (Nat.le_refl _) _).alloc (by simp) _⟩

theorem kind6_any (c : Cl) (U : Value) (wt : Wt) (WA : Option Addr) (wn : Nat) (PA : Option Addr) (pc : Nat) (p : List Int) (w : World) (hp : (Kd.int .i64).C w PA p.length p) :
    Calls Tryd.prog 102 #[clv c, U, wtv wt WA wn, .slice PA p.length pc] w fun e w' => e = .returned (.bool (hasI p c.f0 && hasI p c.f7)) ∧ Below w.heap.size w w' := by
  unfold clv wtv
  have hb : Below w.heap.size w ((w.alloc (.cells #[.int .i64 c.f0, .int .i64 c.f1, .int .i64 c.f2, .int .i64 c.f3, .int .i64 c.f4, .int .i64 c.f5, .int .i64 c.f6, .int .i64 c.f7] 40)).alloc (.cells #[.int .i64 wt.te, .int .i64 wt.cl, .int .i64 wt.at_, .int .i64 wt.us, .slice WA wt.needs.length wn] 29)) := ((Below.refl _ _).alloc (Nat.le_refl _) _).alloc (by simp) _
  have h1 := contains_any PA pc p c.f0 _ (Kd.C_below hp hb)
  have h2 := contains_any PA pc p c.f7 _ (Kd.C_below hp hb)
  have H1 := Lib.hid h1; clear h1
  have H2 := Lib.hid h2; clear h2
  have HB := Lib.hid hb; clear hb hp
  generalize hasI p c.f0 = b0 at *
  generalize hasI p c.f7 = b1 at *
  cases b0
  · go_enter Tryd.func102, Tryd.ntmps102
    go_wp2_with fail
    refine H1.out.mono ?_
    rintro e w' ⟨rfl, rfl⟩
    go_wp2_with fail
    go_ret
    exact ⟨rfl, HB.out⟩
  · go_enter Tryd.func102, Tryd.ntmps102
    go_wp2_with fail
    refine H1.out.mono ?_
    rintro e w' ⟨rfl, rfl⟩
    go_wp2_with fail
    refine H2.out.mono ?_
    rintro e w' ⟨rfl, rfl⟩
    go_wp2_with fail
    go_ret
    exact ⟨rfl, HB.out⟩
end Go.Proofs.YtnabgijdbcdpmaaDoor

namespace Go.Proofs.YtnabgijdbcdpmaaDoor
open Go.RowKit Go.Rg Go.Proofs.YtnabgijdbcdpmaaDoor.PRightsMatchesReference Go.Proofs.YtnabgijdbcdpmaaDoorW.PrintWords
set_option linter.unusedVariables false
set_option linter.unusedSimpArgs false

def clc (c : Cl) : Array Value := #[.int .i64 c.f0, .int .i64 c.f1, .int .i64 c.f2, .int .i64 c.f3, .int .i64 c.f4, .int .i64 c.f5, .int .i64 c.f6, .int .i64 c.f7]
def wtc (w : Wt) (A : Option Addr) (n : Nat) : Array Value := #[.int .i64 w.te, .int .i64 w.cl, .int .i64 w.at_, .int .i64 w.us, .slice A w.needs.length n]

theorem two_box (w : World) (x y : Array Value) (s t : Nat) :
    Below w.heap.size w ((w.alloc (.cells x s)).alloc (.cells y t)) ∧ ((w.alloc (.cells x s)).alloc (.cells y t)).heap[w.heap.size]? = some (.cells x s (0, 0)) ∧ ((w.alloc (.cells x s)).alloc (.cells y t)).heap[w.heap.size + 1]? = some (.cells y t (0, 0)) ∧ ((w.alloc (.cells x s)).alloc (.cells y t)).heap.size = w.heap.size + 2 :=
  ⟨((Below.refl _ _).alloc (Nat.le_refl _) _).alloc (by simp) _, heap_old (heap_new rfl), heap_new (by simp), by simp⟩

set_option maxRecDepth 10000 in
set_option maxHeartbeats 1000000 in
theorem kind4_any (c : Cl) (UA : Option Addr) (uc : Nat) (u : List Int) (wt : Wt) (WA : Option Addr) (wn : Nat) (PA : Option Addr) (pc : Nat) (p : List Int) (w : World) (hp : (Kd.int .i64).C w PA p.length p) (hu : (Kd.int .i64).C w UA u.length u)
    (h0 : 0 ≤ c.f0) (h1 : c.f0 < u.length) (h2 : 0 ≤ rd u c.f0) (h3 : rd u c.f0 ≤ 1000000) (h4 : 1 ≤ wt.us) (h5 : wt.us ≤ 1000000) :
    Calls Tryd.prog 100 #[clv c, .slice UA u.length uc, wtv wt WA wn, .slice PA p.length pc] w fun e w' => e = .returned (.bool (hasI p c.f0 && decide (c.f6 < rd u c.f0 + wt.us))) ∧ Below w.heap.size w w' := by
  unfold clv wtv
  obtain ⟨hb, hk0, hk1, hsz⟩ := two_box w (clc c) (wtc wt WA wn) 40 29
  have hr := contains_any PA pc p c.f0
  obtain ⟨ad, e, hx⟩ := Kd.at_int hu c.f0 h0 h1
  cases e
  have hcx := pw_cell_below hb hx
  have hpx := Kd.C_below hp hb
  generalize hasI p c.f0 = b0 at *
  unfold clc wtc at *
  cases b0
  all_goals
    go_enter Tryd.func100, Tryd.ntmps100
    go_wp2_with fail
    generalize (w.alloc (.cells #[.int .i64 c.f0, .int .i64 c.f1, .int .i64 c.f2, .int .i64 c.f3, .int .i64 c.f4, .int .i64 c.f5, .int .i64 c.f6, .int .i64 c.f7] 40)).alloc (.cells #[.int .i64 wt.te, .int .i64 wt.cl, .int .i64 wt.at_, .int .i64 wt.us, .slice WA wt.needs.length wn] 29) = W0 at *
    have e0 := cell_ext (cell_of (o := 0) hk0 rfl)
    have e6 := cell_ext (cell_of (o := 6) hk0 rfl)
    have e2 := cell_ext (cell_of (o := 3) hk1 rfl)
    have ex := cell_ext hcx
    have hall : ∀ x : Ext W0, Calls Tryd.prog 72 #[.slice PA p.length pc, .int .i64 c.f0] x.val fun e w' => e = .returned (.bool _) ∧ x.val = w' := fun x => hr _ (Kd.C_below hpx (x.2.below (fun _ _ h => h) (Nat.le_refl _)))
    have HALL := Lib.hid hall
    have HB := Lib.hid hb
    clear hall hb hk0 hk1 hsz hr hx hcx hpx hp hu
    refine region_ext (by kernel_rfl) (by kernel_rfl) ?_
    repeat (go_big_quiet_step ((go_at_call 72; with_reducible exact call_ext_same (HALL.out _))))
    refine wpQuiet_nil ?_
    rintro W' ⟨X, rfl⟩
    go_wp2_with fail
    go_ret
    exact ⟨rfl, HB.out.trans (X.2.below (fun k _ h => h) HB.out.size)⟩

end Go.Proofs.YtnabgijdbcdpmaaDoor

namespace Go.Proofs.YtnabgijdbcdpmaaDoor
open Go.RowKit Go.Rg Go.Proofs.YtnabgijdbcdpmaaDoor.PRightsMatchesReference Go.Proofs.YtnabgijdbcdpmaaDoorW.PrintWords
set_option linter.unusedVariables false
set_option linter.unusedSimpArgs false

theorem Kinds.fr {w w1 : World} {S : Nat → Prop} (h : Kinds w) (hb : Fr S w w1) (h0 : ¬ S 0) : Kinds w1 := by
  obtain ⟨t, h⟩ := h
  exact ⟨t, (hb.block 0 (Array.getElem?_eq_some_iff.1 h).1 h0).trans h⟩
theorem Kinds.lt {w : World} (h : Kinds w) : 0 < w.heap.size := by
  obtain ⟨t, h⟩ := h
  exact (Array.getElem?_eq_some_iff.1 h).1
theorem Kinds.below {w w1 : World} {n : Nat} (h : Kinds w) (hb : Below n w w1) (hn : 0 < n) : Kinds w1 := by
  obtain ⟨t, h⟩ := h
  exact ⟨t, (hb.block 0 hn).trans h⟩
theorem Kinds.next {w w1 : World} (h : Kinds w) (hb : Below w.heap.size w w1) : Kinds w1 := h.below hb h.lt

theorem times_ways {a b : Int} : (decide (0 ≤ a) = false) ∨ (decide (0 ≤ a) = true ∧ decide (a ≤ b) = false) ∨ (decide (0 ≤ a) = true ∧ decide (a ≤ b) = true ∧ decide (b ≤ 50000000) = false) ∨ (decide (0 ≤ a) = true ∧ decide (a ≤ b) = true ∧ decide (b ≤ 50000000) = true) := by
  cases decide (0 ≤ a) <;> cases decide (a ≤ b) <;> cases decide (b ≤ 50000000) <;> simp

theorem ways3 (a b c : Bool) : a = false ∨ (a = true ∧ b = false) ∨ (a = true ∧ b = true ∧ c = false) ∨ (a = true ∧ b = true ∧ c = true) := by cases a <;> cases b <;> cases c <;> simp
set_option maxRecDepth 100000 in
set_option maxHeartbeats 2000000 in
theorem valid_any (c : Cl) (w : World) (hK : Kinds w) :
    Calls Tryd.prog 38 #[clv c] w fun e w' => e = .returned (.bool (vld c)) ∧ Below w.heap.size w w' := by
  obtain ⟨f0, f1, f2, f3, f4, f5, f6, f7⟩ := c
  have hv : vld ⟨f0, f1, f2, f3, f4, f5, f6, f7⟩ = (isWk f0 && (inR f1 1 4 && (inR f2 0 255 && (inR f3 0 255 && ((decide (0 ≤ f4) && (decide (f4 ≤ f5) && decide (f5 ≤ 50000000))) && fieldsOk ⟨f0, f1, f2, f3, f4, f5, f6, f7⟩))))) := rfl
  rw [hv]
  have hA := fun W => isWk_any f0 W
  have hB := fun W => isIn_any f1 1 4 W
  have hC := fun W => isIn_any f2 0 255 W
  have hD := fun W => isIn_any f3 0 255 W
  have h96 := fun W => plain_any ⟨f0, f1, f2, f3, f4, f5, f6, f7⟩ W
  have h99 := fun W => kind3_any ⟨f0, f1, f2, f3, f4, f5, f6, f7⟩ W
  have h101 := fun W => kind5_any ⟨f0, f1, f2, f3, f4, f5, f6, f7⟩ W
  have hk : inR f1 1 4 = true → f1 = 1 ∨ f1 = 2 ∨ f1 = 3 ∨ f1 = 4 := fun h => by simp [inR] at h; omega
  have HKD := Lib.hid hk
  have hb := (Below.refl w.heap.size w).alloc (Nat.le_refl _) (.cells (clc ⟨f0, f1, f2, f3, f4, f5, f6, f7⟩) 40)
  have hk0 := heap_new (o := .cells (clc ⟨f0, f1, f2, f3, f4, f5, f6, f7⟩) 40) (W := w) rfl
  have hK1 := hK.next hb
  unfold clv at *
  unfold clc at *
  simp only at hk0 hb hK1 h96 h99 h101 ⊢
  clear hk hv hK
  have fin : ∀ (W : World) (X : Ext W) (hB : Below w.heap.size w W), Below w.heap.size w X.val := fun W X hB => hB.trans (X.2.below (fun k _ h => h) hB.size)
  have FIN := Lib.hid fin; clear fin
  have HH96 := Lib.hid h96; clear h96
  have HH99 := Lib.hid h99; clear h99
  have HH101 := Lib.hid h101; clear h101
  rcases times_ways (a := f4) (b := f5) with t1 | ⟨t1, t2⟩ | ⟨t1, t2, t3⟩ | ⟨t1, t2, t3⟩
  case inr.inr.inr =>
    rw [t1, t2, t3]
    generalize isWk f0 = b1 at *
    cases hb2 : inR f1 1 4 with
    | false =>
      rw [hb2] at hB
      clear HKD hb2
      generalize inR f2 0 255 = b3 at *
      generalize inR f3 0 255 = b4 at *
      have HA := Lib.hid hA; clear hA
      have HB := Lib.hid hB; clear hB
      clear hC hD
      cases b1
      all_goals
        go_enter Tryd.func38, Tryd.ntmps38
        go_wp2_with fail
        generalize w.alloc (.cells #[.int .i64 f0, .int .i64 f1, .int .i64 f2, .int .i64 f3, .int .i64 f4, .int .i64 f5, .int .i64 f6, .int .i64 f7] 40) = W0 at *
        have e0 := cell_ext (cell_of (o := 0) hk0 rfl)
        have e1 := cell_ext (cell_of (o := 1) hk0 rfl)
        have HBel := Lib.hid hb; clear hb hk0 hK1
        refine region_ext (by kernel_rfl) (by kernel_rfl) ?_
        repeat (go_big_quiet_step (first | (go_at_call 44; with_reducible exact call_ext_same (HA.out _)) | (go_at_call 41; with_reducible exact call_ext_same (HB.out _))))
        refine wpQuiet_nil ?_
        rintro W' ⟨X, rfl⟩
        go_wp2_with fail
        go_ret
        exact ⟨ret_bool (by first | rfl | simp [fieldsOk]), FIN.out _ X HBel.out⟩
    | true =>
      rw [hb2] at hB
      have hf1 := HKD.out hb2
      clear HKD hb2
      generalize inR f2 0 255 = b3 at *
      generalize inR f3 0 255 = b4 at *
      have HA := Lib.hid hA; clear hA
      have HB := Lib.hid hB; clear hB
      have HC := Lib.hid hC; clear hC
      have HD := Lib.hid hD; clear hD
      obtain ⟨tt, hT⟩ := hK1
      rcases ways3 b1 b3 b4 with rfl | ⟨rfl, rfl⟩ | ⟨rfl, rfl, rfl⟩ | ⟨rfl, rfl, rfl⟩ <;> rcases hf1 with rfl | rfl | rfl | rfl
      all_goals
        go_enter Tryd.func38, Tryd.ntmps38
        go_wp2_with fail
        generalize w.alloc (.cells #[.int .i64 f0, .int .i64 _, .int .i64 f2, .int .i64 f3, .int .i64 f4, .int .i64 f5, .int .i64 f6, .int .i64 f7] 40) = W0 at *
        have e0 := cell_ext (cell_of (o := 0) hk0 rfl)
        have e1 := cell_ext (cell_of (o := 1) hk0 rfl)
        have e2 := cell_ext (cell_of (o := 2) hk0 rfl)
        have e3 := cell_ext (cell_of (o := 3) hk0 rfl)
        have e4 := cell_ext (cell_of (o := 4) hk0 rfl)
        have e5 := cell_ext (cell_of (o := 5) hk0 rfl)
        have e6 := cell_ext (cell_of (o := 6) hk0 rfl)
        have e7 := cell_ext (cell_of (o := 7) hk0 rfl)
        have k2 := cell_ext (cell_of (o := 2) hT rfl)
        have k4 := cell_ext (cell_of (o := 4) hT rfl)
        have k6 := cell_ext (cell_of (o := 6) hT rfl)
        have k8 := cell_ext (cell_of (o := 8) hT rfl)
        have HBel := Lib.hid hb; clear hb hk0 hT
        refine region_ext (by kernel_rfl) (by kernel_rfl) ?_
        repeat (go_big_quiet_step (first | (go_at_call 44; with_reducible exact call_ext_same (HA.out _)) | (go_at_call 41; with_reducible exact call_ext_same (HB.out _)) | (go_at_call 41; with_reducible exact call_ext_same (HC.out _)) | (go_at_call 41; with_reducible exact call_ext_same (HD.out _)) | (go_at_call 96; with_reducible exact call_ext (HH96.out _)) | (go_at_call 99; with_reducible exact call_ext (HH99.out _)) | (go_at_call 101; with_reducible exact call_ext (HH101.out _))))
        refine wpQuiet_nil ?_
        rintro W' ⟨X, rfl⟩
        go_wp2_with fail
        go_ret
        exact ⟨ret_bool (by first | rfl | simp [fieldsOk]), FIN.out _ X HBel.out⟩
  all_goals
    have HTT : (decide (0 ≤ f4) && (decide (f4 ≤ f5) && decide (f5 ≤ 50000000))) = false := by first | (rw [t1, t2, t3]; rfl) | (rw [t1, t2]; rfl) | (rw [t1]; rfl)
    rw [HTT]
    clear HTT HKD hK1
    generalize isWk f0 = b1 at *
    generalize inR f1 1 4 = b2 at *
    generalize inR f2 0 255 = b3 at *
    generalize inR f3 0 255 = b4 at *
    have HA := Lib.hid hA; clear hA
    have HB := Lib.hid hB; clear hB
    have HC := Lib.hid hC; clear hC
    have HD := Lib.hid hD; clear hD
    rcases ways3 b1 b2 b3 with rfl | ⟨rfl, rfl⟩ | ⟨rfl, rfl, rfl⟩ | ⟨rfl, rfl, rfl⟩ <;> cases b4
    all_goals
      go_enter Tryd.func38, Tryd.ntmps38
      go_wp2_with fail
      generalize w.alloc (.cells #[.int .i64 f0, .int .i64 f1, .int .i64 f2, .int .i64 f3, .int .i64 f4, .int .i64 f5, .int .i64 f6, .int .i64 f7] 40) = W0 at *
      have e0 := cell_ext (cell_of (o := 0) hk0 rfl)
      have e1 := cell_ext (cell_of (o := 1) hk0 rfl)
      have e2 := cell_ext (cell_of (o := 2) hk0 rfl)
      have e3 := cell_ext (cell_of (o := 3) hk0 rfl)
      have HBel := Lib.hid hb; clear hb hk0
      refine region_ext (by kernel_rfl) (by kernel_rfl) ?_
      repeat (go_big_quiet_step (first | (go_at_call 44; with_reducible exact call_ext_same (HA.out _)) | (go_at_call 41; with_reducible exact call_ext_same (HB.out _)) | (go_at_call 41; with_reducible exact call_ext_same (HC.out _)) | (go_at_call 41; with_reducible exact call_ext_same (HD.out _))))
      refine wpQuiet_nil ?_
      rintro W' ⟨X, rfl⟩
      go_wp2_with fail
      go_ret
      exact ⟨rfl, FIN.out _ X HBel.out⟩

theorem validL_any (A : Option Addr) (c : Nat) (l : List Cl) (w : World) (hr : Kd.C k40 w A l.length l) (hK : Kinds w) :
    Calls Tryd.prog 12 #[.slice A l.length c] w fun e w' => e = .returned (.bool (vldL l)) ∧ Below w.heap.size w w' := by
  have hall := allC_any 38 #[] (fun _ _ => rfl) vld A c l w hr (fun k hk W hW => valid_any _ W (hK.next hW))
  have hv : vldL l = (decide ((l.length : Int) ≤ 12) && l.all vld) := by unfold vldL; congr 1; simp; omega
  rw [hv]
  have hm := max_len hr
  have HALL := Lib.hid hall
  clear hall hr hK hv
  generalize l.all vld = b at *
  generalize hq : decide ((l.length : Int) ≤ 12) = q
  cases q
  · go_enter Tryd.func12, Tryd.ntmps12
    go_wp2_with fail
    go_ret
    exact ⟨rfl, Below.refl _ _⟩
  · go_enter Tryd.func12, Tryd.ntmps12
    go_wp2_with fail
    refine HALL.out.mono ?_
    rintro e w' ⟨rfl, hb⟩
    cases b
    all_goals
      go_wp2_with fail
      go_ret
      exact ⟨rfl, hb⟩
end Go.Proofs.YtnabgijdbcdpmaaDoor

namespace Go.Proofs.YtnabgijdbcdpmaaDoor
open Go.RowKit Go.Rg Go.Proofs.YtnabgijdbcdpmaaDoor.PRightsMatchesReference Go.Proofs.YtnabgijdbcdpmaaDoorW.PrintWords
set_option linter.unusedVariables false
set_option linter.unusedSimpArgs false

theorem need_any (A : Option Addr) (c : Nat) (n : List Int) (w : World) (hr : (Kd.int .i64).C w A n.length n) (hc : n.length ≤ c) :
    Calls Tryd.prog 40 #[.slice A n.length c] w fun e w' => e = .returned (.bool (needOk n)) ∧ Below w.heap.size w w' := by
  have h1 := isIn_any (n.length : Int) 1 4 w
  have h2 := rising_any A c n w hr hc
  have h3 := fun (W : World) (hW : Below w.heap.size w W) => allI_any 44 #[] (fun _ _ => rfl) isWk A c n W (Kd.C_below hr hW) (fun k hk W' hW' => (isWk_any _ W').mono fun e w' h => ⟨h.1, by rw [← h.2]; exact Below.refl _ _⟩)
  have hm := max_len hr
  have hv : needOk n = (inR n.length 1 4 && (rising n && n.all isWk)) := rfl
  rw [hv]
  have H1 := Lib.hid h1; clear h1
  have H2 := Lib.hid h2; clear h2
  have H3 := Lib.hid h3; clear h3 hr hv hc
  generalize inR n.length 1 4 = b1 at *
  generalize rising n = b2 at *
  generalize n.all isWk = b3 at *
  cases b1
  · go_enter Tryd.func40, Tryd.ntmps40
    go_wp2_with fail
    refine H1.out.mono ?_
    rintro e w' ⟨rfl, rfl⟩
    go_wp2_with fail
    go_ret
    exact ⟨rfl, Below.refl _ _⟩
  · cases b2
    · go_enter Tryd.func40, Tryd.ntmps40
      go_wp2_with fail
      refine H1.out.mono ?_
      rintro e w' ⟨rfl, rfl⟩
      go_wp2_with fail
      refine H2.out.mono ?_
      rintro e w1 ⟨rfl, hb⟩
      go_wp2_with fail
      go_ret
      exact ⟨rfl, hb⟩
    · go_enter Tryd.func40, Tryd.ntmps40
      go_wp2_with fail
      refine H1.out.mono ?_
      rintro e w' ⟨rfl, rfl⟩
      go_wp2_with fail
      refine H2.out.mono ?_
      rintro e w1 ⟨rfl, hb⟩
      have HB := Lib.hid hb; clear hb
      go_wp2_with fail
      refine (H3.out _ HB.out).mono ?_
      rintro e w2 ⟨rfl, hb2⟩
      have HB2 := Lib.hid (HB.out.trans (hb2.mono HB.out.size)); clear hb2
      cases b3
      all_goals
        go_wp2_with fail
        go_ret
        exact ⟨rfl, HB2.out⟩

theorem ways6 (a b c d e : Bool) : a = false ∨ (a = true ∧ b = false) ∨ (a = true ∧ b = true ∧ c = false) ∨ (a = true ∧ b = true ∧ c = true ∧ d = false) ∨ (a = true ∧ b = true ∧ c = true ∧ d = true ∧ e = false) ∨ (a = true ∧ b = true ∧ c = true ∧ d = true ∧ e = true) := by
  cases a <;> cases b <;> cases c <;> cases d <;> cases e <;> simp

set_option maxRecDepth 100000 in
set_option maxHeartbeats 2000000 in
theorem vWant_any (wt : Wt) (A : Option Addr) (n : Nat) (w : World) (hr : (Kd.slice 3 (Kd.int .i64)).C w A wt.needs.length wt.needs) :
    Calls Tryd.prog 15 #[wtv wt A n] w fun e w' => e = .returned (.bool (vldW wt)) ∧ Below w.heap.size w w' := by
  have h1 := fun W => isIn_any wt.te 0 7 W
  have h2 := fun W => isIn_any wt.cl 0 7 W
  have h3 := fun W => isIn_any wt.at_ 0 50000000 W
  have h4 := fun W => isIn_any wt.us 1 1000000 W
  have h5 := fun W => isIn_any (wt.needs.length : Int) 1 4 W
  have h6 := fun (W : World) (hW : Below w.heap.size w W) => allL_any 40 #[] (fun _ _ => rfl) needOk A n wt.needs W (Kd.C_below hr hW) (fun k hk A' c' W' hW' hC hc => need_any A' c' _ W' hC hc)
  have hm := max_len hr
  have hv : vldW wt = (inR wt.te 0 7 && (inR wt.cl 0 7 && (inR wt.at_ 0 50000000 && (inR wt.us 1 1000000 && (inR wt.needs.length 1 4 && wt.needs.all needOk))))) := rfl
  rw [hv]
  have hb := (Below.refl w.heap.size w).alloc (Nat.le_refl _) (.cells (wtc wt A n) 29)
  have hk0 := heap_new (o := .cells (wtc wt A n) 29) (W := w) rfl
  unfold wtv at *
  unfold wtc at *
  have H1 := Lib.hid h1; clear h1
  have H2 := Lib.hid h2; clear h2
  have H3 := Lib.hid h3; clear h3
  have H4 := Lib.hid h4; clear h4
  have H5 := Lib.hid h5; clear h5
  have H6 := Lib.hid h6; clear h6 hr hv
  generalize inR wt.te 0 7 = b1 at *
  generalize inR wt.cl 0 7 = b2 at *
  generalize inR wt.at_ 0 50000000 = b3 at *
  generalize inR wt.us 1 1000000 = b4 at *
  generalize inR wt.needs.length 1 4 = b5 at *
  generalize wt.needs.all needOk = b6 at *
  rcases ways6 b1 b2 b3 b4 b5 with rfl | ⟨rfl, rfl⟩ | ⟨rfl, rfl, rfl⟩ | ⟨rfl, rfl, rfl, rfl⟩ | ⟨rfl, rfl, rfl, rfl, rfl⟩ | ⟨rfl, rfl, rfl, rfl, rfl⟩
  case inr.inr.inr.inr.inr =>
    go_enter Tryd.func15, Tryd.ntmps15
    go_wp2_with (first | (go_at_call 41; with_reducible refine (H1.out _).mono ?_; rintro e w' ⟨rfl, rfl⟩) | (go_at_call 41; with_reducible refine (H2.out _).mono ?_; rintro e w' ⟨rfl, rfl⟩) | (go_at_call 41; with_reducible refine (H3.out _).mono ?_; rintro e w' ⟨rfl, rfl⟩) | (go_at_call 41; with_reducible refine (H4.out _).mono ?_; rintro e w' ⟨rfl, rfl⟩) | (go_at_call 41; with_reducible refine (H5.out _).mono ?_; rintro e w' ⟨rfl, rfl⟩))
    have HB := Lib.hid hb; clear hb hk0
    refine (H6.out _ HB.out).mono ?_
    rintro e w2 ⟨rfl, hb2⟩
    have HB2 := Lib.hid (HB.out.trans (hb2.mono HB.out.size)); clear hb2
    cases b6
    all_goals
      go_wp2_with fail
      go_ret
      exact ⟨rfl, HB2.out⟩
  all_goals
    clear H6
    have HB := Lib.hid hb; clear hb
    go_enter Tryd.func15, Tryd.ntmps15
    go_wp2_with (first | (go_at_call 41; with_reducible refine (H1.out _).mono ?_; rintro e w' ⟨rfl, rfl⟩) | (go_at_call 41; with_reducible refine (H2.out _).mono ?_; rintro e w' ⟨rfl, rfl⟩) | (go_at_call 41; with_reducible refine (H3.out _).mono ?_; rintro e w' ⟨rfl, rfl⟩) | (go_at_call 41; with_reducible refine (H4.out _).mono ?_; rintro e w' ⟨rfl, rfl⟩) | (go_at_call 41; with_reducible refine (H5.out _).mono ?_; rintro e w' ⟨rfl, rfl⟩))
    go_ret
    exact ⟨rfl, HB.out⟩
end Go.Proofs.YtnabgijdbcdpmaaDoor

namespace Go.Proofs.YtnabgijdbcdpmaaDoor
open Go.RowKit Go.Rg Go.Proofs.YtnabgijdbcdpmaaDoor.PRightsMatchesReference Go.Proofs.YtnabgijdbcdpmaaDoorW.PrintWords
set_option linter.unusedVariables false
set_option linter.unusedSimpArgs false

theorem wraps_i64 (n : Int) (h₀ : 0 ≤ n) (h₁ : n < 2 ^ 62) : IntKind.i64.wrap n = n := by rw [IntKind.wrap_i64]; omega
theorem and_nat (a b : Nat) (ha : a < 2 ^ 62) (hb : b < 2 ^ 62) : Go.bits .and .i64 (a : Int) (b : Int) = ((a &&& b : Nat) : Int) := (bits_nat .i64 62 (by decide) wraps_i64 a b ha hb).1
theorem or_nat (a b : Nat) (ha : a < 2 ^ 62) (hb : b < 2 ^ 62) : Go.bits .or .i64 (a : Int) (b : Int) = ((a ||| b : Nat) : Int) := (bits_nat .i64 62 (by decide) wraps_i64 a b ha hb).2
theorem bit_fact (x k : Nat) (hx : x < 2 ^ 62) : (Go.bits .and .i64 ((x : Int) / 2 ^ k) 1 == 1) = x.testBit k := by
  have h1 : ((x : Int) / 2 ^ k) = ((x / 2 ^ k : Nat) : Int) := by simp
  have h2 := Nat.div_le_self x (2 ^ k)
  have h3 := and_nat (x / 2 ^ k) 1 (by omega) (by decide)
  rw [h1, show ((1 : Int)) = ((1 : Nat) : Int) from rfl, h3]
  rw [Nat.testBit_eq_decide_div_mod_eq, Nat.and_one_is_mod]
  rw [beqD]
  exact decide_eq_decide.2 (by omega)
theorem bit_on {x k : Int} (hx : 0 ≤ x) (hx2 : x ≤ 255) : (Go.bits .and .i64 (x / 2 ^ k.toNat) 1 == 1) = bitOn x k := by
  obtain ⟨n, rfl⟩ := Int.eq_ofNat_of_zero_le hx
  exact bit_fact n k.toNat (by omega)

theorem given_any (A : Option Addr) (c : Nat) (l : List Cl) (UA : Option Addr) (uc : Nat) (u : List Int) (wt : Wt) (WA : Option Addr) (wn : Nat) (w : World) (hK : Kinds w) (hr : Kd.C k40 w A l.length l) (hu : (Kd.int .i64).C w UA u.length u) (hw : (Kd.slice 3 (Kd.int .i64)).C w WA wt.needs.length wt.needs) :
    Calls Tryd.prog 46 #[.slice A l.length c, .slice UA u.length uc, wtv wt WA wn] w fun e w' => e = .returned (.bool (givenB l u wt)) ∧ Below w.heap.size w w' := by
  have hb := (Below.refl w.heap.size w).alloc (Nat.le_refl _) (.cells (wtc wt WA wn) 29)
  have hk0 := heap_new (o := .cells (wtc wt WA wn) 29) (W := w) rfl
  have h1 := validL_any A c l _ (Kd.C_below hr hb) (hK.next hb)
  have h2 := fun (W : World) (hW : Below w.heap.size w W) => allI_any 66 #[] (fun _ _ => rfl) (fun n => inR n 0 1000000) UA uc u W (Kd.C_below hu hW) (fun k hk W' hW' => by
    show Calls Tryd.prog 66 #[.int .i64 u[k]] W' _
    go_enter Tryd.func66, Tryd.ntmps66
    go_wp2_with fail
    refine (isIn_any _ _ _ _).mono ?_
    rintro e w' ⟨rfl, rfl⟩
    go_wp2_with fail
    go_ret
    exact ⟨rfl, Below.refl _ _⟩)
  have h3 := fun (W : World) (hW : Below w.heap.size w W) => vWant_any wt WA wn W (Kd.C_below hw hW)
  have hm := max_len hu
  have hv : givenB l u wt = (vldL l && (decide ((u.length : Int) = 12) && (u.all (fun n => inR n 0 1000000) && vldW wt))) := by
    unfold givenB usedOk; congr 2; simp; omega
  rw [hv]
  have q : ((u.length : Int) == 12) = decide ((u.length : Int) = 12) := beqD _ _
  unfold wtv at *
  unfold wtc at *
  have H1 := Lib.hid h1; clear h1
  have H2 := Lib.hid h2; clear h2
  have H3 := Lib.hid h3; clear h3 hr hv hw hu hK
  generalize vldL l = b1 at *
  generalize u.all (fun n => inR n 0 1000000) = b3 at *
  generalize vldW wt = b4 at *
  generalize decide ((u.length : Int) = 12) = b2 at *
  rcases ways3 b1 b2 b3 with rfl | ⟨rfl, rfl⟩ | ⟨rfl, rfl, rfl⟩ | ⟨rfl, rfl, rfl⟩
  case inr.inr.inr =>
    go_enter Tryd.func46, Tryd.ntmps46
    have HB := Lib.hid hb; clear hb
    go_wp2_with fail
    refine H1.out.mono ?_
    rintro e w1 ⟨rfl, hb1⟩
    have hk1 := (hb1.block w.heap.size (by simp)).trans hk0
    have HB1 := Lib.hid (HB.out.trans (hb1.mono HB.out.size)); clear hb1
    go_wp2_with fail
    refine (H2.out _ HB1.out).mono ?_
    rintro e w2 ⟨rfl, hb2⟩
    have hk2 := (hb2.block w.heap.size (Array.getElem?_eq_some_iff.1 hk1).1).trans hk1
    have HB2 := Lib.hid (HB1.out.trans (hb2.mono HB1.out.size)); clear hb2
    have c0 := cell_of (o := 0) hk2 rfl
    have c1 := cell_of (o := 1) hk2 rfl
    have c2 := cell_of (o := 2) hk2 rfl
    have c3 := cell_of (o := 3) hk2 rfl
    have c4 := cell_of (o := 4) hk2 rfl
    clear hk0 hk1 hk2
    go_wp2_with fail
    refine (H3.out _ HB2.out).mono ?_
    rintro e w3 ⟨rfl, hb3⟩
    have HB3 := Lib.hid (HB2.out.trans (hb3.mono HB2.out.size)); clear hb3 c0 c1 c2 c3 c4
    cases b4
    all_goals
      go_wp2_with fail
      go_ret
      exact ⟨rfl, HB3.out⟩
  all_goals
    go_enter Tryd.func46, Tryd.ntmps46
    have HB := Lib.hid hb; clear hb hk0
    go_wp2_with fail
    refine H1.out.mono ?_
    rintro e w1 ⟨rfl, hb1⟩
    have HB1 := Lib.hid (HB.out.trans (hb1.mono HB.out.size)); clear hb1
    first
    | (go_wp2_with fail
       go_ret
       exact ⟨rfl, HB1.out⟩)
    | (go_wp2_with fail
       refine (H2.out _ HB1.out).mono ?_
       rintro e w2 ⟨rfl, hb2⟩
       have HB2 := Lib.hid (HB1.out.trans (hb2.mono HB1.out.size)); clear hb2
       go_wp2_with fail
       go_ret
       exact ⟨rfl, HB2.out⟩)

theorem vldW_bd {wt : Wt} (h : vldW wt = true) : 0 ≤ wt.te ∧ wt.te ≤ 7 ∧ 0 ≤ wt.cl ∧ wt.cl ≤ 7 ∧ 0 ≤ wt.at_ ∧ wt.at_ ≤ 50000000 ∧ 1 ≤ wt.us ∧ wt.us ≤ 1000000 := by
  simp only [vldW, inR, Bool.and_eq_true, decide_eq_true_eq] at h
  omega
theorem vld_bd {c : Cl} (h : vld c = true) : 0 ≤ c.f0 ∧ c.f0 ≤ 11 ∧ 1 ≤ c.f1 ∧ c.f1 ≤ 4 ∧ 0 ≤ c.f2 ∧ c.f2 ≤ 255 ∧ 0 ≤ c.f3 ∧ c.f3 ≤ 255 := by
  simp only [vld, isWk, inR, Bool.and_eq_true, decide_eq_true_eq] at h
  omega

set_option maxRecDepth 100000 in
set_option maxHeartbeats 2000000 in
theorem applies_any (c : Cl) (wt : Wt) (WA : Option Addr) (wn : Nat) (w : World) (hK : Kinds w) (hw : (Kd.slice 3 (Kd.int .i64)).C w WA wt.needs.length wt.needs) :
    Calls Tryd.prog 17 #[clv c, wtv wt WA wn] w fun e w' => e = .returned (.bool (applies c wt)) ∧ Below w.heap.size w w' := by
  obtain ⟨hb, hk0, hk1, hsz⟩ := two_box w (clc c) (wtc wt WA wn) 40 29
  have h1 := valid_any c _ (hK.next hb)
  have h2 := fun (W : World) (hW : Below w.heap.size w W) => vWant_any wt WA wn W (Kd.C_below hw hW)
  have h3 := fun W => isIn_any wt.at_ c.f4 c.f5 W
  have hv : applies c wt = (vld c && (vldW wt && (bitOn c.f2 wt.te && (bitOn c.f3 wt.cl && inR wt.at_ c.f4 c.f5)))) := rfl
  rw [hv]
  have hbd1 := vldW_bd (wt := wt)
  have hbd2 := vld_bd (c := c)
  have hq1 : ∀ (h : 0 ≤ c.f2) (h' : c.f2 ≤ 255), (Go.bits .and .i64 (c.f2 / 2 ^ wt.te.toNat) 1 == 1) = bitOn c.f2 wt.te := fun h h' => bit_on h h'
  have hq2 : ∀ (h : 0 ≤ c.f3) (h' : c.f3 ≤ 255), (Go.bits .and .i64 (c.f3 / 2 ^ wt.cl.toNat) 1 == 1) = bitOn c.f3 wt.cl := fun h h' => bit_on h h'
  unfold wtv clv at *
  unfold wtc clc at *
  have H1 := Lib.hid h1; clear h1
  have H2 := Lib.hid h2; clear h2
  have H3 := Lib.hid h3; clear h3 hv hw hK
  have HD1 := Lib.hid hbd1; clear hbd1
  have HD2 := Lib.hid hbd2; clear hbd2
  have HQ1 := Lib.hid hq1; clear hq1
  have HQ2 := Lib.hid hq2; clear hq2
  generalize inR wt.at_ c.f4 c.f5 = b5 at *
  generalize bitOn c.f2 wt.te = b3 at *
  generalize bitOn c.f3 wt.cl = b4 at *
  generalize vldW wt = b2 at *
  generalize vld c = b1 at *
  cases b1
  · go_enter Tryd.func17, Tryd.ntmps17
    have HB := Lib.hid hb; clear hb
    go_wp2_with fail
    refine H1.out.mono ?_
    rintro e w1 ⟨rfl, hb1⟩
    have HB1 := Lib.hid (HB.out.trans (hb1.mono HB.out.size)); clear hb1 hk0 hk1
    go_wp2_with fail
    go_ret
    exact ⟨rfl, HB1.out⟩
  · obtain ⟨p0, p1, p2, p3, p4, p5, p6, p7⟩ := HD2.out rfl
    have r1 := HQ1.out p4 p5
    have r2 := HQ2.out p6 p7
    clear HQ1 HQ2 HD2 p0 p1 p2 p3
    cases b2
    · go_enter Tryd.func17, Tryd.ntmps17
      have HB := Lib.hid hb; clear hb
      go_wp2_with fail
      refine H1.out.mono ?_
      rintro e w1 ⟨rfl, hb1⟩
      have c0 := (hb1.cell (p := ⟨w.heap.size + 1, 0, none⟩) (by simp)).trans (cell_of (o := 0) hk1 rfl)
      have c1 := (hb1.cell (p := ⟨w.heap.size + 1, 1, none⟩) (by simp)).trans (cell_of (o := 1) hk1 rfl)
      have c2 := (hb1.cell (p := ⟨w.heap.size + 1, 2, none⟩) (by simp)).trans (cell_of (o := 2) hk1 rfl)
      have c3 := (hb1.cell (p := ⟨w.heap.size + 1, 3, none⟩) (by simp)).trans (cell_of (o := 3) hk1 rfl)
      have c4 := (hb1.cell (p := ⟨w.heap.size + 1, 4, none⟩) (by simp)).trans (cell_of (o := 4) hk1 rfl)
      have HB1 := Lib.hid (HB.out.trans (hb1.mono HB.out.size)); clear hb1 hk0 hk1 r1 r2
      go_wp2_with fail
      refine (H2.out _ HB1.out).mono ?_
      rintro e w2 ⟨rfl, hb2⟩
      have HB2 := Lib.hid (HB1.out.trans (hb2.mono HB1.out.size)); clear hb2 c0 c1 c2 c3 c4
      go_wp2_with fail
      go_ret
      exact ⟨rfl, HB2.out⟩
    · obtain ⟨s0, s1, s2, s3, s4, s5, s6, s7⟩ := HD1.out rfl
      clear HD1
      go_enter Tryd.func17, Tryd.ntmps17
      have HB := Lib.hid hb; clear hb
      have HR1 := Lib.hid r1; clear r1
      have HR2 := Lib.hid r2; clear r2
      go_wp2_with fail
      refine H1.out.mono ?_
      rintro e w1 ⟨rfl, hb1⟩
      have c0 := (hb1.cell (p := ⟨w.heap.size + 1, 0, none⟩) (by simp)).trans (cell_of (o := 0) hk1 rfl)
      have c1 := (hb1.cell (p := ⟨w.heap.size + 1, 1, none⟩) (by simp)).trans (cell_of (o := 1) hk1 rfl)
      have c2 := (hb1.cell (p := ⟨w.heap.size + 1, 2, none⟩) (by simp)).trans (cell_of (o := 2) hk1 rfl)
      have c3 := (hb1.cell (p := ⟨w.heap.size + 1, 3, none⟩) (by simp)).trans (cell_of (o := 3) hk1 rfl)
      have c4 := (hb1.cell (p := ⟨w.heap.size + 1, 4, none⟩) (by simp)).trans (cell_of (o := 4) hk1 rfl)
      have hk0' := (hb1.block w.heap.size (by simp; omega)).trans hk0
      have hk1' := (hb1.block (w.heap.size + 1) (by simp)).trans hk1
      have HB1 := Lib.hid (HB.out.trans (hb1.mono HB.out.size)); clear hb1 hk0 hk1
      have K0 := Lib.hid hk0'; clear hk0'
      have K1 := Lib.hid hk1'; clear hk1'
      go_wp2_with fail
      refine (H2.out _ HB1.out).mono ?_
      rintro e w2 ⟨rfl, hb2⟩
      have hk0' := (hb2.block w.heap.size (Array.getElem?_eq_some_iff.1 K0.out).1).trans K0.out
      have hk1' := (hb2.block (w.heap.size + 1) (Array.getElem?_eq_some_iff.1 K1.out).1).trans K1.out
      have HB2 := Lib.hid (HB1.out.trans (hb2.mono HB1.out.size)); clear hb2 c0 c1 c2 c3 c4
      have d2 := cell_of (o := 2) hk0' rfl
      have d3 := cell_of (o := 3) hk0' rfl
      have d4 := cell_of (o := 4) hk0' rfl
      have d5 := cell_of (o := 5) hk0' rfl
      have d6 := cell_of (o := 0) hk1' rfl
      have d7 := cell_of (o := 1) hk1' rfl
      have d8 := cell_of (o := 2) hk1' rfl
      clear K0 K1 hk0' hk1'
      have r1 := HR1.out
      have r2 := HR2.out
      clear HR1 HR2
      cases b3
      · go_wp2_with fail
        go_ret
        exact ⟨rfl, HB2.out⟩
      · cases b4
        · go_wp2_with fail
          go_ret
          exact ⟨rfl, HB2.out⟩
        · go_wp2_with fail
          refine (H3.out _).mono ?_
          rintro e w3 ⟨rfl, rfl⟩
          cases b5
          all_goals
            go_wp2_with fail
            go_ret
            exact ⟨rfl, HB2.out⟩
end Go.Proofs.YtnabgijdbcdpmaaDoor

namespace Go.Proofs.YtnabgijdbcdpmaaDoor
open Go.RowKit Go.Rg Go.Proofs.YtnabgijdbcdpmaaDoor.PRightsMatchesReference Go.Proofs.YtnabgijdbcdpmaaDoorW.PrintWords
set_option linter.unusedVariables false
set_option linter.unusedSimpArgs false

theorem offerC_any (c : Cl) (k : Int) (XB WB : Nat) (wt : Wt) (WA : Option Addr) (wn : Nat) (w : World) (hK : Kinds w) (hw : (Kd.slice 3 (Kd.int .i64)).C w WA wt.needs.length wt.needs)
    (hx : w.cell? ⟨XB, 0, none⟩ = some (.int .i64 k)) (hW : w.heap[WB]? = some (.cells (wtc wt WA wn) 29 (0, 0))) :
    Calls Tryd.prog 68 #[clv c, .pointer (some ⟨XB, 0, none⟩), .pointer (some ⟨WB, 0, none⟩)] w fun e w' => e = .returned (.bool (decide (c.f1 = 1) && (decide (c.f0 = k) && applies c wt))) ∧ Below w.heap.size w w' := by
  have hb := (Below.refl w.heap.size w).alloc (Nat.le_refl _) (.cells (clc c) 40)
  have h1 := applies_any c wt WA wn _ (hK.next hb) (Kd.C_below hw hb)
  have q1 : (c.f1 == 1) = decide (c.f1 = 1) := beqD _ _
  have q2 : (c.f0 == k) = decide (c.f0 = k) := beqD _ _
  have hxl := World.block_lt_of_cell? w _ hx
  have hWl := (Array.getElem?_eq_some_iff.1 hW).1
  have c0 := cell_of (o := 0) hW rfl
  have c1 := cell_of (o := 1) hW rfl
  have c2 := cell_of (o := 2) hW rfl
  have c3 := cell_of (o := 3) hW rfl
  have c4 := cell_of (o := 4) hW rfl
  unfold wtv clv at *
  unfold clc at *
  unfold wtc at c0 c1 c2 c3 c4
  have H1 := Lib.hid h1; clear h1 hK hw hW
  have HB := Lib.hid hb; clear hb
  generalize applies c wt = b3 at *
  generalize decide (c.f1 = 1) = b1 at *
  generalize decide (c.f0 = k) = b2 at *
  cases b1
  · go_enter Tryd.func68, Tryd.ntmps68
    go_wp2_with fail
    go_ret
    exact ⟨rfl, HB.out⟩
  · cases b2
    · go_enter Tryd.func68, Tryd.ntmps68
      go_wp2_with fail
      go_ret
      exact ⟨rfl, HB.out⟩
    · go_enter Tryd.func68, Tryd.ntmps68
      go_wp2_with fail
      refine H1.out.mono ?_
      rintro e w1 ⟨rfl, hb1⟩
      have HB1 := Lib.hid (HB.out.trans (hb1.mono HB.out.size)); clear hb1
      cases b3
      all_goals
        go_wp2_with fail
        go_ret
        exact ⟨rfl, HB1.out⟩

theorem offered_any (k : Int) (LB WB : Nat) (A : Option Addr) (c : Nat) (l : List Cl) (wt : Wt) (WA : Option Addr) (wn : Nat) (w : World) (hK : Kinds w) (hr : Kd.C k40 w A l.length l) (hw : (Kd.slice 3 (Kd.int .i64)).C w WA wt.needs.length wt.needs)
    (hL : w.cell? ⟨LB, 0, none⟩ = some (.slice A l.length c)) (hW : w.heap[WB]? = some (.cells (wtc wt WA wn) 29 (0, 0))) :
    Calls Tryd.prog 67 #[.int .i64 k, .pointer (some ⟨LB, 0, none⟩), .pointer (some ⟨WB, 0, none⟩)] w fun e w' => e = .returned (.bool (offered l wt k)) ∧ Below w.heap.size w w' := by
  have hb := (Below.refl w.heap.size w).alloc (Nat.le_refl _) (.cells #[.int .i64 k] 3)
  have hx : (w.alloc (.cells #[.int .i64 k] 3)).cell? ⟨w.heap.size, 0, none⟩ = some (.int .i64 k) := cell_new rfl
  have hlt : w.heap.size < (w.alloc (.cells #[.int .i64 k] 3)).heap.size := by simp
  have hWl := (Array.getElem?_eq_some_iff.1 hW).1
  have h1 := containsFC_any 68 #[.pointer (some ⟨w.heap.size, 0, none⟩), .pointer (some ⟨WB, 0, none⟩)] (fun _ _ => rfl) (fun x => decide (x.f1 = 1) && (decide (x.f0 = k) && applies x wt)) A c l _ (Kd.C_below hr hb) (fun j hj W hW' => by
    have hb2 := hb.trans (hW'.mono hb.size)
    exact offerC_any _ k w.heap.size WB wt WA wn W (hK.next hb2) (Kd.C_below hw hb2) ((hW'.cell (p := ⟨w.heap.size, 0, none⟩) hlt).trans hx) ((hb2.block WB hWl).trans hW))
  have hv : (l.any fun x => decide (x.f1 = 1) && (decide (x.f0 = k) && applies x wt)) = offered l wt k := rfl
  rw [hv] at h1
  have hLl := World.block_lt_of_cell? w _ hL
  have H1 := Lib.hid h1; clear h1 hK hw hW hr hv hx hlt
  have HB := Lib.hid hb; clear hb
  go_enter Tryd.func67, Tryd.ntmps67
  go_wp2_with fail
  refine H1.out.mono ?_
  rintro e w1 ⟨rfl, hb1⟩
  go_wp2_with fail
  go_ret
  exact ⟨rfl, HB.out.trans (hb1.mono HB.out.size)⟩
end Go.Proofs.YtnabgijdbcdpmaaDoor

namespace Go.Proofs.YtnabgijdbcdpmaaDoor
open Go.RowKit Go.Rg Go.Proofs.YtnabgijdbcdpmaaDoor.PRightsMatchesReference Go.Proofs.YtnabgijdbcdpmaaDoorW.PrintWords
set_option linter.unusedVariables false
set_option linter.unusedSimpArgs false

theorem bits_lt : ∀ (l : List Bool), bits l < 2 ^ l.length
  | [] => by simp [bits]
  | b :: r => by have := bits_lt r; simp only [bits, List.length_cons, Nat.pow_succ]; split <;> omega
theorem bits_snoc : ∀ (l : List Bool) (b : Bool), bits (l ++ [b]) = bits l + (if b then 2 ^ l.length else 0)
  | [], b => by cases b <;> simp [bits]
  | a :: r, b => by
    have := bits_snoc r b
    simp only [List.cons_append, bits, this, List.length_cons, Nat.pow_succ]
    cases b <;> simp <;> omega
theorem or_pow {m k : Nat} (h : m < 2 ^ k) : m ||| 2 ^ k = m + 2 ^ k := by
  have := Nat.two_pow_add_eq_or_of_lt h 1
  rw [Nat.mul_one, Nat.add_comm] at this
  rw [Nat.or_comm, this]
theorem or_shl {m k : Nat} (h : m < 2 ^ k) (hk : k < 62) : Go.bits .or .i64 (m : Int) (wrap64 (2 ^ k)) = ((m + 2 ^ k : Nat) : Int) := by
  have hpl : 2 ^ k < 2 ^ 62 := Nat.pow_lt_pow_right (by decide) hk
  have e : ((2 : Int) ^ k) = ((2 ^ k : Nat) : Int) := by simp
  rw [e, wrap_in (by omega) (by omega), or_nat m (2 ^ k) (Nat.lt_trans h hpl) hpl, or_pow h]
theorem take_map_succ {α β : Type} (f : α → β) (l : List α) {k : Nat} (h : k < l.length) : (l.take (k + 1)).map f = (l.take k).map f ++ [f l[k]] := by
  rw [List.take_succ_eq_append_getElem h, List.map_append]; rfl
theorem bits_step {α : Type} (f : α → Bool) (l : List α) {k : Nat} (h : k < l.length) : bits ((l.take (k + 1)).map f) = bits ((l.take k).map f) + (if f l[k] then 2 ^ k else 0) := by
  rw [take_map_succ f l h, bits_snoc, List.length_map, List.length_take, Nat.min_eq_left (Nat.le_of_lt h)]
theorem used_bd {u : List Int} (h : usedOk u = true) (h12 : u.length = 12) {k : Int} (h0 : 0 ≤ k) (h1 : k ≤ 11) : 0 ≤ rd u k ∧ rd u k ≤ 1000000 := by
  obtain ⟨n, rfl⟩ := Int.eq_ofNat_of_zero_le h0
  have hn : n < u.length := by omega
  rw [rd_get hn]
  simp only [usedOk, List.all_eq_true] at h
  have := h u[n] (List.getElem_mem hn)
  simp only [inR, Bool.and_eq_true, decide_eq_true_eq] at this
  exact this

set_option maxRecDepth 100000 in
set_option maxHeartbeats 4000000 in
theorem broken_any (A : Option Addr) (c : Nat) (l : List Cl) (UA : Option Addr) (uc : Nat) (u : List Int) (wt : Wt) (WA : Option Addr) (wn : Nat) (PA : Option Addr) (pc : Nat) (p : List Int) (w : World) (hK : Kinds w) (hr : Kd.C k40 w A l.length l) (hu : (Kd.int .i64).C w UA u.length u) (hw : (Kd.slice 3 (Kd.int .i64)).C w WA wt.needs.length wt.needs) (hp : (Kd.int .i64).C w PA p.length p)
    (hl : l.length ≤ 12) (h12 : u.length = 12) (huo : usedOk u = true) :
    Calls Tryd.prog 48 #[.slice A l.length c, .slice UA u.length uc, wtv wt WA wn, .slice PA p.length pc] w fun e w' => e = .returned (.int .i64 (brk l u wt p : Nat)) ∧ Below w.heap.size w w' := by
  have hb := (Below.refl w.heap.size w).alloc (Nat.le_refl _) (.cells (wtc wt WA wn) 29)
  have hk0 := heap_new (o := .cells (wtc wt WA wn) 29) (W := w) rfl
  have HR := Lib.hid hr; clear hr
  have HU := Lib.hid hu; clear hu
  have HW := Lib.hid hw; clear hw
  have HP := Lib.hid hp; clear hp
  have HK := Lib.hid hK; clear hK
  have H12 := Lib.hid h12; clear h12
  have HUO := Lib.hid huo; clear huo
  have HB := Lib.hid hb; clear hb
  have HK0 := Lib.hid hk0; clear hk0
  unfold wtv
  unfold wtc at HK0 HB
  go_enter Tryd.func48, Tryd.ntmps48
  go_wp2_with fail
  go_loopw [9, 14] (fun b i wr => ∃ k : Nat, k ≤ l.length ∧ b = .int .i64 (bits ((l.take k).map (forb u wt p)) : Nat) ∧ i = .int .i64 k ∧ Hid (Below (w.heap.size + 1) (w.alloc (.cells #[.int .i64 wt.te, .int .i64 wt.cl, .int .i64 wt.at_, .int .i64 wt.us, .slice WA wt.needs.length wn] 29)) wr)) (fun b i wr => l.length - (intOf i).toNat)
  case atStart => exact ⟨0, Nat.zero_le _, rfl, rfl, Lib.hid (Below.refl _ _)⟩
  case round =>
    obtain ⟨k, hk, rfl, rfl, HL⟩ := hrel
    by_cases hlt : k < l.length
    · have hltI : (k : Int) < (l.length : Int) := by omega
      have hbw : Below w.heap.size w wr := HB.out.trans (HL.out.mono (by omega))
      have hz : w.heap.size < wr.heap.size := by have := HL.out.size; simp at this; omega
      obtain ⟨ad, e, x0, x1, x2, x3, x4, x5, x6, x7⟩ := at_T40 (Kd.C_below HR.out hbw) (k : Int) (by omega) hltI
      cases e
      simp only [Int.toNat_natCast] at x0 x1 x2 x3 x4 x5 x6 x7
      have hrd : rd_T40 l (k : Int) = l[k] := by unfold rd_T40; simp [hlt]
      rw [hrd] at x0 x1 x2 x3 x4 x5 x6 x7
      have hbl := bits_lt ((l.take k).map (forb u wt p))
      rw [List.length_map, List.length_take, Nat.min_eq_left hk] at hbl
      have hbs := bits_step (forb u wt p) l hlt
      have hfo : forb u wt p l[k] = (applies l[k] wt && forbK l[k] u wt p) := rfl
      rw [hfo] at hbs
      clear hfo hrd
      generalize hX : l[k] = X at *
      clear hX
      generalize bits ((l.take k).map (forb u wt p)) = m0 at *
      have HBL := Lib.hid hbl; clear hbl
      have HBW := Lib.hid hbw; clear hbw
      have HBS := Lib.hid hbs; clear hbs
      obtain ⟨f0, f1, f2, f3, f4, f5, f6, f7⟩ := X
      simp only at x0 x1 x2 x3 x4 x5 x6 x7
      go_wp2_with fail
      have hB0 := HBW.out.alloc (HBW.out.size) (.cells #[.int .i64 f0, .int .i64 f1, .int .i64 f2, .int .i64 f3, .int .i64 f4, .int .i64 f5, .int .i64 f6, .int .i64 f7] 40)
      have hq0 := heap_old (o := .cells #[.int .i64 f0, .int .i64 f1, .int .i64 f2, .int .i64 f3, .int .i64 f4, .int .i64 f5, .int .i64 f6, .int .i64 f7] 40) ((HL.out.block w.heap.size (by omega)).trans HK0.out)
      have hq1 := heap_new (o := .cells #[.int .i64 f0, .int .i64 f1, .int .i64 f2, .int .i64 f3, .int .i64 f4, .int .i64 f5, .int .i64 f6, .int .i64 f7] 40) (W := wr) rfl
      have hL0 := HL.out.alloc (by omega) (.cells #[.int .i64 f0, .int .i64 f1, .int .i64 f2, .int .i64 f3, .int .i64 f4, .int .i64 f5, .int .i64 f6, .int .i64 f7] 40)
      have hz0 : w.heap.size + 1 ≤ (wr.alloc (.cells #[.int .i64 f0, .int .i64 f1, .int .i64 f2, .int .i64 f3, .int .i64 f4, .int .i64 f5, .int .i64 f6, .int .i64 f7] 40)).heap.size := by simp; omega
      generalize wr.alloc (.cells #[.int .i64 f0, .int .i64 f1, .int .i64 f2, .int .i64 f3, .int .i64 f4, .int .i64 f5, .int .i64 f6, .int .i64 f7] 40) = W0 at *
      have e0 := cell_ext (cell_of (o := 0) hq1 rfl)
      have e1 := cell_ext (cell_of (o := 1) hq1 rfl)
      have e2 := cell_ext (cell_of (o := 2) hq1 rfl)
      have e3 := cell_ext (cell_of (o := 3) hq1 rfl)
      have e4 := cell_ext (cell_of (o := 4) hq1 rfl)
      have e5 := cell_ext (cell_of (o := 5) hq1 rfl)
      have e6 := cell_ext (cell_of (o := 6) hq1 rfl)
      have e7 := cell_ext (cell_of (o := 7) hq1 rfl)
      have g0 := cell_ext (cell_of (o := 0) hq0 rfl)
      have g1 := cell_ext (cell_of (o := 1) hq0 rfl)
      have g2 := cell_ext (cell_of (o := 2) hq0 rfl)
      have g3 := cell_ext (cell_of (o := 3) hq0 rfl)
      have g4 := cell_ext (cell_of (o := 4) hq0 rfl)
      obtain ⟨tt, hT⟩ := HK.out.next hB0
      have k3 := cell_ext (cell_of (o := 3) hT rfl)
      have k5 := cell_ext (cell_of (o := 5) hT rfl)
      have k7 := cell_ext (cell_of (o := 7) hT rfl)
      have k9 := cell_ext (cell_of (o := 9) hT rfl)
      have hbx : ∀ x : Ext W0, Below w.heap.size w x.val := fun x => hB0.trans (x.2.below (fun k _ h => h) hB0.size)
      have hA : ∀ x : Ext W0, _ := fun x => applies_any ⟨f0, f1, f2, f3, f4, f5, f6, f7⟩ wt WA wn x.val (HK.out.next (hbx x)) (Kd.C_below HW.out (hbx x))
      simp only [clv, wtv] at hA
      have HLX : Hid (∀ x : Ext W0, Below (w.heap.size + 1) (w.alloc (.cells #[.int .i64 wt.te, .int .i64 wt.cl, .int .i64 wt.at_, .int .i64 wt.us, .slice WA wt.needs.length wn] 29)) x.val) := Lib.hid fun x => hL0.trans (x.2.below (fun k _ h => h) hz0)
      have hap : applies ⟨f0, f1, f2, f3, f4, f5, f6, f7⟩ wt = true → 0 ≤ f0 ∧ f0 ≤ 11 ∧ (f1 = 1 ∨ f1 = 2 ∨ f1 = 3 ∨ f1 = 4) ∧ 1 ≤ wt.us ∧ wt.us ≤ 1000000 := fun h => by
        simp only [applies, Bool.and_eq_true] at h
        have h1 := vld_bd h.1
        have h2 := vldW_bd h.2.1
        simp only at h1
        omega
      have HAP := Lib.hid hap; clear hap
      have HBX := Lib.hid hbx; clear hbx
      clear hq0 hq1 hL0 hB0 hT x0 x1 x2 x3 x4 x5 x6 x7
      generalize applies ⟨f0, f1, f2, f3, f4, f5, f6, f7⟩ wt = a at *
      cases a with
      | false =>
        have HA := Lib.hid hA; clear hA
        refine region_ext (by kernel_rfl) (by kernel_rfl) ?_
        repeat (go_big_quiet_step ((go_at_call 17; with_reducible exact call_ext (HA.out _))))
        refine wpQuiet_nil ?_
        rintro W' ⟨X, rfl⟩
        go_wp2_with fail
        go_roundw
        case rel => exact ⟨k + 1, by omega, by rw [HBS.out]; rfl, by go_num, Lib.hid (HLX.out X)⟩
        case measure => simp [intOf]; omega
      | true =>
        have HA := Lib.hid hA; clear hA
        obtain ⟨p0, p1, hf, p2, p3⟩ := HAP.out rfl
        clear HAP
        have u1 : f0 < (u.length : Int) := by have := H12.out; omega
        obtain ⟨u2, u3⟩ := used_bd HUO.out H12.out p0 p1
        have hPX : ∀ x : Ext W0, (Kd.int .i64).C x.val PA p.length p := fun x => Kd.C_below HP.out (HBX.out x)
        have hUX : ∀ x : Ext W0, (Kd.int .i64).C x.val UA u.length u := fun x => Kd.C_below HU.out (HBX.out x)
        have h97 : ∀ x : Ext W0, _ := fun x => kind1_any ⟨f0, f1, f2, f3, f4, f5, f6, f7⟩ (.slice UA u.length uc) wt WA wn (.slice PA p.length pc) x.val
        have h98 : ∀ x : Ext W0, _ := fun x => kind2_any ⟨f0, f1, f2, f3, f4, f5, f6, f7⟩ (.slice UA u.length uc) wt WA wn PA pc p x.val (hPX x)
        have h100 : ∀ x : Ext W0, _ := fun x => kind4_any ⟨f0, f1, f2, f3, f4, f5, f6, f7⟩ UA uc u wt WA wn PA pc p x.val (hPX x) (hUX x) p0 u1 u2 u3 p2 p3
        have h102 : ∀ x : Ext W0, _ := fun x => kind6_any ⟨f0, f1, f2, f3, f4, f5, f6, f7⟩ (.slice UA u.length uc) wt WA wn PA pc p x.val (hPX x)
        simp only [clv, wtv] at h97 h98 h100 h102
        have r1 : f1 = 1 → forbK ⟨f0, f1, f2, f3, f4, f5, f6, f7⟩ u wt p = false := fun h => by subst h; rfl
        have r2 : f1 = 2 → hasI p f0 = forbK ⟨f0, f1, f2, f3, f4, f5, f6, f7⟩ u wt p := fun h => by subst h; rfl
        have r3 : f1 = 3 → (hasI p f0 && decide (f6 < rd u f0 + wt.us)) = forbK ⟨f0, f1, f2, f3, f4, f5, f6, f7⟩ u wt p := fun h => by subst h; rfl
        have r4 : f1 = 4 → (hasI p f0 && hasI p f7) = forbK ⟨f0, f1, f2, f3, f4, f5, f6, f7⟩ u wt p := fun h => by subst h; rfl
        generalize forbK ⟨f0, f1, f2, f3, f4, f5, f6, f7⟩ u wt p = b at *
        have R1 := Lib.hid r1; clear r1
        have R2 := Lib.hid r2; clear r2
        have R3 := Lib.hid r3; clear r3
        have R4 := Lib.hid r4; clear r4
        have H97 := Lib.hid h97; clear h97
        have H98 := Lib.hid h98; clear h98
        have H100 := Lib.hid h100; clear h100
        have H102 := Lib.hid h102; clear h102
        clear hPX hUX u1 u2 u3 p0 p1 p2 p3
        have hk63 : k < 62 := by omega
        rcases hf with rfl | rfl | rfl | rfl
        · obtain rfl := R1.out rfl
          clear R1 R2 R3 R4 H98 H100 H102
          refine region_ext (by kernel_rfl) (by kernel_rfl) ?_
          repeat (go_big_quiet_step (first | (go_at_call 17; with_reducible exact call_ext (HA.out _)) | (go_at_call 97; with_reducible exact call_ext (H97.out _))))
          refine wpQuiet_nil ?_
          rintro W' ⟨X, rfl⟩
          go_wp2_with fail
          go_roundw
          case rel => exact ⟨k + 1, by omega, by rw [HBS.out]; rfl, by go_num, Lib.hid (HLX.out X)⟩
          case measure => simp [intOf]; omega
        all_goals
          have H98' := H98.out
          have H100' := H100.out
          have H102' := H102.out
          try rw [R2.out rfl] at H98'
          try rw [R3.out rfl] at H100'
          try rw [R4.out rfl] at H102'
          clear H98 H100 H102 R1 R2 R3 R4 H97
          have H98 := Lib.hid H98'; clear H98'
          have H100 := Lib.hid H100'; clear H100'
          have H102 := Lib.hid H102'; clear H102'
          cases b
          · refine region_ext (by kernel_rfl) (by kernel_rfl) ?_
            repeat (go_big_quiet_step (first | (go_at_call 17; with_reducible exact call_ext (HA.out _)) | (go_at_call 98; with_reducible exact call_ext (H98.out _)) | (go_at_call 100; with_reducible exact call_ext (H100.out _)) | (go_at_call 102; with_reducible exact call_ext (H102.out _))))
            refine wpQuiet_nil ?_
            rintro W' ⟨X, rfl⟩
            go_wp2_with fail
            go_roundw
            case rel => exact ⟨k + 1, by omega, by rw [HBS.out]; rfl, by go_num, Lib.hid (HLX.out X)⟩
            case measure => simp [intOf]; omega
          · refine region_ext (by kernel_rfl) (by kernel_rfl) ?_
            repeat (go_big_quiet_step (first | (go_at_call 17; with_reducible exact call_ext (HA.out _)) | (go_at_call 98; with_reducible exact call_ext (H98.out _)) | (go_at_call 100; with_reducible exact call_ext (H100.out _)) | (go_at_call 102; with_reducible exact call_ext (H102.out _))))
            refine wpQuiet_nil ?_
            rintro W' ⟨X, rfl⟩
            go_wp2_with fail
            go_roundw
            case rel => exact ⟨k + 1, by omega, by rw [HBS.out, or_shl HBL.out hk63]; rfl, by go_num, Lib.hid (HLX.out X)⟩
            case measure => simp [intOf]; omega
    · obtain rfl : k = l.length := by omega
      have hbr : brk l u wt p = bits ((l.take l.length).map (forb u wt p)) := by rw [List.take_length]; rfl
      have HBR := Lib.hid hbr; clear hbr
      generalize bits ((l.take l.length).map (forb u wt p)) = m0 at *
      go_wp2
      go_ret
      exact ⟨ret_int (by rw [HBR.out]), HB.out.trans (HL.out.mono (by omega))⟩
end Go.Proofs.YtnabgijdbcdpmaaDoor
