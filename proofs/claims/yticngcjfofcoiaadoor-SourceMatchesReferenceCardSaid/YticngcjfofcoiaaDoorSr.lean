/- Sources as they lie; the contract of Find. -/
import Derived.Test.YticngcjfofcoiaaDoorLi
import Derived.Outline
namespace Go.Proofs.YticngcjfofcoiaaDoor
open Go.RowKit Go.Rg Go.Proofs.YticngcjfofcoiaaDoorW.PrintWords
set_option linter.unusedVariables false
set_option linter.unusedSimpArgs false
structure Src where
 id : Int
 kind : Int
 frm : List Int
deriving DecidableEq
def kS : Kd Src := Kd.iso (Kd.pair (Kd.int .i64) (Kd.pair (Kd.int .i64) (Kd.slice 3 (Kd.int .i64)))) (fun x : Src => (x.id, x.kind, x.frm))
theorem kS_open {w : World} {x : Src} {cs : List Value} (h : kS.K w x cs) : ∃ A c, cs = [.int .i64 x.id, .int .i64 x.kind, .slice A x.frm.length c] ∧ x.frm.length ≤ c ∧ (Kd.int .i64).C w A x.frm.length x.frm := by
 obtain ⟨_, _, rfl, rfl, ⟨_, _, rfl, rfl, ⟨A, c, rfl, hl, hc⟩⟩⟩ := h
 exact ⟨A, c, rfl, hl, hc⟩
theorem kS_mk {w : World} {x : Src} {A : Option Addr} {c : Nat} (hl : x.frm.length ≤ c) (hc : (Kd.int .i64).C w A x.frm.length x.frm) : kS.K w x [.int .i64 x.id, .int .i64 x.kind, .slice A x.frm.length c] :=
 ⟨[.int .i64 x.id], [.int .i64 x.kind, .slice A x.frm.length c], rfl, rfl, ⟨[.int .i64 x.kind], [.slice A x.frm.length c], rfl, rfl, ⟨A, c, rfl, hl, hc⟩⟩⟩
theorem kI_only {q : Nat} (h : q ∈ (3 : Nat) :: (Kd.int .i64).E) : q = 3 := by
 have : (Kd.int .i64).E = [] := rfl
 rw [this] at h
 simpa using h
def s0 : Src := ⟨0, 0, []⟩
theorem at_S {w : World} {A : Option Addr} {n : Nat} {l : List Src} (h : Kd.C kS w A n l) {i : Nat} {s : Src} (hi : l[i]? = some s) : ∃ (ad : Addr) (FA : Option Addr) (fc : Nat), A = some ad ∧ w.cell? (ad.add (i * 3)) = some (.int .i64 s.id) ∧ w.cell? ⟨(ad.add (i * 3)).block, (ad.add (i * 3)).off + 1, none⟩ = some (.int .i64 s.kind) ∧ w.cell? ⟨(ad.add (i * 3)).block, (ad.add (i * 3)).off + 2, none⟩ = some (.slice FA s.frm.length fc) ∧ s.frm.length ≤ fc ∧ (Kd.int .i64).C w FA s.frm.length s.frm := by
 have hlt := (List.getElem?_eq_some_iff.1 hi).1
 have hn : l.length = n := h.1
 obtain ⟨ad, c, e, _, hK, hc0⟩ := Kd.C_get h s0 (i : Int) (by omega) (by omega)
 have hg : l.getD (i : Int).toNat s0 = s := by simp [List.getD, hi]
 rw [hg] at hK
 have hc : ∀ j u, c[j]? = some u → w.cell? (ad.add (i * 3 + j)) = some u := hc0
 obtain ⟨FA, fc, rfl, hl, hC⟩ := kS_open hK
 exact ⟨ad, FA, fc, e, hc 0 _ rfl, by rw [← add_field _ _ 1 (by omega)]; exact hc 1 _ rfl, by rw [← add_field _ _ 2 (by omega)]; exact hc 2 _ rfl, hl, hC⟩
theorem cloneI_all (A : Option Addr) (c : Nat) (xs : List Int) (w : World) (hr : (Kd.int .i64).C w A xs.length xs) (hl : xs.length ≤ 1000) :
  Calls Tryd.prog 38 #[.slice A xs.length c] w fun e w' => ∃ v, e = .returned v ∧ Fresh w w' v xs := by
 cases A with
 |some ad => exact cloneI_some ad c xs w hr hl
 |none =>
  obtain rfl : xs = [] := by
   cases xs with
   |nil => rfl
   |cons x r =>
    obtain ⟨ad, e, _⟩ := hr.2.2 (by simp)
    cases e
  have heq : ∀ W, (binOp .eql 26 (.slice none 0 c) (.slice none 0 0)).run Tryd.prog W = .ok (.bool true) W := fun W => Lib.run_eql_slice_nil W 26 3 none 0 c 0 0 Tryd.underlying26
  rw [List.length_nil]
  go_enter Tryd.func38, Tryd.ntmps38
  go_wp2_with fail
  go_ret
  exact ⟨_, rfl, Kd.R_nil _ _ _ _ _, Below.refl _ _⟩
theorem test_any (i k : Int) (v : Value) (B : Nat) (x : Int) (w : World) (hB : w.cell? ⟨B, 0, none⟩ = some (.int .i64 x)) :
  Calls Tryd.prog 37 #[.agg #[.int .i64 i, .int .i64 k, v], .pointer (some ⟨B, 0, none⟩)] w fun e w' => e = .returned (.bool (i == x)) ∧ Below w.heap.size w w' := by
 have hb := (Below.refl w.heap.size w).alloc (Nat.le_refl _) (.cells #[.int .i64 i, .int .i64 k, v] 35)
 have hc := pw_cell_below hb hB
 have HB := Lib.hid hb; clear hb
 go_enter Tryd.func37, Tryd.ntmps37
 go_wp2_with fail
 go_ret
 exact ⟨rfl, HB.out⟩
end Go.Proofs.YticngcjfofcoiaaDoor
