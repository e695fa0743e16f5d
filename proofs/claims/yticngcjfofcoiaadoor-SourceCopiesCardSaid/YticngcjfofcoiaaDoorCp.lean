/- What SourceCopies needs: rows of sources that are appended, the integer that picks one. -/
import Derived.Test.YticngcjfofcoiaaDoorMn
namespace Go.Proofs.YticngcjfofcoiaaDoor
open Go.RowKit Go.Rg Go.Proofs.YticngcjfofcoiaaDoorW.PrintWords
set_option linter.unusedVariables false
set_option linter.unusedSimpArgs false
set_option maxRecDepth 100000

/-- The sources' rows, of the call's own. -/
structure SrcRow (base : Nat) (A : Option Addr) (c : Nat) (l : List Src) (W : World) : Prop where
  r : kS.R 35 W base (fun _ => True) (.slice A l.length c) l
theorem SrcRow.next {base : Nat} {A : Option Addr} {c : Nat} {l : List Src} {W W' : World} (h : SrcRow base A c l W) (hb : Below W.heap.size W W') : SrcRow base A c l W' := ⟨Kd.R_below h.r hb⟩
theorem R_rows {α : Type} {d : Kd α} {e base : Nat} {ok : Nat → Prop} {W : World} {A : Option Addr} {n c : Nat} {xs : List α} (h : d.R e W base ok (.slice A n c) xs) : ReadsRow (d.M W base ok) d.sz W A n xs := by
  obtain ⟨A', c', e', _, hr⟩ := OwnRow.reads h.2
  cases e'
  exact hr.imp_ (Below.refl _ _) (fun _ _ hp => d.M_mono (fun k hk => hk.1) hp)
theorem SrcRow.rows {base : Nat} {A : Option Addr} {c : Nat} {l : List Src} {W : World} (h : SrcRow base A c l W) : ReadsRow (kS.M W base fun k => k < W.heap.size) kS.sz W A l.length l := by
  have h1 := Kd.R_mono (Kd.R_bound h.r) (ok' := fun k => k < W.heap.size) (fun k hk => hk.2.2.1)
  exact R_rows h1
theorem empty_rowS {W : World} {g base : Nat} (hz : W.heap.size = g) (hb : base ≤ g) : kS.R 35 (W.alloc (.cells #[] 35)) base (fun _ => True) (.slice (some ⟨g, 0, none⟩) 0 0) [] := by
  subst hz
  exact ⟨fun _ _ => trivial, OwnRow.lit (inner := []) (ps := []) W base ⟨by simp, fun j p hj => by simp at hj⟩ hb (by simp)⟩
theorem pickV_bd {a n : Int} (hn : 0 < n) : 0 ≤ pickV a n ∧ pickV a n < n := by
  unfold pickV
  split
  · exact ⟨Int.tmod_nonneg _ (by omega), Int.tmod_lt_of_pos _ hn⟩
  · exact ⟨Int.tmod_nonneg _ (by omega), Int.tmod_lt_of_pos _ hn⟩
theorem lit_bd {a : Int} (h : (Lit.int .i64 a).wf = true) : -9223372036854775808 ≤ a ∧ a ≤ 9223372036854775807 := by
  have h2 := h
  simp [Lit.wf, show IntKind.i64.min = -9223372036854775808 from rfl, show IntKind.i64.max = 9223372036854775807 from rfl] at h2
  omega
theorem pick_call (a : Int) (n : Nat) (ha : (Lit.int .i64 a).wf = true) (hn : 0 < n) (w : World) : Calls Tryd.prog 31 #[.int .i64 a, .int .i64 n] w fun e w' => ∃ q : Nat, q < n ∧ e = .returned (.int .i64 q) ∧ w' = w := by
  refine (pickL_any a n (lit_bd ha).1 (lit_bd ha).2 (by omega) w).mono ?_
  rintro e w' ⟨rfl, rfl⟩
  have := pickV_bd (a := a) (n := n) (by omega)
  obtain ⟨q, hq⟩ := Int.eq_ofNat_of_zero_le this.1
  exact ⟨q, by omega, by rw [hq], rfl⟩
theorem own_step {l : List Src} {xs : List Int} {i : Nat} {y : Int} {s : Src} (hy : xs[i]? = some y) (hs : l[y.toNat]? = some s) : ownL l (xs.take (i + 1)) = ownL l (xs.take i) ++ if s.frm.length = 0 then [y] else [] := by
  have hg : l.getD y.toNat s0 = s := by simp [List.getD, hs]
  rw [take_at hy]
  unfold ownL
  rw [List.filter_append, List.filter_cons, List.filter_nil, hg]
  by_cases h : s.frm.length = 0
  · simp [h]
  · simp [h]
theorem own_len (l : List Src) (xs : List Int) : (ownL l xs).length ≤ xs.length := List.length_filter_le ..
end Go.Proofs.YticngcjfofcoiaaDoor
