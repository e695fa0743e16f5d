/- Words of source's walks: literals, rows of arrays in drawn regions, own rows. -/
import Derived.Test.YticngcjfofcoiaaDoorCn
namespace Go.Proofs.YticngcjfofcoiaaDoor
open Go.RowKit Go.Rg Go.Proofs.YticngcjfofcoiaaDoorW.PrintWords
set_option linter.unusedVariables false
set_option linter.unusedSimpArgs false
theorem info3 : (Tryd.prog.info? 3).map (fun i => (i.zero, i.size, i.bytes)) = some (some (.int .i64 0), 1, 8) := by kernel_rfl
theorem info26 : (Tryd.prog.info? 26).map (fun i => (i.zero, i.size, i.bytes)) = some (some (.slice none 0 0), 1, 24) := by kernel_rfl
theorem ownrow {W : World} {g base : Nat} {e : TypeId} {xs : List Int} {ok : Nat → Prop} (hl : xs.length ≤ 4503599627370496) (h : W.heap[g]? = some (.cells (nums .i64 xs).toArray e (0, 0))) (hb : base ≤ g) (hok : ok g) : (Kd.int .i64).R e W base ok (.slice (some ⟨g, 0, none⟩) xs.length xs.length) xs := by
 refine Kd.R_of_own ⟨by simp [encs], .inr ⟨g, xs.length, _, rfl, hb, h, Nat.le_refl _, ?_, by simp [nums], ?_⟩⟩ (fun k hk => ?_)
 ·exact Nat.le_trans hl (by decide)
 ·simp [nums, encs]
  rw [List.take_of_length_le (by simp)]
 ·have : g = k := by simpa [Value.ownBlock] using hk
  exact this ▸ hok
theorem ev_size {a : Act} {x : Operand} {n m : Nat} (h : a.eval x = .slice (some ⟨n, 0, none⟩) 1 1) (e : n = m) : a.eval x = .slice (some ⟨m, 0, none⟩) 1 1 := by rw [← e]; exact h
theorem wpQuiet_load_mid {P : Program} {ops : Array Oper} {C : World → Prop} {Q : Act → Prop} {rest : List Oper} {op : Oper} {a : Act} (hgd : op.guard = none) (ty : TypeId) (x : Operand) (ho : op.op = .load ty x)
  (b o : Nat) (hx : a.eval x = .pointer (some ⟨b, o, none⟩)) (cs : List Value) (d : TypeDesc) (hc : ∀ w, C w → w.rangeAt b o cs)
  (hu : P.underlying ty = some d) (hd : d.isRow = true) (hi : (P.info? ty).map (·.size) = some cs.length)
  (h : wpQuiet P ops C Q rest (a.put op.dst (.agg cs.toArray))) : wpQuiet P ops C Q (op :: rest) a := by
 refine BigFrame.wpQuiet_want (by simp [Region.wanted, hgd]) fun K hK => ⟨.agg cs.toArray, fun w hw => ?_, hK _ h⟩
 unfold Oper.quietAt execOp
 simp only [ho, hx, Instr.loadAt, Instr.sureAddr, Sem.run_bind, Sem.run_pure, Result.andThen_ok, run_loadVar_mid w b o ty cs d (hc w hw) hu hd hi]
 exact ⟨rfl, rfl⟩
def z26s : Array Value := (Array.replicate 26 (.bool false)).set! 24 (.bool true)
theorem z26s_get (i : Nat) (h : i < 26) : z26s[i]? = some (.bool (decide (i = 24) || false)) := by
 unfold z26s
 rw [Array.set!_eq_setIfInBounds, Array.getElem?_setIfInBounds]
 by_cases e : i = 24
 ·subst e; simp
 ·have e' : ¬ 24 = i := fun h => e h.symm
  simp [e, e', h]
theorem z26s_size : z26s.size = 26 := by unfold z26s; simp
theorem z26s_one : z26s.all (·.oneCell') = true := by kernel_rfl
theorem build101s (W : World) : (Instr.build 101 #[(24, .bool true)]).run Tryd.prog W = .ok (.agg z26s) W := by kernel_rfl
theorem info101s : (Tryd.prog.info? 101).map (·.size) = some z26s.size := by kernel_rfl
attribute [irreducible] z26s
set_option maxRecDepth 100000 in
theorem wpList_seen24 {ops : Array Oper} {Q : Exit → Act → World → Prop} {o0 o1 o2 : Oper} {a : Act} {W : World} {rest : List Oper} (c x y : Operand) (g0 : o0.guard = none) (g1 : o1.guard = none) (g2 : o2.guard = none) (h0 : o0.op = .build 101 #[(24, c)]) (hc : a.eval c = .bool true) (h1 : o1.op = .alloc 101) (h2 : o2.op = .store 101 x y)
  (hx : ((a.put o0.dst (.agg z26s)).put o1.dst (.pointer (some ⟨W.heap.size, 0, none⟩))).eval x = .pointer (some ⟨W.heap.size, 0, none⟩)) (hy : ((a.put o0.dst (.agg z26s)).put o1.dst (.pointer (some ⟨W.heap.size, 0, none⟩))).eval y = .agg z26s)
  (h : ∀ W4, W4 = W.alloc (.cells z26s 101) → wpList Tryd.prog ops Q rest (((a.put o0.dst (.agg z26s)).put o1.dst (.pointer (some ⟨W.heap.size, 0, none⟩))).put o2.dst undef) W4) : wpList Tryd.prog ops Q (o0 :: o1 :: o2 :: rest) a W := by
 refine wpList_val g0 (v := .agg z26s) (W2 := W) ?_ ?_
 ·unfold execOp
  rw [h0]
  simp [Sem.run_bind, build101s, Result.andThen, hc]
 refine wpList_val g1 (v := .pointer (some ⟨W.heap.size, 0, none⟩)) (W2 := W.alloc (.cells z26 101)) ?_ ?_
 ·unfold execOp
  rw [h1]
  show ((do pure (Next.value (← Instr.alloc 101 true (.tuple #[])))) : Sem Next).run Tryd.prog W = _
  simp only [Sem.run_bind, alloc101, Result.andThen, Sem.run_pure]
 refine wpList_plain g2 fun K hK => ?_
 unfold Oper.wp
 have hzz : z26.size = z26s.size := by rw [z26_size, z26s_size]
 have e : (execOp ((a.put o0.dst (.agg z26s)).put o1.dst (.pointer (some ⟨W.heap.size, 0, none⟩))).eval o2).run Tryd.prog (W.alloc (.cells z26 101)) = .ok .skip (W.alloc (.cells z26s 101)) := by
  unfold execOp
  rw [h2]
  show ((do Instr.storeAt 101 _ _; pure Next.skip) : Sem Next).run Tryd.prog (W.alloc (.cells z26 101)) = _
  rw [hx, hy]
  simp only [Sem.run_bind, run_storeAt_new W 101 z26 z26s info101s hzz z26s_one, Result.andThen, Sem.run_pure]
 rw [e]
 exact hK _ _ (h _ rfl)
end Go.Proofs.YticngcjfofcoiaaDoor
