/- The contract of flow: what is left of a greatest flow. -/
import Derived.Test.YticngcjfofcoiaaDoorPu
import Derived.Laws.EntriesVeiled
namespace Go.Proofs.YticngcjfofcoiaaDoor
open Go.RowKit Go.Rg Go.Proofs.YticngcjfofcoiaaDoorW.PrintWords
set_option linter.unusedVariables false
set_option linter.unusedSimpArgs false
def z676 : Array Value := Array.replicate 676 (.int .i64 0)
theorem z676_get (i : Nat) (h : i < 676) : z676[i]? = some (.int .i64 0) := by
 unfold z676
 rw [Array.getElem?_replicate, if_pos h]
theorem build108 (W : World) : (Instr.build 108 #[]).run Tryd.prog W = .ok (.agg z676) W := by kernel_rfl
theorem box108 (W : World) : (Instr.box 108 (.agg z676)).run Tryd.prog W = .ok (.pointer (some ⟨W.heap.size, 0, none⟩)) (W.alloc (.cells z676 108)) := by kernel_rfl
theorem wpList_val {P : Program} {ops : Array Oper} {Q : Exit → Act → World → Prop} {o : Oper} {a : Act} {W W2 : World} {v : Value} {rest : List Oper} (hg : o.guard = none) (he : (execOp a.eval o).run P W = .ok (.value v) W2) (h : wpList P ops Q rest (a.put o.dst v) W2) : wpList P ops Q (o :: rest) a W := by
 refine wpList_plain hg fun K hK => ?_
 unfold Oper.wp
 rw [he]
 exact hK _ _ h
set_option maxRecDepth 100000 in
theorem wpList_build108 {ops : Array Oper} {Q : Exit → Act → World → Prop} {o : Oper} {a : Act} {W : World} {rest : List Oper} (hg : o.guard = none) (ho : o.op = .build 108 #[]) (h : wpList Tryd.prog ops Q rest (a.put o.dst (.agg z676)) W) : wpList Tryd.prog ops Q (o :: rest) a W := by
 refine wpList_val hg ?_ h
 unfold execOp
 rw [ho]
 simp [Sem.run_bind, build108, Result.andThen]
set_option maxRecDepth 100000 in
theorem wpList_box108 {ops : Array Oper} {Q : Exit → Act → World → Prop} {o : Oper} {a : Act} {W : World} {rest : List Oper} (x : Operand) (hg : o.guard = none) (ho : o.op = .box 108 x) (hx : a.eval x = .agg z676) (h : wpList Tryd.prog ops Q rest (a.put o.dst (.pointer (some ⟨W.heap.size, 0, none⟩))) (W.alloc (.cells z676 108))) : wpList Tryd.prog ops Q (o :: rest) a W := by
 refine wpList_val hg ?_ h
 unfold execOp
 rw [ho]
 show ((do pure (Next.value (← Instr.box 108 (a.eval x)))) : Sem Next).run Tryd.prog W = _
 rw [hx]
 simp only [Sem.run_bind, box108, Result.andThen, Sem.run_pure]
attribute [irreducible] z676
def z26 : Array Value := Array.replicate 26 (.bool false)
theorem z26_get (i : Nat) (h : i < 26) : z26[i]? = some (.bool false) := by
 unfold z26
 rw [Array.getElem?_replicate, if_pos h]
theorem z26_size : z26.size = 26 := by unfold z26; simp
theorem z26_one : z26.all (·.oneCell') = true := by kernel_rfl
theorem build101 (W : World) : (Instr.build 101 #[]).run Tryd.prog W = .ok (.agg z26) W := by kernel_rfl
theorem alloc101 (W : World) : (Instr.alloc 101 true (.tuple #[])).run Tryd.prog W = .ok (.pointer (some ⟨W.heap.size, 0, none⟩)) (W.alloc (.cells z26 101)) := by kernel_rfl
theorem info101 : (Tryd.prog.info? 101).map (·.size) = some z26.size := by kernel_rfl
attribute [irreducible] z26
set_option maxRecDepth 100000 in
theorem wpList_seen {ops : Array Oper} {Q : Exit → Act → World → Prop} {o0 o1 o2 : Oper} {a : Act} {W : World} (x y : Operand) (g0 : o0.guard = none) (g1 : o1.guard = none) (g2 : o2.guard = none) (h0 : o0.op = .build 101 #[]) (h1 : o1.op = .alloc 101) (h2 : o2.op = .store 101 x y)
  (hx : ((a.put o0.dst (.agg z26)).put o1.dst (.pointer (some ⟨W.heap.size, 0, none⟩))).eval x = .pointer (some ⟨W.heap.size, 0, none⟩)) (hy : ((a.put o0.dst (.agg z26)).put o1.dst (.pointer (some ⟨W.heap.size, 0, none⟩))).eval y = .agg z26)
  (h : ∀ W4, W4 = W.alloc (.cells z26 101) → Q .normal (((a.put o0.dst (.agg z26)).put o1.dst (.pointer (some ⟨W.heap.size, 0, none⟩))).put o2.dst undef) W4) : wpList Tryd.prog ops Q [o0, o1, o2] a W := by
 refine wpList_val g0 (v := .agg z26) (W2 := W) ?_ ?_
 ·unfold execOp
  rw [h0]
  simp [Sem.run_bind, build101, Result.andThen]
 refine wpList_val g1 (v := .pointer (some ⟨W.heap.size, 0, none⟩)) (W2 := W.alloc (.cells z26 101)) ?_ ?_
 ·unfold execOp
  rw [h1]
  show ((do pure (Next.value (← Instr.alloc 101 true (.tuple #[])))) : Sem Next).run Tryd.prog W = _
  simp only [Sem.run_bind, alloc101, Result.andThen, Sem.run_pure]
 refine wpList_plain g2 fun K hK => ?_
 unfold Oper.wp
 have e : (execOp ((a.put o0.dst (.agg z26)).put o1.dst (.pointer (some ⟨W.heap.size, 0, none⟩))).eval o2).run Tryd.prog (W.alloc (.cells z26 101)) = .ok .skip (W.alloc (.cells z26 101)) := by
  unfold execOp
  rw [h2]
  show ((do Instr.storeAt 101 _ _; pure Next.skip) : Sem Next).run Tryd.prog (W.alloc (.cells z26 101)) = _
  rw [hx, hy]
  simp only [Sem.run_bind, run_storeAt_new W 101 z26 z26 info101 rfl z26_one, Result.andThen, Sem.run_pure]
 rw [e]
 exact hK _ _ (h _ rfl)
set_option maxRecDepth 100000 in
theorem wpList_alloc73 {ops : Array Oper} {Q : Exit → Act → World → Prop} {o : Oper} {a : Act} {W : World} {rest : List Oper} (k : Nat) (hk : W.heap.size = k) (hg : o.guard = none) (ho : o.op = .alloc 73)
  (h : ∀ W2, W2 = W.alloc (.cells #[.nilFunc] 73) → W2.cell? ⟨k, 0, none⟩ = some .nilFunc → W2.frozen? ⟨k, 0, none⟩ = false → wpList Tryd.prog ops Q rest (a.put o.dst (.pointer (some ⟨k, 0, none⟩))) W2) : wpList Tryd.prog ops Q (o :: rest) a W := by
 subst hk
 have hh : (W.alloc (.cells #[.nilFunc] 73)).heap[W.heap.size]? = some (.cells #[.nilFunc] 73) := heap_new rfl
 refine wpList_val hg (v := .pointer (some ⟨W.heap.size, 0, none⟩)) (W2 := W.alloc (.cells #[.nilFunc] 73)) ?_ (h _ rfl (cell_of hh rfl) (frozen_of hh))
 unfold execOp
 rw [ho]
 show ((do pure (Next.value (← Instr.alloc 73 true (.tuple #[])))) : Sem Next).run Tryd.prog W = _
 rw [Sem.run_bind, show (Instr.alloc 73 true (.tuple #[])).run Tryd.prog W = .ok (.pointer (some ⟨W.heap.size, 0, none⟩)) (W.alloc (.cells #[.nilFunc] 73)) by kernel_rfl]
 simp only [Result.andThen, Sem.run_pure]
structure WebX (WB : Nat) (nx : Nat → List Nat) (og sd wo : Nat) (W : World) : Prop where
 next : ∀ i, i < 12 → ∃ (A : Option Addr) (c : Nat), W.cell? ⟨WB, i, none⟩ = some (.slice A (nx i).length c) ∧ (Kd.int .i64).C W A (nx i).length ((nx i).map Int.ofNat)
 org : W.cell? ⟨WB, 12, none⟩ = some (.int .u16 og)
 said : W.cell? ⟨WB, 13, none⟩ = some (.int .u16 sd)
 wo : W.cell? ⟨WB, 14, none⟩ = some (.int .u16 wo)
theorem WebX.below {WB : Nat} {nx : Nat → List Nat} {og sd wo : Nat} {W W' : World} (h : WebX WB nx og sd wo W) (hb : Below W.heap.size W W') : WebX WB nx og sd wo W' :=
 ⟨fun i hi => by obtain ⟨A, c, h1, h2⟩ := h.next i hi; exact ⟨A, c, pw_cell_below hb h1, Kd.C_below h2 hb⟩, pw_cell_below hb h.org, pw_cell_below hb h.said, pw_cell_below hb h.wo⟩
def netOf (nx : Nat → List Nat) (sd o x : Nat) : Flow.Web := { K := 12, org := fun i => o.testBit i, said := fun i => sd.testBit i, wo := fun i => x.testBit i, E := fun a b => (nx a).contains b }
structure NX (NB : Nat) (R : Nat → Nat → Int) (W : World) : Prop where
 hn : ∀ a b, a < 26 → b < 26 → W.cell? ⟨NB, a * 26 + b, none⟩ = some (.int .i64 (R a b)) ∧ W.frozen? ⟨NB, a * 26 + b, none⟩ = false
theorem NX.put {NB : Nat} {R : Nat → Nat → Int} {W : World} (h : NX NB R W) {x y : Nat} (hx : x < 26) (hy : y < 26) (v : Int) : NX NB (setR R x y v) (W.setCell ⟨NB, x * 26 + y, none⟩ (.int .i64 v)) := by
 refine ⟨fun a b ha hb => ⟨?_, by rw [World.frozen?_setCell]; exact (h.hn a b ha hb).2⟩⟩
 unfold setR
 by_cases e : a = x ∧ b = y
 ·rw [if_pos e]
  obtain ⟨rfl, rfl⟩ := e
  exact cs_same (h.hn a b ha hb).1 _
 ·rw [if_neg e, cs_other (ad_ne (by omega)), (h.hn a b ha hb).1]
theorem NX.congr {NB : Nat} {R R' : Nat → Nat → Int} {W : World} (h : NX NB R W) (e : ∀ a b, a < 26 → b < 26 → R a b = R' a b) : NX NB R' W := ⟨fun a b ha hb => by rw [← e a b ha hb]; exact h.hn a b ha hb⟩
def capTo (w : Flow.Web) (k a b : Nat) : Int := if (a < 12 ∧ a < k) ∨ (12 ≤ a ∧ a < 24 ∧ a - 12 < k) ∨ (a = 24 ∧ b < k) then Flow.cap w a b else 0
theorem capTo_skip {w : Flow.Web} {k : Nat} (hw : w.wo k = true) (hK : w.K = 12) (hk : k < 12) : ∀ a b, a < 26 → b < 26 → capTo w k a b = capTo w (k + 1) a b := fun a b ha hb => by
 by_cases h1 : (a < 12 ∧ a < k) ∨ (12 ≤ a ∧ a < 24 ∧ a - 12 < k) ∨ (a = 24 ∧ b < k)
 ·unfold capTo
  rw [if_pos h1, if_pos (by omega)]
 ·unfold capTo
  rw [if_neg h1]
  split
  ·rename_i h2
   have h3 : a = k ∨ a = 12 + k ∨ (a = 24 ∧ b = k) := by omega
   symm
   unfold Flow.cap
   rw [hK]
   rcases h3 with rfl | rfl | ⟨rfl, rfl⟩
   ·rw [if_pos hk, if_neg (fun h => by rw [hw] at h; cases h.2)]
   ·rw [if_neg (by omega), if_pos (by omega), show 12 + k - 12 = k by omega, if_pos hw]
   ·rw [if_neg (by omega), if_neg (by omega), if_pos rfl, if_neg (fun h => by rw [hw] at h; cases h.2.2)]
  ·rfl
theorem rd_nat {l : List Nat} {j : Nat} (h : j < l.length) : rd (l.map Int.ofNat) (j : Int) = ((l[j] : Nat) : Int) := by
 unfold rd
 simp [h]
structure LX (W : World) (R : Nat → Nat → Int) (W' : World) : Prop where
 net : NX W.heap.size R W'
 var : W'.cell? ⟨W.heap.size + 1, 0, none⟩ = some (.pointer (some ⟨W.heap.size, 0, none⟩))
 below : Below W.heap.size W W'
theorem LX.put {W W' : World} {R : Nat → Nat → Int} (h : LX W R W') {x y : Nat} (hx : x < 26) (hy : y < 26) (v : Int) : LX W (setR R x y v) (W'.setCell ⟨W.heap.size, x * 26 + y, none⟩ (.int .i64 v)) :=
 ⟨h.net.put hx hy v, by rw [cs_other (ad_ne (by omega))]; exact h.var, h.below.setCell (by show W.heap.size ≤ W.heap.size; omega) _⟩
theorem LX.congr {W W' : World} {R R' : Nat → Nat → Int} (h : LX W R W') (e : ∀ a b, a < 26 → b < 26 → R a b = R' a b) : LX W R' W' := ⟨h.net.congr e, h.var, h.below⟩
def midR (w : Flow.Web) (k a b : Nat) : Int := if a = k ∧ b = 12 + k then 1 else if (a = 24 ∧ b = k) ∧ w.org k = true then 12 else if (a = 12 + k ∧ b = 25) ∧ w.said k = true then 12 else capTo w k a b
def edgeR (w : Flow.Web) (k : Nat) (l : List Nat) (a b : Nat) : Int := if a = 12 + k ∧ b ∈ l then 12 else midR w k a b
theorem edgeR_full {w : Flow.Web} {k : Nat} {l : List Nat} (hw : w.wo k = false) (hK : w.K = 12) (hk : k < 12) (hl : ∀ v, v ∈ l ↔ w.E k v = true) (hlt : ∀ v ∈ l, v < 12) : ∀ a b, a < 26 → b < 26 → edgeR w k l a b = capTo w (k + 1) a b := fun a b ha hb => by
 by_cases h1 : (a < 12 ∧ a < k) ∨ (12 ≤ a ∧ a < 24 ∧ a - 12 < k) ∨ (a = 24 ∧ b < k)
 ·have e1 : ¬ (a = 12 + k ∧ b ∈ l) := fun h => by omega
  have e2 : ¬ (a = k ∧ b = 12 + k) := fun h => by omega
  have e3 : ¬ ((a = 24 ∧ b = k) ∧ w.org k = true) := fun h => by omega
  have e4 : ¬ ((a = 12 + k ∧ b = 25) ∧ w.said k = true) := fun h => by omega
  unfold edgeR midR capTo
  rw [if_neg e1, if_neg e2, if_neg e3, if_neg e4, if_pos h1, if_pos (by omega)]
 ·by_cases h2 : (a < 12 ∧ a < k + 1) ∨ (12 ≤ a ∧ a < 24 ∧ a - 12 < k + 1) ∨ (a = 24 ∧ b < k + 1)
  ·have h3 : a = k ∨ a = 12 + k ∨ (a = 24 ∧ b = k) := by omega
   unfold edgeR midR capTo
   rw [if_neg h1, if_pos h2]
   unfold Flow.cap
   rw [hK]
   rcases h3 with rfl | rfl | ⟨rfl, rfl⟩
   ·rw [if_neg (fun h => by omega), if_pos hk]
    by_cases hb2 : b = 12 + a
    ·rw [if_pos ⟨rfl, hb2⟩, if_pos ⟨hb2, hw⟩]
    ·rw [if_neg (fun h => hb2 h.2), if_neg (fun h => by omega), if_neg (fun h => by omega), if_neg (fun h => hb2 h.1)]
   ·rw [if_neg (show ¬ 12 + k < 12 by omega), if_pos (show 12 + k < 2 * 12 by omega), show 12 + k - 12 = k by omega, hw, if_neg (show ¬ false = true by simp)]
    by_cases hbl : b ∈ l
    ·rw [if_pos ⟨rfl, hbl⟩, if_pos (hlt b hbl), if_pos ((hl b).1 hbl)]; rfl
    ·rw [if_neg (fun h => hbl h.2), if_neg (fun h => by omega), if_neg (fun h => by omega)]
     by_cases hb12 : b < 12
     ·rw [if_pos hb12, if_neg (fun h => hbl ((hl b).2 h)), if_neg (fun h => by omega)]
     ·rw [if_neg hb12]
      by_cases hq : b = 25 ∧ w.said k = true
      ·rw [if_pos ⟨⟨rfl, hq.1⟩, hq.2⟩, if_pos ⟨by omega, hq.2⟩]; rfl
      ·rw [if_neg (fun h => hq ⟨h.1.2, h.2⟩), if_neg (fun h => hq ⟨by omega, h.2⟩)]
   ·rw [if_neg (fun h => by omega), if_neg (fun h => by omega), if_neg (show ¬ 24 < 12 by omega), if_neg (show ¬ 24 < 2 * 12 by omega), if_pos (show 24 = 2 * 12 from rfl)]
    by_cases ho : w.org b = true
    ·rw [if_pos ⟨⟨rfl, rfl⟩, ho⟩, if_pos ⟨hk, ho, hw⟩]; rfl
    ·rw [if_neg (fun h => ho h.2), if_neg (fun h => by omega), if_neg (fun h => ho h.2.1)]
  ·have e1 : ¬ (a = 12 + k ∧ b ∈ l) := fun h => by omega
   have e2 : ¬ (a = k ∧ b = 12 + k) := fun h => by omega
   have e3 : ¬ ((a = 24 ∧ b = k) ∧ w.org k = true) := fun h => by omega
   have e4 : ¬ ((a = 12 + k ∧ b = 25) ∧ w.said k = true) := fun h => by omega
   unfold edgeR midR capTo
   rw [if_neg e1, if_neg e2, if_neg e3, if_neg e4, if_neg h1, if_neg h2]
theorem edge_step {w : Flow.Web} {k v : Nat} {l : List Nat} (a b : Nat) : setR (edgeR w k l) (12 + k) v 12 a b = edgeR w k (l ++ [v]) a b := by
 unfold setR
 by_cases q1 : a = 12 + k ∧ b = v
 ·rw [if_pos q1]
  unfold edgeR
  rw [if_pos ⟨q1.1, by simp [q1.2]⟩]
 ·rw [if_neg q1]
  unfold edgeR
  by_cases q2 : a = 12 + k ∧ b ∈ l
  ·rw [if_pos q2, if_pos ⟨q2.1, List.mem_append_left _ q2.2⟩]
  ·rw [if_neg q2, if_neg (fun h => (List.mem_append.1 h.2).elim (fun h' => q2 ⟨h.1, h'⟩) (fun h' => q1 ⟨h.1, by simpa using h'⟩))]
theorem capTo_full {w : Flow.Web} (hK : w.K = 12) : ∀ a b, a < 26 → b < 26 → capTo w 12 a b = Flow.cap w a b := fun a b ha hb => by
 unfold capTo
 by_cases h : (a < 12 ∧ a < 12) ∨ (12 ≤ a ∧ a < 24 ∧ a - 12 < 12) ∨ (a = 24 ∧ b < 12)
 ·rw [if_pos h]
 ·rw [if_neg h]
  unfold Flow.cap
  rw [hK, if_neg (show ¬ a < 12 by omega), if_neg (show ¬ a < 2 * 12 by omega)]
  by_cases h24 : a = 2 * 12
  ·rw [if_pos h24, if_neg (fun h' => by omega)]
  ·rw [if_neg h24]
theorem inv_le {w : Flow.Web} {R : Nat → Nat → Int} {n : Nat} (h : Flow.Inv w R n) : n ≤ w.K := by
 have := h.le_cut (Flow.cut_all w)
 rw [Flow.count_all] at this
 omega
theorem inv_bd {w : Flow.Web} (hK : w.K = 12) {R : Nat → Nat → Int} {n : Int} (h : Flow.Inv w R n) : ∀ a b, a < 26 → b < 26 → 0 ≤ R a b ∧ R a b ≤ 1000 := fun a b ha hb => by
 have h1 := h.pos a b (by rw [hK]; exact ha) (by rw [hK]; exact hb)
 have h2 := h.pos b a (by rw [hK]; exact hb) (by rw [hK]; exact ha)
 have h3 := h.anti a b (by rw [hK]; exact ha) (by rw [hK]; exact hb)
 have hc : ∀ a b, Flow.cap w a b ≤ 12 := fun a b => by
  unfold Flow.cap
  rw [hK]
  repeat' split
  all_goals simp
 have := hc a b
 have := hc b a
 omega
def FlowPost (w : Flow.Web) (W : World) (e : Ending) (W' : World) : Prop :=
 ∃ (n NB : Nat) (R : Nat → Nat → Int), e = .returned (.tuple #[.int .i64 n, .pointer (some ⟨NB, 0, none⟩)]) ∧ NX NB R W' ∧ Flow.Inv w R n ∧ ¬ Flow.Seen w R 25 ∧ Below W.heap.size W W'
set_option maxRecDepth 100000 in
set_option maxHeartbeats 8000000 in
theorem flow_any (WB : Nat) (nx : Nat → List Nat) (og sd wo o x : Nat) (W : World) (hW : WebX WB nx og sd wo W) (hnx : ∀ i, i < 12 → ∀ v ∈ nx i, v < 12) (ho : o < 4096) (hx : x < 4096) (hwo : wo < 4096) (hsd : sd < 4096) :
  Calls Tryd.prog 71 #[.pointer (some ⟨WB, 0, none⟩), .int .u16 o, .int .u16 x] W (FlowPost (netOf nx sd o (x ||| wo)) W) := by
 have hor := or_u16 x wo (by omega) (by omega)
 have hxw : x ||| wo < 4096 := Nat.or_lt_two_pow (n := 12) hx hwo
 have cW := hW.wo
 have HW := Lib.hid hW; clear hW
 have HNX := Lib.hid hnx; clear hnx
 go_enter Tryd.func71, Tryd.ntmps71
 go_wp2_with (first | (refine wpList_build108 rfl rfl ?_) | (refine wpList_box108 (.tmp 21) rfl rfl rfl ?_))
 have hb1 := (Below.refl W.heap.size W).alloc (Nat.le_refl _) (.cells z676 108)
 have hb2 := hb1.alloc hb1.size (.cells #[.pointer (some ⟨W.heap.size, 0, none⟩)] 98)
 have hz1 : (W.alloc (.cells z676 108)).heap.size = W.heap.size + 1 := by simp
 have hl : ((W.alloc (.cells z676 108)).alloc (.cells #[.pointer (some ⟨W.heap.size, 0, none⟩)] 98)).heap[W.heap.size + 1]? = some (.cells #[.pointer (some ⟨W.heap.size, 0, none⟩)] 98) := heap_new hz1
 have hn : ((W.alloc (.cells z676 108)).alloc (.cells #[.pointer (some ⟨W.heap.size, 0, none⟩)] 98)).heap[W.heap.size]? = some (.cells z676 108) := heap_old (heap_new rfl)
 have hN0 : NX W.heap.size (capTo (netOf nx sd o (x ||| wo)) 0) ((W.alloc (.cells z676 108)).alloc (.cells #[.pointer (some ⟨W.heap.size, 0, none⟩)] 98)) := ⟨fun a b ha hb => by
  have h0 : capTo (netOf nx sd o (x ||| wo)) 0 a b = 0 := by
   unfold capTo
   rw [if_neg (by omega)]
  rw [h0]
  exact ⟨cell_of hn (z676_get _ (by omega)), frozen_of hn⟩⟩
 have HI0 := Lib.hid (LX.mk hN0 (cell_of (o := 0) hl rfl) hb2); clear hN0 hl hn hb1 hb2 hz1 cW hor
 generalize (W.alloc (.cells z676 108)).alloc (.cells #[.pointer (some ⟨W.heap.size, 0, none⟩)] 98) = W2 at *
 generalize z676 = zz at *
 obtain ⟨XO, hXO⟩ : ∃ XO, x ||| wo = XO := ⟨_, rfl⟩
 rw [hXO] at HI0 hxw ⊢
 have HXO := Lib.hid hXO; clear hXO
 obtain ⟨w, hw⟩ : ∃ w, netOf nx sd o XO = w := ⟨_, rfl⟩
 rw [hw] at HI0 ⊢
 have HWD := Lib.hid hw; clear hw
 go_loopw [23] (fun kv wr => ∃ k : Nat, k ≤ 12 ∧ kv = .int .i64 k ∧ Hid (LX W (capTo w k) wr)) (fun kv wr => 12 - (intOf kv).toNat)
 case atStart => exact ⟨0, by omega, rfl, Lib.hid HI0.out⟩
 case round =>
  obtain ⟨k, hk, rfl, HI⟩ := hrel
  by_cases hk12 : k < 12
  ·have hkI : (k : Int) < 12 := by omega
   go_wp2_with fail
   refine (has_any XO k (by omega) (by omega) wr).mono ?_
   rintro e w1 ⟨rfl, hwe⟩
   obtain rfl := hwe.symm
   clear hwe
   cases hb : XO.testBit k with
   |true =>
    have HC := Lib.hid (HI.out.congr (capTo_skip (w := w) (k := k) (by rw [← HWD.out]; exact hb) (by rw [← HWD.out]; rfl) hk12))
    clear hb
    go_wp2_with fail
    go_roundw
    case rel => exact ⟨k + 1, by omega, by go_num, HC⟩
    case measure => exact meas_up1 hk12
   |false =>
    have HB := Lib.hid hb; clear hb
    have cL := HI.out.var
    have c1 := (HI.out.net.hn k (12 + k) (by omega) (by omega)).1
    have f1 := (HI.out.net.hn k (12 + k) (by omega) (by omega)).2
    have hw1 : wrap64 (12 + (k : Int)) = 12 + (k : Int) := wrap_in (by omega) (by omega)
    have ht1 : (12 + (k : Int)).toNat = 12 + k := by omega
    have hI1 : 12 + (k : Int) < 26 := by omega
    have hI2 : (k : Int) < 26 := by omega
    have H1 := Lib.hid (HI.out.put (x := k) (y := 12 + k) (by omega) (by omega) 1)
    go_wp2_with fail
    refine (has_any o k (by omega) (by omega) _).mono ?_
    rintro e w1 ⟨rfl, rfl⟩
    generalize wr.setCell ⟨W.heap.size, k * 26 + (12 + k), none⟩ (.int .i64 1) = w1 at *
    clear c1 f1 cL
    have cL := H1.out.var
    have c2 : w1.cell? ⟨W.heap.size, 624 + k, none⟩ = _ := (H1.out.net.hn 24 k (by omega) (by omega)).1
    have f2 : w1.frozen? ⟨W.heap.size, 624 + k, none⟩ = _ := (H1.out.net.hn 24 k (by omega) (by omega)).2
    have cD := (HW.out.below H1.out.below).said
    cases ho2 : o.testBit k with
    |true =>
     have H2 : Hid (LX W (setR (setR (capTo w k) k (12 + k) 1) 24 k 12) (w1.setCell ⟨W.heap.size, 624 + k, none⟩ (.int .i64 12))) := Lib.hid (H1.out.put (x := 24) (y := k) (by omega) (by omega) 12)
     have cD2 : (w1.setCell ⟨W.heap.size, 624 + k, none⟩ (.int .i64 12)).cell? ⟨WB, 13, none⟩ = _ := (HW.out.below H2.out.below).said
     have HO2 := Lib.hid (show w.org k = true by rw [← HWD.out]; exact ho2)
     clear ho2
     go_wp2_with fail
     refine (has_any sd k (by omega) (by omega) _).mono ?_
     rintro e w2 ⟨rfl, rfl⟩
     clear c2 f2 cL cD cD2
     generalize (w1.setCell ⟨W.heap.size, 624 + k, none⟩ (.int .i64 12)) = w2 at *
     have cL := H2.out.var
     have c3 := (H2.out.net.hn (12 + k) 25 (by omega) (by omega)).1
     have f3 := (H2.out.net.hn (12 + k) 25 (by omega) (by omega)).2
     cases hs2 : sd.testBit k with
     |true =>
      have H3 : Hid (LX W (setR (setR (setR (capTo w k) k (12 + k) 1) 24 k 12) (12 + k) 25 12) (w2.setCell ⟨W.heap.size, (12 + k) * 26 + 25, none⟩ (.int .i64 12))) := Lib.hid (H2.out.put (x := 12 + k) (y := 25) (by omega) (by omega) 12)
      have HS2 := Lib.hid (show w.said k = true by rw [← HWD.out]; exact hs2)
      clear hs2
      have H4 := Lib.hid (H3.out.congr (R' := midR w k) (fun a b ha hb => by
       unfold midR setR
       rw [HO2.out, HS2.out]
       by_cases q1 : a = k ∧ b = 12 + k
       ·have q2 : ¬ (a = 24 ∧ b = k) := fun h => by omega
        have q3 : ¬ (a = 12 + k ∧ b = 25) := fun h => by omega
        simp [q1, q2, q3]
        try omega
       ·by_cases q2 : a = 24 ∧ b = k
        ·have q3 : ¬ (a = 12 + k ∧ b = 25) := fun h => by omega
         simp [q1, q2, q3]
         try omega
        ·by_cases q3 : a = 12 + k ∧ b = 25
         ·simp [q1, q2, q3]
          try omega
         ·simp [q1, q2, q3]))
      obtain ⟨NA, nc, cN0, hNC⟩ := HW.out.next k hk12
      have cN := pw_cell_below H4.out.below cN0
      clear cN0
      have hnm : (nx k).length ≤ 9223372036854775807 := by have := hNC.2.1; exact this
      have HNC := Lib.hid hNC; clear hNC
      go_wp2_with fail
      generalize (w2.setCell ⟨W.heap.size, (12 + k) * 26 + 25, none⟩ (.int .i64 12)) = w3 at *
      clear cN c3 f3 cL H1 H2 H3
      go_loopw [63] (fun jv wr => ∃ j : Nat, j ≤ (nx k).length ∧ jv = .int .i64 j ∧ Hid (LX W (edgeR w k ((nx k).take j)) wr)) (fun jv wr => (nx k).length - (intOf jv).toNat)
      case atStart => exact ⟨0, Nat.zero_le _, rfl, Lib.hid (H4.out.congr fun a b ha hb => by simp [edgeR])⟩
      case round =>
       obtain ⟨j, hj, rfl, HJ⟩ := hrel
       by_cases hjl : j < (nx k).length
       ·have hjI : (j : Int) < ((nx k).length : Int) := by omega
        obtain ⟨yd, e, hy⟩ := Kd.at_int (xs := (nx k).map Int.ofNat) (n := (nx k).length) (Kd.C_below HNC.out HJ.out.below) (j : Int) (by omega) hjI
        cases e
        simp only [Int.toNat_natCast] at hy
        rw [rd_nat hjl] at hy
        have hv12 := HNX.out k hk12 _ (List.getElem_mem hjl)
        have htk := List.take_succ_eq_append_getElem hjl
        obtain ⟨v, hv⟩ : ∃ v, (nx k)[j] = v := ⟨_, rfl⟩
        rw [hv] at hy hv12 htk
        clear hv
        have cL := HJ.out.var
        have c5 := (HJ.out.net.hn (12 + k) v (by omega) (by omega)).1
        have f5 := (HJ.out.net.hn (12 + k) v (by omega) (by omega)).2
        have hvI : (v : Int) < 26 := by omega
        have H5 := Lib.hid ((HJ.out.put (x := 12 + k) (y := v) (by omega) (by omega) 12).congr (R' := edgeR w k ((nx k).take (j + 1))) (fun a b ha hb => by rw [htk]; exact edge_step a b))
        go_wp2_with fail
        go_roundw
        case rel => exact ⟨j + 1, by omega, by go_num, H5⟩
        case measure => exact meas_up1 hjl
       ·obtain rfl : j = (nx k).length := by omega
        have HE := Lib.hid (HJ.out.congr (R' := capTo w (k + 1)) (fun a b ha hb => by
         rw [List.take_length]
         exact edgeR_full (w := w) (by rw [← HWD.out]; exact HB.out) (by rw [← HWD.out]; rfl) hk12 (fun v => by rw [← HWD.out]; simp [netOf]) (HNX.out k hk12) a b ha hb))
        go_wp2_with fail
        go_roundw
        case rel => exact ⟨k + 1, by omega, by go_num, HE⟩
        case measure => exact meas_up1 hk12
     |false =>
      have H3 : Hid (LX W (setR (setR (capTo w k) k (12 + k) 1) 24 k 12) w2) := H2
      have HS2 := Lib.hid (show w.said k = false by rw [← HWD.out]; exact hs2)
      clear hs2
      have H4 := Lib.hid (H3.out.congr (R' := midR w k) (fun a b ha hb => by
       unfold midR setR
       rw [HO2.out, HS2.out]
       by_cases q1 : a = k ∧ b = 12 + k
       ·have q2 : ¬ (a = 24 ∧ b = k) := fun h => by omega
        have q3 : ¬ (a = 12 + k ∧ b = 25) := fun h => by omega
        simp [q1, q2, q3]
        try omega
       ·by_cases q2 : a = 24 ∧ b = k
        ·have q3 : ¬ (a = 12 + k ∧ b = 25) := fun h => by omega
         simp [q1, q2, q3]
         try omega
        ·by_cases q3 : a = 12 + k ∧ b = 25
         ·simp [q1, q2, q3]
          try omega
         ·simp [q1, q2, q3]))
      obtain ⟨NA, nc, cN0, hNC⟩ := HW.out.next k hk12
      have cN := pw_cell_below H4.out.below cN0
      clear cN0
      have hnm : (nx k).length ≤ 9223372036854775807 := by have := hNC.2.1; exact this
      have HNC := Lib.hid hNC; clear hNC
      go_wp2_with fail
      generalize w2 = w3 at *
      clear cN c3 f3 cL H1 H2 H3
      go_loopw [63] (fun jv wr => ∃ j : Nat, j ≤ (nx k).length ∧ jv = .int .i64 j ∧ Hid (LX W (edgeR w k ((nx k).take j)) wr)) (fun jv wr => (nx k).length - (intOf jv).toNat)
      case atStart => exact ⟨0, Nat.zero_le _, rfl, Lib.hid (H4.out.congr fun a b ha hb => by simp [edgeR])⟩
      case round =>
       obtain ⟨j, hj, rfl, HJ⟩ := hrel
       by_cases hjl : j < (nx k).length
       ·have hjI : (j : Int) < ((nx k).length : Int) := by omega
        obtain ⟨yd, e, hy⟩ := Kd.at_int (xs := (nx k).map Int.ofNat) (n := (nx k).length) (Kd.C_below HNC.out HJ.out.below) (j : Int) (by omega) hjI
        cases e
        simp only [Int.toNat_natCast] at hy
        rw [rd_nat hjl] at hy
        have hv12 := HNX.out k hk12 _ (List.getElem_mem hjl)
        have htk := List.take_succ_eq_append_getElem hjl
        obtain ⟨v, hv⟩ : ∃ v, (nx k)[j] = v := ⟨_, rfl⟩
        rw [hv] at hy hv12 htk
        clear hv
        have cL := HJ.out.var
        have c5 := (HJ.out.net.hn (12 + k) v (by omega) (by omega)).1
        have f5 := (HJ.out.net.hn (12 + k) v (by omega) (by omega)).2
        have hvI : (v : Int) < 26 := by omega
        have H5 := Lib.hid ((HJ.out.put (x := 12 + k) (y := v) (by omega) (by omega) 12).congr (R' := edgeR w k ((nx k).take (j + 1))) (fun a b ha hb => by rw [htk]; exact edge_step a b))
        go_wp2_with fail
        go_roundw
        case rel => exact ⟨j + 1, by omega, by go_num, H5⟩
        case measure => exact meas_up1 hjl
       ·obtain rfl : j = (nx k).length := by omega
        have HE := Lib.hid (HJ.out.congr (R' := capTo w (k + 1)) (fun a b ha hb => by
         rw [List.take_length]
         exact edgeR_full (w := w) (by rw [← HWD.out]; exact HB.out) (by rw [← HWD.out]; rfl) hk12 (fun v => by rw [← HWD.out]; simp [netOf]) (HNX.out k hk12) a b ha hb))
        go_wp2_with fail
        go_roundw
        case rel => exact ⟨k + 1, by omega, by go_num, HE⟩
        case measure => exact meas_up1 hk12
    |false =>
     have H2 : Hid (LX W (setR (capTo w k) k (12 + k) 1) w1) := H1
     have cD2 : w1.cell? ⟨WB, 13, none⟩ = _ := (HW.out.below H2.out.below).said
     have HO2 := Lib.hid (show w.org k = false by rw [← HWD.out]; exact ho2)
     clear ho2
     go_wp2_with fail
     refine (has_any sd k (by omega) (by omega) _).mono ?_
     rintro e w2 ⟨rfl, hwe⟩
     obtain rfl := hwe.symm
     clear hwe c2 f2 cL cD cD2
     generalize w1 = w2 at *
     have cL := H2.out.var
     have c3 := (H2.out.net.hn (12 + k) 25 (by omega) (by omega)).1
     have f3 := (H2.out.net.hn (12 + k) 25 (by omega) (by omega)).2
     cases hs2 : sd.testBit k with
     |true =>
      have H3 : Hid (LX W (setR (setR (capTo w k) k (12 + k) 1) (12 + k) 25 12) (w2.setCell ⟨W.heap.size, (12 + k) * 26 + 25, none⟩ (.int .i64 12))) := Lib.hid (H2.out.put (x := 12 + k) (y := 25) (by omega) (by omega) 12)
      have HS2 := Lib.hid (show w.said k = true by rw [← HWD.out]; exact hs2)
      clear hs2
      have H4 := Lib.hid (H3.out.congr (R' := midR w k) (fun a b ha hb => by
       unfold midR setR
       rw [HO2.out, HS2.out]
       by_cases q1 : a = k ∧ b = 12 + k
       ·have q2 : ¬ (a = 24 ∧ b = k) := fun h => by omega
        have q3 : ¬ (a = 12 + k ∧ b = 25) := fun h => by omega
        simp [q1, q2, q3]
        try omega
       ·by_cases q2 : a = 24 ∧ b = k
        ·have q3 : ¬ (a = 12 + k ∧ b = 25) := fun h => by omega
         simp [q1, q2, q3]
         try omega
        ·by_cases q3 : a = 12 + k ∧ b = 25
         ·simp [q1, q2, q3]
          try omega
         ·simp [q1, q2, q3]))
      obtain ⟨NA, nc, cN0, hNC⟩ := HW.out.next k hk12
      have cN := pw_cell_below H4.out.below cN0
      clear cN0
      have hnm : (nx k).length ≤ 9223372036854775807 := by have := hNC.2.1; exact this
      have HNC := Lib.hid hNC; clear hNC
      go_wp2_with fail
      generalize (w2.setCell ⟨W.heap.size, (12 + k) * 26 + 25, none⟩ (.int .i64 12)) = w3 at *
      clear cN c3 f3 cL H1 H2 H3
      go_loopw [63] (fun jv wr => ∃ j : Nat, j ≤ (nx k).length ∧ jv = .int .i64 j ∧ Hid (LX W (edgeR w k ((nx k).take j)) wr)) (fun jv wr => (nx k).length - (intOf jv).toNat)
      case atStart => exact ⟨0, Nat.zero_le _, rfl, Lib.hid (H4.out.congr fun a b ha hb => by simp [edgeR])⟩
      case round =>
       obtain ⟨j, hj, rfl, HJ⟩ := hrel
       by_cases hjl : j < (nx k).length
       ·have hjI : (j : Int) < ((nx k).length : Int) := by omega
        obtain ⟨yd, e, hy⟩ := Kd.at_int (xs := (nx k).map Int.ofNat) (n := (nx k).length) (Kd.C_below HNC.out HJ.out.below) (j : Int) (by omega) hjI
        cases e
        simp only [Int.toNat_natCast] at hy
        rw [rd_nat hjl] at hy
        have hv12 := HNX.out k hk12 _ (List.getElem_mem hjl)
        have htk := List.take_succ_eq_append_getElem hjl
        obtain ⟨v, hv⟩ : ∃ v, (nx k)[j] = v := ⟨_, rfl⟩
        rw [hv] at hy hv12 htk
        clear hv
        have cL := HJ.out.var
        have c5 := (HJ.out.net.hn (12 + k) v (by omega) (by omega)).1
        have f5 := (HJ.out.net.hn (12 + k) v (by omega) (by omega)).2
        have hvI : (v : Int) < 26 := by omega
        have H5 := Lib.hid ((HJ.out.put (x := 12 + k) (y := v) (by omega) (by omega) 12).congr (R' := edgeR w k ((nx k).take (j + 1))) (fun a b ha hb => by rw [htk]; exact edge_step a b))
        go_wp2_with fail
        go_roundw
        case rel => exact ⟨j + 1, by omega, by go_num, H5⟩
        case measure => exact meas_up1 hjl
       ·obtain rfl : j = (nx k).length := by omega
        have HE := Lib.hid (HJ.out.congr (R' := capTo w (k + 1)) (fun a b ha hb => by
         rw [List.take_length]
         exact edgeR_full (w := w) (by rw [← HWD.out]; exact HB.out) (by rw [← HWD.out]; rfl) hk12 (fun v => by rw [← HWD.out]; simp [netOf]) (HNX.out k hk12) a b ha hb))
        go_wp2_with fail
        go_roundw
        case rel => exact ⟨k + 1, by omega, by go_num, HE⟩
        case measure => exact meas_up1 hk12
     |false =>
      have H3 : Hid (LX W (setR (capTo w k) k (12 + k) 1) w2) := H2
      have HS2 := Lib.hid (show w.said k = false by rw [← HWD.out]; exact hs2)
      clear hs2
      have H4 := Lib.hid (H3.out.congr (R' := midR w k) (fun a b ha hb => by
       unfold midR setR
       rw [HO2.out, HS2.out]
       by_cases q1 : a = k ∧ b = 12 + k
       ·have q2 : ¬ (a = 24 ∧ b = k) := fun h => by omega
        have q3 : ¬ (a = 12 + k ∧ b = 25) := fun h => by omega
        simp [q1, q2, q3]
        try omega
       ·by_cases q2 : a = 24 ∧ b = k
        ·have q3 : ¬ (a = 12 + k ∧ b = 25) := fun h => by omega
         simp [q1, q2, q3]
         try omega
        ·by_cases q3 : a = 12 + k ∧ b = 25
         ·simp [q1, q2, q3]
          try omega
         ·simp [q1, q2, q3]))
      obtain ⟨NA, nc, cN0, hNC⟩ := HW.out.next k hk12
      have cN := pw_cell_below H4.out.below cN0
      clear cN0
      have hnm : (nx k).length ≤ 9223372036854775807 := by have := hNC.2.1; exact this
      have HNC := Lib.hid hNC; clear hNC
      go_wp2_with fail
      generalize w2 = w3 at *
      clear cN c3 f3 cL H1 H2 H3
      go_loopw [63] (fun jv wr => ∃ j : Nat, j ≤ (nx k).length ∧ jv = .int .i64 j ∧ Hid (LX W (edgeR w k ((nx k).take j)) wr)) (fun jv wr => (nx k).length - (intOf jv).toNat)
      case atStart => exact ⟨0, Nat.zero_le _, rfl, Lib.hid (H4.out.congr fun a b ha hb => by simp [edgeR])⟩
      case round =>
       obtain ⟨j, hj, rfl, HJ⟩ := hrel
       by_cases hjl : j < (nx k).length
       ·have hjI : (j : Int) < ((nx k).length : Int) := by omega
        obtain ⟨yd, e, hy⟩ := Kd.at_int (xs := (nx k).map Int.ofNat) (n := (nx k).length) (Kd.C_below HNC.out HJ.out.below) (j : Int) (by omega) hjI
        cases e
        simp only [Int.toNat_natCast] at hy
        rw [rd_nat hjl] at hy
        have hv12 := HNX.out k hk12 _ (List.getElem_mem hjl)
        have htk := List.take_succ_eq_append_getElem hjl
        obtain ⟨v, hv⟩ : ∃ v, (nx k)[j] = v := ⟨_, rfl⟩
        rw [hv] at hy hv12 htk
        clear hv
        have cL := HJ.out.var
        have c5 := (HJ.out.net.hn (12 + k) v (by omega) (by omega)).1
        have f5 := (HJ.out.net.hn (12 + k) v (by omega) (by omega)).2
        have hvI : (v : Int) < 26 := by omega
        have H5 := Lib.hid ((HJ.out.put (x := 12 + k) (y := v) (by omega) (by omega) 12).congr (R' := edgeR w k ((nx k).take (j + 1))) (fun a b ha hb => by rw [htk]; exact edge_step a b))
        go_wp2_with fail
        go_roundw
        case rel => exact ⟨j + 1, by omega, by go_num, H5⟩
        case measure => exact meas_up1 hjl
       ·obtain rfl : j = (nx k).length := by omega
        have HE := Lib.hid (HJ.out.congr (R' := capTo w (k + 1)) (fun a b ha hb => by
         rw [List.take_length]
         exact edgeR_full (w := w) (by rw [← HWD.out]; exact HB.out) (by rw [← HWD.out]; rfl) hk12 (fun v => by rw [← HWD.out]; simp [netOf]) (HNX.out k hk12) a b ha hb))
        go_wp2_with fail
        go_roundw
        case rel => exact ⟨k + 1, by omega, by go_num, HE⟩
        case measure => exact meas_up1 hk12
  ·obtain rfl : k = 12 := by omega
   have hwK : w.K = 12 := by rw [← HWD.out]; rfl
   have HE := Lib.hid (HI.out.congr (capTo_full hwK))
   clear HI HI0
   go_wp2_with fail
   go_loopw [12] (fun nv wr => ∃ (n : Nat) (R : Nat → Nat → Int), nv = .int .i64 n ∧ Hid (LX W R wr ∧ Flow.Inv w R n)) (fun nv wr => 13 - (intOf nv).toNat)
   case atStart => exact ⟨0, _, rfl, Lib.hid ⟨HE.out, Flow.Inv.zero w⟩⟩
   case round =>
    obtain ⟨n, R, rfl, HI⟩ := hrel
    have hn12 := inv_le HI.out.2
    rw [hwK] at hn12
    refine wp_seq ?_
    refine wp_block ?_
    refine wp_seq ?_
    refine wp_region_lit ?_
    refine wpList_seen (.tmp 13) (.tmp 78) rfl rfl rfl rfl rfl rfl (by kernel_rfl) (by kernel_rfl) ?_
    intro W4 hW4
    have hz4 : W4.heap.size = wr.heap.size + 1 := by rw [hW4]; simp
    have HW4 := Lib.hid hW4; clear hW4
    simp only [Exit.then, Act.put]
    go_wp2_with (refine wpList_alloc73 (wr.heap.size + 1) hz4 rfl rfl ?_; intro W5 hW5 cQ fQ; have HW5 := Lib.hid hW5; clear hW5)
    have hh4 : W4.heap[wr.heap.size]? = some (.cells z26 101) := by rw [HW4.out]; exact heap_new rfl
    have hb4 : Below wr.heap.size wr W4 := by rw [HW4.out]; exact (Below.refl _ _).alloc (Nat.le_refl _) _
    have hb5 : Below wr.heap.size wr W5 := by rw [HW5.out]; exact hb4.alloc hb4.size _
    have hh5 : W5.heap[wr.heap.size]? = some (.cells z26 101) := by rw [HW5.out]; exact heap_old hh4
    have hzr := HI.out.1.below.size
    have hlr : W.heap.size + 1 < wr.heap.size := World.block_lt_of_cell? wr _ HI.out.1.var
    have hPX : PX wr.heap.size (W.heap.size + 1) W.heap.size (wr.heap.size + 1) (fun _ => false) R (W5.setCell ⟨wr.heap.size + 1, 0, none⟩ (.func (.func 75) #[] #[.pointer (some ⟨wr.heap.size, 0, none⟩), .pointer (some ⟨W.heap.size + 1, 0, none⟩), .pointer (some ⟨wr.heap.size + 1, 0, none⟩)])) := by
     refine ⟨fun i hi => ⟨?_, ?_⟩, fun a b ha hb => ⟨?_, ?_⟩, ?_, cs_same cQ _, by omega⟩
     ·rw [cs_other (ad_ne (by omega))]
      exact cell_of hh5 (z26_get i hi)
     ·rw [World.frozen?_setCell]
      exact frozen_of hh5
     ·rw [cs_other (ad_ne (by omega))]
      exact pw_cell_below hb5 (HI.out.1.net.hn a b ha hb).1
     ·rw [World.frozen?_setCell, World.frozen?_of_block (w := wr) (hb5.block _ (World.block_lt_of_cell? wr _ (HI.out.1.net.hn a b ha hb).1))]
      exact (HI.out.1.net.hn a b ha hb).2
     ·rw [cs_other (ad_ne (by omega))]
      exact pw_cell_below hb5 HI.out.1.var
    have HF5 := Lib.hid (HI.out.1.below.trans (hb5.mono hzr))
    have hC := push_any wr.heap.size (W.heap.size + 1) W.heap.size (wr.heap.size + 1) R (inv_bd hwK HI.out.2) 26 (fun _ => false) 24 _ (by omega) rfl rfl hPX (Nat.le_trans (List.length_filter_le _ _) (by simp))
    have HC := Lib.hid hC; clear hC hPX hh4 hb4 hb5 hh5 HW4 HW5
    refine HC.out.mono ?_
    have h24 : 2 * w.K = 24 := by omega
    have hB6 := HF5.out.setCell (p := ⟨wr.heap.size + 1, 0, none⟩) (show W.heap.size ≤ wr.heap.size + 1 by omega) (.func (.func 75) #[] #[.pointer (some ⟨wr.heap.size, 0, none⟩), .pointer (some ⟨W.heap.size + 1, 0, none⟩), .pointer (some ⟨wr.heap.size + 1, 0, none⟩)])
    have HB6 := Lib.hid hB6; clear hB6
    rintro e w7 (⟨S', r, rfl, p1, p2, p3, p4, p5, p6⟩ | ⟨S', rfl, p1, p2, p3, p4, p5, p6⟩)
    ·have hB7 := HB6.out.trans (p2.below (n := W.heap.size) (fun k hk h => by omega) HB6.out.size)
     have hI7 := HI.out.2.take (r := r) (by rw [h24]; exact p4) (fun y hy => by rw [h24] at hy; have := (p5 y hy).1; omega) (by rw [h24]; exact p3) (by rw [h24]; exact p6)
     rw [h24] at hI7
     have HN := Lib.hid (And.intro (LX.mk ⟨p1.hn⟩ p1.hl hB7) (show Flow.Inv w (Flow.takeP R (24 :: r)) ((n + 1 : Nat) : Int) by rw [show ((n + 1 : Nat) : Int) = (n : Int) + 1 by omega]; exact hI7))
     clear p1 p2 p3 p4 p5 p6 hB7 hI7 HC cQ fQ
     go_wp2_with fail
     go_roundw
     case rel =>
      refine ⟨_, _, _, _, _, _, _, _, _, _, _, _, _, _, ⟨n + 1, _, ?_, HN⟩, rfl⟩
      rw [show ((n + 1 : Nat) : Int) = (n : Int) + 1 by omega]
     case measure => exact meas_up1 (show n < 13 by omega)
    ·have hB7 := HB6.out.trans (p2.below (n := W.heap.size) (fun k hk h => by omega) HB6.out.size)
     have hns : ¬ Flow.Seen w R 25 := fun hs => by
      have key : ∀ a, Flow.Seen w R a → S' a = true := fun a ha => by
       induction ha with
       |base => rw [h24]; exact p4
       |@step a b ha hb hr ih => exact p6 a ih rfl b (by omega) hr
      have := key 25 hs
      rw [p5] at this
      cases this
     have HN := Lib.hid (And.intro (NX.mk p1.hn) (And.intro HI.out.2 (And.intro hns hB7)))
     have cL := p1.hl
     have eL := cell_ext p1.hl
     clear p1 p2 p3 p4 p5 p6 hB7 hns HC cQ fQ
     go_wp2_with fail
     refine region_ext (by kernel_rfl) (by kernel_rfl) ?_
     repeat (go_big_quiet_step (fail))
     refine wpQuiet_nil ?_
     rintro W' ⟨X, rfl⟩
     have hbX := X.2.below (n := w7.heap.size) (fun _ _ h => h) (Nat.le_refl _)
     have hNX : NX W.heap.size R X.val := ⟨fun a b ha hb => ⟨X.2.cell (HN.out.1.hn a b ha hb).1 (fun h => h), by rw [X.2.frozen (World.block_lt_of_cell? w7 _ (HN.out.1.hn a b ha hb).1) (fun h => h)]; exact (HN.out.1.hn a b ha hb).2⟩⟩
     go_wp2_with fail
     go_ret2
     exact ⟨n, W.heap.size, R, rfl, hNX, by rw [HXO.out, HWD.out]; exact HN.out.2.1, by rw [HXO.out, HWD.out]; exact HN.out.2.2.1, HN.out.2.2.2.trans (hbX.mono HN.out.2.2.2.size)⟩
end Go.Proofs.YticngcjfofcoiaaDoor
