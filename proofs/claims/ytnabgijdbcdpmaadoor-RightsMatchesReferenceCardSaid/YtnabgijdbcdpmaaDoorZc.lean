/- Rights: merged texts (It Is Pk Bq Br La Sv Sw Fo): lemmas and contracts of functions that the laws reach. -/
import Derived.Test.YtnabgijdbcdpmaaDoorZb
import Derived.LoopIn
import Derived.LoopNIn
import Derived.BigFrameIn
import Derived.Laws.EntriesVeiled
import Derived.Laws.BitsLemmas
namespace Go.Proofs.YtnabgijdbcdpmaaDoor
open Go.RowKit Go.Rg Go.Proofs.YtnabgijdbcdpmaaDoor.PRightsMatchesReference Go.Proofs.YtnabgijdbcdpmaaDoorW.PrintWords
set_option linter.unusedVariables false
set_option linter.unusedSimpArgs false

/-- What an iteration over packages leans on. -/
structure Env where
  w : World
  A : Option Addr
  c : Nat
  l : List Cl
  wt : Wt
  WA : Option Addr
  wn : Nat
  LB : Nat
  WB : Nat
  OB : Nat
structure EOk (E : Env) : Prop where
  kinds : Kinds E.w
  rl : Kd.C k40 E.w E.A E.l.length E.l
  rw : (Kd.slice 3 (Kd.int .i64)).C E.w E.WA E.wt.needs.length E.wt.needs
  few : E.wt.needs.length ≤ 4
structure PF (E : Env) (W : World) : Prop where
  below : Below E.w.heap.size E.w W
  lb : W.heap[E.LB]? = some (.cells #[.slice E.A E.l.length E.c] 24 (0, 0))
  wb : W.heap[E.WB]? = some (.cells (wtc E.wt E.WA E.wn) 29 (0, 0))
  ob : W.heap[E.OB]? = some (.cells #[.func (.func 67) #[] #[.pointer (some ⟨E.LB, 0, none⟩), .pointer (some ⟨E.WB, 0, none⟩)]] 68 (0, 0))
def rel (E : Env) (k : Nat) : Prop := k < E.w.heap.size ∨ k = E.LB ∨ k = E.WB ∨ k = E.OB
theorem PF.fr {E : Env} {W W1 : World} {S : Nat → Prop} (h : PF E W) (hf : Fr S W W1) (hS : ∀ k, rel E k → ¬ S k) : PF E W1 :=
  ⟨h.below.trans (hf.below (fun k hk => hS k (.inl hk)) h.below.size),
   (hf.block _ (Array.getElem?_eq_some_iff.1 h.lb).1 (hS _ (.inr (.inl rfl)))).trans h.lb,
   (hf.block _ (Array.getElem?_eq_some_iff.1 h.wb).1 (hS _ (.inr (.inr (.inl rfl))))).trans h.wb,
   (hf.block _ (Array.getElem?_eq_some_iff.1 h.ob).1 (hS _ (.inr (.inr (.inr rfl))))).trans h.ob⟩
theorem PF.kinds {E : Env} {W : World} (hE : EOk E) (h : PF E W) : Kinds W := hE.kinds.next h.below
theorem PF.rl {E : Env} {W : World} (hE : EOk E) (h : PF E W) : Kd.C k40 W E.A E.l.length E.l := Kd.C_below hE.rl h.below
theorem PF.rw {E : Env} {W : World} (hE : EOk E) (h : PF E W) : (Kd.slice 3 (Kd.int .i64)).C W E.WA E.wt.needs.length E.wt.needs := Kd.C_below hE.rw h.below

/-- What is handed over: a fresh list of numbers. -/
def PArg (s : Nat) (x : List Int) (args : Array Value) (W : World) : Prop := ∃ v, args = #[v] ∧ (Kd.int .i64).R 3 W s (fun k => s ≤ k) v x

/-- The fixed part of an iteration. -/
structure Itr (E : Env) (lid n0 YB EB : Nat) (L : List (List Int)) (J Jx : Nat → (Nat → Prop) → World → Prop) : Prop where
  rel0 : ∀ k, rel E k → k < n0
  y0 : n0 ≤ YB
  e0 : n0 ≤ EB
  ne : YB ≠ EB
  hJ : ∀ i D A B, J i D A → Fr (fun k => n0 ≤ k ∧ ¬ D k) A B → J i D B
  hJx : ∀ i D A B, Jx i D A → Fr (fun k => n0 ≤ k ∧ ¬ D k) A B → Jx i D B
  hY : ∀ i D s x args W1, L[i]? = some x → J i D W1 → PArg s x args W1 → n0 ≤ s → s ≤ W1.heap.size → (∀ k, D k → n0 ≤ k ∧ k < s) → YieldAt Fence.wide 0 Tryd.prog lid args W1 fun e W' =>
      (e = .returned (.bool true) ∧ J (i + 1) (more D s W') W' ∧ Fr (fun k => D k ∨ s ≤ k ∨ (k < n0 ∧ ¬ rel E k)) W1 W') ∨ (e = .returned (.bool false) ∧ Jx i (more D s W') W' ∧ Fr (fun k => D k ∨ s ≤ k ∨ (k < n0 ∧ ¬ rel E k)) W1 W')

/-- The state between two steps of the iterator. -/
structure St (E : Env) (lid n0 YB EB : Nat) (D : Nat → Prop) (W : World) : Prop where
  pf : PF E W
  yb : W.heap[YB]? = some (.cells #[.func (.yield lid) #[] #[]] 66 (0, 0))
  eb : W.heap[EB]? = some (.cells #[.func (.func 70) #[] #[.pointer (some ⟨E.WB, 0, none⟩), .pointer (some ⟨YB, 0, none⟩), .pointer (some ⟨E.OB, 0, none⟩), .pointer (some ⟨EB, 0, none⟩)]] 66 (0, 0))
  dd : ∀ k, D k → n0 ≤ k ∧ k < W.heap.size
  yd : ¬ D YB
  ed : ¬ D EB
structure Own1 (n0 YB EB : Nat) (D : Nat → Prop) (W : World) (v : Value) (acc : List Int) : Prop where
  row : Row W v acc
  blk : ∀ g, v.ownBlock = some g → n0 ≤ g ∧ ¬ D g ∧ g ≠ YB ∧ g ≠ EB

def ExtPost (E : Env) (n0 : Nat) (L : List (List Int)) (J Jx : Nat → (Nat → Prop) → World → Prop) (i m : Nat) (D : Nat → Prop) (v : Value) (acc : List Int) (W : World) (e : Ending) (W' : World) : Prop :=
  ∃ D', (∀ k, D k → D' k) ∧ (∀ k, D' k → D k ∨ W.heap.size ≤ k) ∧ (∀ k, D' k → n0 ≤ k ∧ k < W'.heap.size) ∧ Fr (fun k => D k ∨ (k < n0 ∧ ¬ rel E k) ∨ v.ownBlock = some k) W W' ∧ Row W' v acc ∧
    ((e = .returned (.bool true) ∧ J (i + m) D' W') ∨ (e = .returned (.bool false) ∧ ∃ j x, L[j]? = some x ∧ Jx j D' W'))

theorem St.fr {E : Env} {lid n0 YB EB : Nat} {L : List (List Int)} {J Jx : Nat → (Nat → Prop) → World → Prop} {D D' : Nat → Prop} {W W1 : World} {S : Nat → Prop} (h : St E lid n0 YB EB D W) (hI : Itr E lid n0 YB EB L J Jx) (hf : Fr S W W1) (hr : ∀ k, rel E k → ¬ S k) (hy : ¬ S YB) (he : ¬ S EB)
    (h1 : ∀ k, D' k → D k ∨ W.heap.size ≤ k) (h2 : ∀ k, D' k → n0 ≤ k ∧ k < W1.heap.size) : St E lid n0 YB EB D' W1 :=
  have ly := (Array.getElem?_eq_some_iff.1 h.yb).1
  have le := (Array.getElem?_eq_some_iff.1 h.eb).1
  ⟨h.pf.fr hf hr, (hf.block _ ly hy).trans h.yb, (hf.block _ le he).trans h.eb, h2, fun hk => (h1 _ hk).elim h.yd (fun x => by omega), fun hk => (h1 _ hk).elim h.ed (fun x => by omega)⟩

/-- The package is handed over. -/
theorem ext_yield {E : Env} {lid n0 YB EB : Nat} {L : List (List Int)} {J Jx : Nat → (Nat → Prop) → World → Prop} (hI : Itr E lid n0 YB EB L J Jx)
    {acc : List Int} {v v1 : Value} {i : Nat} {D : Nat → Prop} {W W0 w1 : World} (hL : L[i]? = some acc) (hJ : J i D W) (hS : St E lid n0 YB EB D W) (hO : Own1 n0 YB EB D W v acc) (hW0 : Fr (fun _ => False) W W0) (hz : W0.heap.size = W.heap.size) (hF : Fresh W0 w1 v1 acc) :
    YieldAt Fence.wide 0 Tryd.prog lid #[v1] w1 fun e W' => (∃ b, e = .returned (.bool b)) ∧ ExtPost E n0 L J Jx i 1 D v acc W e W' := by
  obtain ⟨hR, hb⟩ := hF
  have hWw : Fr (fun _ => False) W w1 := hW0.trans ((Fr.of_below hb).mono (fun k hk h => by omega))
  rw [hz] at hR
  have hn0 : n0 ≤ W.heap.size := Nat.le_trans hI.y0 (Nat.le_of_lt (Array.getElem?_eq_some_iff.1 hS.yb).1)
  have hY := hI.hY i D W.heap.size acc #[v1] w1 hL (hI.hJ _ _ _ _ hJ (hWw.mono (fun _ _ h => h.elim))) ⟨v1, rfl, hR⟩ hn0 hWw.size hS.dd
  refine hY.mono fun e W' h => ?_
  have key : Fr (fun k => D k ∨ W.heap.size ≤ k ∨ (k < n0 ∧ ¬ rel E k)) w1 W' → ∃ D', (∀ k, D k → D' k) ∧ (∀ k, D' k → D k ∨ W.heap.size ≤ k) ∧ (∀ k, D' k → n0 ≤ k ∧ k < W'.heap.size) ∧ Fr (fun k => D k ∨ (k < n0 ∧ ¬ rel E k) ∨ v.ownBlock = some k) W W' ∧ Row W' v acc ∧ D' = more D W.heap.size W' := fun hf => by
    have hF2 : Fr (fun k => D k ∨ (k < n0 ∧ ¬ rel E k) ∨ v.ownBlock = some k) W W' := (hWw.mono (fun _ _ h => h.elim)).trans' hf (fun k hk h => by
      rcases h with h | h | h
      · exact .inl h
      · omega
      · exact .inr (.inl h))
    have hF3 : Fr (fun k => D k ∨ (k < n0 ∧ ¬ rel E k)) W W' := (hWw.mono (fun _ _ h => h.elim)).trans' hf (fun k hk h => by
      rcases h with h | h | h
      · exact .inl h
      · omega
      · exact .inr h)
    refine ⟨more D W.heap.size W', fun k h => .inl h, fun k h => h.imp id (fun h => h.1), fun k h => ?_, hF2, hO.row.fr hF3 (fun g hg h => ?_), rfl⟩
    · rcases h with h | h
      · have := hS.dd k h
        have := hF2.size
        omega
      · omega
    · have := hO.blk g hg
      rcases h with h | h
      · exact this.2.1 h
      · omega
  rcases h with ⟨rfl, h1, h2⟩ | ⟨rfl, h1, h2⟩
  · obtain ⟨D', k1, k2, k3, k4, k5, rfl⟩ := key h2
    exact ⟨⟨true, rfl⟩, _, k1, k2, k3, k4, k5, .inl ⟨rfl, h1⟩⟩
  · obtain ⟨D', k1, k2, k3, k4, k5, rfl⟩ := key h2
    exact ⟨⟨false, rfl⟩, _, k1, k2, k3, k4, k5, .inr ⟨rfl, i, acc, hL, h1⟩⟩
set_option maxRecDepth 100000 in
set_option maxHeartbeats 2000000 in
theorem ext_base {E : Env} (hE : EOk E) {lid n0 YB EB : Nat} {L : List (List Int)} {J Jx : Nat → (Nat → Prop) → World → Prop} (hI : Itr E lid n0 YB EB L J Jx)
    (acc : List Int) (v : Value) (i : Nat) (D : Nat → Prop) (W : World) (hlen : acc.length = E.wt.needs.length) (hpos : 0 < acc.length) (hL : L[i]? = some acc) (hJ : J i D W) (hS : St E lid n0 YB EB D W) (hO : Own1 n0 YB EB D W v acc) :
    Calls Tryd.prog 70 #[v, .pointer (some ⟨E.WB, 0, none⟩), .pointer (some ⟨YB, 0, none⟩), .pointer (some ⟨E.OB, 0, none⟩), .pointer (some ⟨EB, 0, none⟩)] W (ExtPost E n0 L J Jx i 1 D v acc W) := by
  obtain ⟨A, c, rfl, hR⟩ := hO.row.reads
  have hfew := hE.few
  obtain ⟨ad, rfl⟩ : ∃ ad, A = some ad := by
    obtain ⟨_, _, h⟩ := hR
    obtain ⟨ad, e, _⟩ := h hpos
    exact ⟨ad, e⟩
  have c3 : W.cell? ⟨E.WB, 4, none⟩ = some (.slice E.WA E.wt.needs.length E.wn) := cell_of hS.pf.wb rfl
  have cy : W.cell? ⟨YB, 0, none⟩ = some (.func (.yield lid) #[] #[]) := cell_of hS.yb rfl
  have hq : ((acc.length : Int) == (E.wt.needs.length : Int)) = true := by rw [hlen]; simp
  have HR := Lib.hid hR; clear hR
  have HL := Lib.hid hL; clear hL
  have HJ := Lib.hid hJ; clear hJ
  have HS := Lib.hid hS; clear hS
  have HO := Lib.hid hO; clear hO
  have HI := Lib.hid hI; clear hI
  have HLEN := Lib.hid hlen; clear hlen
  refine (callsIn_wide (n := 0)).1 (callsIn_of_wp Tryd.func70 rfl trivial ?_ rfl)
  simp only [Tryd.ntmps70, List.size_toArray, List.length_cons, List.length_nil, Nat.reduceAdd, Nat.reduceSub, Array.replicate_succ, Array.replicate_zero, List.push_toArray, List.append_toArray, List.nil_append, List.cons_append]
  gi_wp2_with fail
  refine wide_start (by kernel_rfl) ?_
  refine wide_split (fuel := 4) [0, 1] (by kernel_rfl) (by simp) ?_
  intro q hq'
  simp only [List.mem_cons, List.not_mem_nil, or_false] at hq'
  rcases hq' with rfl | rfl
  · simp only [nthO_zero, nthO_succ]
    gi_wp2_with fail
    refine wide_tail [1, 2, 3, 4] (by kernel_rfl) ?_
    simp only [pick_cons, pick_nil, nthO_zero, nthO_succ]
    gi_wp2_with fail
    refine ⟨trivial, rfl, CallsIn.mono (callsIn_wide.2 (clone_any ad c acc _ HR.out (by have := HLEN.out; omega))) ?_⟩
    rintro e w1 ⟨v1, rfl, hF⟩
    obtain ⟨fn, tmps, assign, body, hy, hR⟩ := ext_yield HI.out HL.out HJ.out HS.out HO.out (Fr.refl _ W).drew rfl hF
    have HR2 := Lib.hid hR; clear hR
    have HF := Lib.hid hF; clear hF
    gi_wp2_with fail
    refine ⟨rfl, HR2.out.mono ?_⟩
    rintro e W' ⟨⟨b, rfl⟩, hp⟩
    clear hy HR2
    gi_wp2_with fail
    go_ret
    exact hp
  · simp only [nthO_zero, nthO_succ]
    gi_wp2_with fail
    refine wide_split (fuel := 3) [0, 2] (by kernel_rfl) (by simp) ?_
    intro q hq'
    simp only [List.mem_cons, List.not_mem_nil, or_false] at hq'
    rcases hq' with rfl | rfl
    · simp only [nthO_zero, nthO_succ]
      gi_wp2_with fail
      refine wide_tail [2, 3, 4] (by kernel_rfl) ?_
      simp only [pick_cons, pick_nil, nthO_zero, nthO_succ]
      gi_wp2_with fail
      refine ⟨trivial, rfl, CallsIn.mono (callsIn_wide.2 (clone_any ad c acc _ HR.out (by have := HLEN.out; omega))) ?_⟩
      rintro e w1 ⟨v1, rfl, hF⟩
      obtain ⟨fn, tmps, assign, body, hy, hR⟩ := ext_yield HI.out HL.out HJ.out HS.out HO.out (Fr.refl _ W).drew rfl hF
      have HR2 := Lib.hid hR; clear hR
      have HF := Lib.hid hF; clear hF
      gi_wp2_with fail
      refine ⟨rfl, HR2.out.mono ?_⟩
      rintro e W' ⟨⟨b, rfl⟩, hp⟩
      clear hy HR2
      gi_wp2_with fail
      go_ret
      exact hp
    · simp only [nthO_zero, nthO_succ]
      gi_wp2_with fail
      refine ⟨trivial, rfl, CallsIn.mono (callsIn_wide.2 (clone_any ad c acc _ HR.out (by have := HLEN.out; omega))) ?_⟩
      rintro e w1 ⟨v1, rfl, hF⟩
      obtain ⟨fn, tmps, assign, body, hy, hR⟩ := ext_yield HI.out HL.out HJ.out HS.out HO.out (Fr.refl _ W).drew rfl hF
      have HR2 := Lib.hid hR; clear hR
      have HF := Lib.hid hF; clear hF
      have cy1 : w1.cell? ⟨YB, 0, none⟩ = some (.func (.yield lid) #[] #[]) := (HF.out.2.cell (p := ⟨YB, 0, none⟩) (World.block_lt_of_cell? W _ cy)).trans cy
      gi_wp2_with fail
      refine wide_tail [0, 3, 4] (by kernel_rfl) ?_
      simp only [pick_cons, pick_nil, nthO_zero, nthO_succ]
      gi_wp2_with fail
      refine ⟨rfl, HR2.out.mono ?_⟩
      rintro e W' ⟨⟨b, rfl⟩, hp⟩
      clear hy HR2
      gi_wp2_with fail
      go_ret
      exact hp
end Go.Proofs.YtnabgijdbcdpmaaDoor

namespace Go.Proofs.YtnabgijdbcdpmaaDoor
open Go.RowKit Go.Rg Go.Proofs.YtnabgijdbcdpmaaDoor.PRightsMatchesReference Go.Proofs.YtnabgijdbcdpmaaDoorW.PrintWords
set_option linter.unusedVariables false
set_option linter.unusedSimpArgs false

theorem wpList_append_run {P : Program} {ops : Array Oper} {rest : List Oper} {o : Oper} {a : Act} {Q : Exit → Act → World → Prop} {W w2 : World} {v1 : Value} (s x : Operand) (t : TypeId) (hw : Region.wanted o (yielded ops a.tmps) = true)
    (ho : o.op = .call { callee := .builtin .append, args := #[s, x], argTypes := #[t, t] }) (vs vx : Value) (hs : a.eval s = vs) (hx : a.eval x = vx) (hr : (Builtin.append_ #[t, t] o.type #[vs, vx]).run P W = .ok v1 w2) (h : wpList P ops Q rest (a.put o.dst v1) w2) : wpList P ops Q (o :: rest) a W := by
  simp only [wpList]
  rw [if_pos hw]
  refine .inl ?_
  unfold Oper.wp execOp
  simp only [ho, resolve, invoke, builtin, Sem.run_bind, Sem.run_pure, Result.andThen_ok, List.map_toArray, List.map_cons, List.map_nil, hs, hx, hr]
  exact h
/-- In the midst of the loop. -/
def Mid (E : Env) (n0 : Nat) (J : Nat → (Nat → Prop) → World → Prop) (j : Nat) (D : Nat → Prop) (v : Value) (acc : List Int) (W W' : World) : Prop :=
  ∃ D', (∀ k, D k → D' k) ∧ (∀ k, D' k → D k ∨ W.heap.size ≤ k) ∧ (∀ k, D' k → n0 ≤ k ∧ k < W'.heap.size) ∧ Fr (fun k => D k ∨ (k < n0 ∧ ¬ rel E k) ∨ v.ownBlock = some k) W W' ∧ Row W' v acc ∧ J j D' W'

section
variable {E : Env} {lid n0 YB EB : Nat} {L : List (List Int)} {J Jx : Nat → (Nat → Prop) → World → Prop} {acc : List Int} {v : Value} {j : Nat} {D : Nat → Prop} {W : World}

theorem Mid.start (hJ : J j D W) (hS : St E lid n0 YB EB D W) (hO : Own1 n0 YB EB D W v acc) : Mid E n0 J j D v acc W W :=
  ⟨D, fun _ h => h, fun _ h => .inl h, hS.dd, Fr.refl _ _, hO.row, hJ⟩

theorem St.base (hS : St E lid n0 YB EB D W) (hI : Itr E lid n0 YB EB L J Jx) : n0 ≤ W.heap.size := Nat.le_trans hI.y0 (Nat.le_of_lt (Array.getElem?_eq_some_iff.1 hS.yb).1)

theorem Mid.st {wr : World} (h : Mid E n0 J j D v acc W wr) (hI : Itr E lid n0 YB EB L J Jx) (hS : St E lid n0 YB EB D W) (hO : Own1 n0 YB EB D W v acc) :
    PF E wr ∧ wr.heap[EB]? = some (.cells #[.func (.func 70) #[] #[.pointer (some ⟨E.WB, 0, none⟩), .pointer (some ⟨YB, 0, none⟩), .pointer (some ⟨E.OB, 0, none⟩), .pointer (some ⟨EB, 0, none⟩)]] 66 (0, 0)) ∧ Row wr v acc := by
  obtain ⟨D', h1, h2, h3, hF, hR, hJ⟩ := h
  have hs := hS.fr (D' := D') hI hF (fun k hk h => by
    have := hI.rel0 k hk
    rcases h with h | h | h
    · have := hS.dd k h; omega
    · exact h.2 hk
    · have := hO.blk k h; omega) (fun h => by
    rcases h with h | h | h
    · exact hS.yd h
    · have := hI.y0; omega
    · exact (hO.blk _ h).2.2.1 rfl) (fun h => by
    rcases h with h | h | h
    · exact hS.ed h
    · have := hI.e0; omega
    · exact (hO.blk _ h).2.2.2 rfl) h2 h3
  exact ⟨hs.pf, hs.eb, hR⟩

/-- A call that makes memory alone, or an order drawn. -/
theorem Mid.call {wr w1 : World} (h : Mid E n0 J j D v acc W wr) (hI : Itr E lid n0 YB EB L J Jx) (hO : Own1 n0 YB EB D W v acc) (hb : Fr (fun _ => False) wr w1) : Mid E n0 J j D v acc W w1 := by
  obtain ⟨D', h1, h2, h3, hF, hR, hJ⟩ := h
  exact ⟨D', h1, h2, fun k hk => ⟨(h3 k hk).1, Nat.lt_of_lt_of_le (h3 k hk).2 hb.size⟩, hF.trans (hb.mono fun _ _ h => h.elim), hR.fr hb (fun _ _ h => h), hI.hJ _ _ _ _ hJ (hb.mono fun _ _ h => h.elim)⟩

/-- The recursion begins. -/
theorem Mid.enter {w1 w2 : World} {v1 : Value} {x : Int} (h : Mid E n0 J j D v acc W w1) (hI : Itr E lid n0 YB EB L J Jx) (hS : St E lid n0 YB EB D W) (hO : Own1 n0 YB EB D W v acc)
    (hr1 : Row w2 v1 (acc ++ [x])) (hr0 : Row w2 v acc) (hf : Fr (fun k => v.ownBlock = some k) w1 w2) (hat : (v1.ownBlock = v.ownBlock ∧ ∀ w3, Row w3 v1 (acc ++ [x]) → Row w3 v acc) ∨ ∃ b, v1.ownBlock = some b ∧ w1.heap.size ≤ b) :
    ∃ D', J j D' w2 ∧ St E lid n0 YB EB D' w2 ∧ Own1 n0 YB EB D' w2 v1 (acc ++ [x]) ∧
      ∀ (m : Nat) (e : Ending) (w3 : World), ExtPost E n0 L J Jx j m D' v1 (acc ++ [x]) w2 e w3 → Fr (fun k => k ≠ E.OB ∧ k ≠ EB) w2 w3 ∧
        ((e = .returned (.bool true) ∧ Mid E n0 J (j + m) D v acc W w3) ∨ (e = .returned (.bool false) ∧ ∃ q, ExtPost E n0 L J Jx q 0 D v acc W e w3)) := by
  have hst := h.st hI hS hO
  obtain ⟨D', h1, h2, h3, hF, hR, hJ⟩ := h
  have hbase := hS.base hI
  have hzW : W.heap.size ≤ w1.heap.size := hF.size
  have hnD : ∀ g, v.ownBlock = some g → g < W.heap.size ∧ n0 ≤ g ∧ ¬ D' g ∧ g ≠ YB ∧ g ≠ EB := fun g hg => by
    have hb := hO.blk g hg
    have hl := hO.row.lt g hg
    exact ⟨hl, hb.1, fun hd => (h2 g hd).elim hb.2.1 (fun h => by omega), hb.2.2⟩
  have hF2 : Fr (fun k => D k ∨ (k < n0 ∧ ¬ rel E k) ∨ v.ownBlock = some k) W w2 := hF.trans (hf.mono fun _ _ h => .inr (.inr h))
  have hD2 : ∀ k, D' k → n0 ≤ k ∧ k < w2.heap.size := fun k hk => ⟨(h3 k hk).1, Nat.lt_of_lt_of_le (h3 k hk).2 hf.size⟩
  have hs := hS.fr (D' := D') hI hF2 (fun k hk h => by
    have := hI.rel0 k hk
    rcases h with h | h | h
    · have := hS.dd k h; omega
    · exact h.2 hk
    · have := hO.blk k h; omega) (fun h => by
    rcases h with h | h | h
    · exact hS.yd h
    · have := hI.y0; omega
    · exact (hO.blk _ h).2.2.1 rfl) (fun h => by
    rcases h with h | h | h
    · exact hS.ed h
    · have := hI.e0; omega
    · exact (hO.blk _ h).2.2.2 rfl) h2 hD2
  have lyb := (Array.getElem?_eq_some_iff.1 hS.yb).1
  have leb := (Array.getElem?_eq_some_iff.1 hS.eb).1
  have hO1 : Own1 n0 YB EB D' w2 v1 (acc ++ [x]) := ⟨hr1, fun g hg => by
    rcases hat with ⟨e, _⟩ | ⟨b, e, hb⟩
    · rw [e] at hg
      exact (hnD g hg).2
    · rw [e] at hg
      obtain rfl := Option.some.inj hg
      exact ⟨by omega, fun hd => by have := (h3 _ hd).2; omega, by omega, by omega⟩⟩
  refine ⟨D', hI.hJ _ _ _ _ hJ (hf.mono fun k _ h => ⟨(hnD k h).2.1, (hnD k h).2.2.1⟩), hs, hO1, ?_⟩
  rintro m e w3 ⟨D'', k1, k2, k3, kF, kR, kE⟩
  have hz2 := hf.size
  have hF3 : Fr (fun k => D k ∨ (k < n0 ∧ ¬ rel E k) ∨ v.ownBlock = some k) W w3 := hF2.trans' kF (fun k hk h => by
    rcases h with h | h | h
    · exact (h2 k h).elim .inl (fun h => by omega)
    · exact .inr (.inl h)
    · rcases hat with ⟨e, _⟩ | ⟨b, e, hb⟩
      · exact .inr (.inr (e ▸ h))
      · rw [e] at h
        have := Option.some.inj h
        omega)
  have hR3 : Row w3 v acc := by
    rcases hat with ⟨e, hp⟩ | ⟨b, e, hb⟩
    · exact hp w3 kR
    · refine hr0.fr kF (fun g hg h => ?_)
      have hd := hnD g hg
      rcases h with h | h | h
      · exact hd.2.2.1 h
      · omega
      · rw [e] at h
        have := Option.some.inj h
        omega
  have c1 : ∀ k, D k → D'' k := fun k h => k1 k (h1 k h)
  have c2 : ∀ k, D'' k → D k ∨ W.heap.size ≤ k := fun k h => (k2 k h).elim (h2 k) (fun h => .inr (by omega))
  have hFB : Fr (fun k => k ≠ E.OB ∧ k ≠ EB) w2 w3 := kF.mono (fun k hk h => by
    have hob := hI.rel0 E.OB (.inr (.inr (.inr rfl)))
    have heb := hI.e0
    refine ⟨fun e => ?_, fun e => ?_⟩
    · subst e
      rcases h with h | h | h
      · have := (h3 _ h).1; omega
      · exact h.2 (.inr (.inr (.inr rfl)))
      · have := (hO1.blk _ h).1; omega
    · subst e
      rcases h with h | h | h
      · exact hs.ed h
      · omega
      · exact (hO1.blk _ h).2.2.2 rfl)
  refine ⟨hFB, ?_⟩
  rcases kE with ⟨rfl, hj⟩ | ⟨rfl, q, y, hq, hj⟩
  · exact .inl ⟨rfl, D'', c1, c2, k3, hF3, hR3, hj⟩
  · exact .inr ⟨rfl, 0, D'', c1, c2, k3, hF3, hR3, .inr ⟨rfl, q, y, hq, hj⟩⟩
end

theorem ext_no_out {E : Env} {n0 : Nat} {L : List (List Int)} {J Jx : Nat → (Nat → Prop) → World → Prop} {i m : Nat} {D : Nat → Prop} {v : Value} {acc : List Int} {W W' : World} (h : ExtPost E n0 L J Jx i m D v acc W .outgrown W') : False := by
  obtain ⟨_, _, _, _, _, _, h | h⟩ := h
  · exact absurd h.1 (by simp)
  · exact absurd h.1 (by simp)
theorem pkgs_cons (off : Int → Bool) (n : List Int) (ns : List (List Int)) (acc : List Int) : pkgs off (n :: ns) acc = n.flatMap fun k => if !hasI acc k && off k then pkgs off ns (acc ++ [k]) else [] := rfl
theorem flatMap_take {α β : Type} (f : α → List β) (n : List α) {k : Nat} (h : k < n.length) : (n.take (k + 1)).flatMap f = (n.take k).flatMap f ++ f n[k] := by
  rw [List.take_succ_eq_append_getElem h, List.flatMap_append]
  simp
theorem flatMap_split {α β : Type} (f : α → List β) (n : List α) {k : Nat} (h : k < n.length) : n.flatMap f = (n.take k).flatMap f ++ (f n[k] ++ (n.drop (k + 1)).flatMap f) := by
  rw [← List.append_assoc, ← flatMap_take f n h, ← List.flatMap_append, List.take_append_drop]

set_option maxRecDepth 100000 in
set_option maxHeartbeats 4000000 in
theorem ext_any {E : Env} (hE : EOk E) {lid n0 YB EB : Nat} {L : List (List Int)} {J Jx : Nat → (Nat → Prop) → World → Prop} (hI : Itr E lid n0 YB EB L J Jx) (hpos : 0 < E.wt.needs.length) :
    ∀ (ns : List (List Int)) (acc : List Int) (v : Value) (i : Nat) (D : Nat → Prop) (W : World), E.wt.needs.drop acc.length = ns → acc.length ≤ E.wt.needs.length → (∃ R, L.drop i = pkgs (offered E.l E.wt) ns acc ++ R) → J i D W → St E lid n0 YB EB D W → Own1 n0 YB EB D W v acc →
    Calls Tryd.prog 70 #[v, .pointer (some ⟨E.WB, 0, none⟩), .pointer (some ⟨YB, 0, none⟩), .pointer (some ⟨E.OB, 0, none⟩), .pointer (some ⟨EB, 0, none⟩)] W (ExtPost E n0 L J Jx i (pkgs (offered E.l E.wt) ns acc).length D v acc W)
  | [], acc, v, i, D, W, hns, hle, hL, hJ, hS, hO => by
    have hl : acc.length = E.wt.needs.length := by
      have := congrArg List.length hns
      rw [List.length_drop] at this
      simp at this
      omega
    refine ext_base hE hI acc v i D W hl (by omega) ?_ hJ hS hO
    obtain ⟨R, hR⟩ := hL
    have : (L.drop i)[0]? = some acc := by rw [hR]; rfl
    rwa [List.getElem?_drop] at this
  | n :: ns, acc, v, i, D, W, hns, hle, hL, hJ, hS, hO => by
    have hlt : acc.length < E.wt.needs.length := by
      have := congrArg List.length hns
      rw [List.length_drop] at this
      simp at this
      omega
    have hns' : E.wt.needs.drop (acc.length + 1) = ns := by
      rw [← List.drop_drop, hns]; rfl
    have hnn : E.wt.needs[acc.length] = n := by
      have h1 : (E.wt.needs.drop acc.length)[0]? = some n := by rw [hns]; rfl
      rw [List.getElem?_drop, Nat.add_zero, List.getElem?_eq_getElem hlt] at h1
      exact Option.some.inj h1
    have ih := ext_any hE hI hpos ns
    have hfew := hE.few
    obtain ⟨A, c, rfl, hR⟩ := hO.row.reads
    have c3 : W.cell? ⟨E.WB, 4, none⟩ = some (.slice E.WA E.wt.needs.length E.wn) := cell_of hS.pf.wb rfl
    have hq : ((acc.length : Int) == (E.wt.needs.length : Int)) = false := by simp; omega
    obtain ⟨ad, A0, c0, ew, hx, hc0, hC0⟩ := at_L2 hE.rw (acc.length : Int) (by omega) (by omega)
    have hrd : rd_L2 E.wt.needs (acc.length : Int) = n := by unfold rd_L2; simp [hlt, hnn]
    rw [hrd] at hx hc0 hC0
    simp only [Int.toNat_natCast] at hx
    rw [ew] at c3
    have hx1 := pw_cell_below hS.pf.below hx
    have hm0 := Mid.start hJ hS hO
    have hmn := max_len hC0
    have HIH := Lib.hid ih; clear ih
    have HC0 := Lib.hid hC0; clear hC0
    have HM0 := Lib.hid hm0; clear hm0 hJ
    have HS := Lib.hid hS; clear hS
    have HO := Lib.hid hO; clear hO
    have HI := Lib.hid hI; clear hI
    have HL := Lib.hid hL; clear hL
    have HNS := Lib.hid hns'; clear hns' hns hnn hrd hx ew
    have HR := Lib.hid hR; clear hR
    have HC := Lib.hid hc0; clear hc0
    have HLT := Lib.hid hlt
    have hltI : (acc.length : Int) < (E.wt.needs.length : Int) := by omega
    clear hle hpos
    go_enter Tryd.func70, Tryd.ntmps70
    go_wp2_with fail
    go_loopw [26] (fun iv wr => ∃ k : Nat, k ≤ n.length ∧ iv = .int .i64 k ∧ Hid (Mid E n0 J (i + ((n.take k).flatMap fun k => if !hasI acc k && offered E.l E.wt k then pkgs (offered E.l E.wt) ns (acc ++ [k]) else []).length) D (.slice A acc.length c) acc W wr)) (fun iv wr => n.length - (intOf iv).toNat)
    case atStart => exact ⟨0, Nat.zero_le _, rfl, HM0⟩
    case round =>
      obtain ⟨k, hk, rfl, HM⟩ := hrel
      by_cases hkl : k < n.length
      · have hklI : (k : Int) < (n.length : Int) := by omega
        obtain ⟨hpf, heb, hrow⟩ := HM.out.st HI.out HS.out HO.out
        have hC1 := Kd.C_below HC0.out hpf.below
        obtain ⟨a0, e0, hx0⟩ := Kd.at_int hC1 (k : Int) (by omega) hklI
        cases e0
        simp only [Int.toNat_natCast] at hx0
        rw [rd_get hkl] at hx0
        have hft := flatMap_take (fun k => if !hasI acc k && offered E.l E.wt k then pkgs (offered E.l E.wt) ns (acc ++ [k]) else []) n hkl
        have hfs := flatMap_split (fun k => if !hasI acc k && offered E.l E.wt k then pkgs (offered E.l E.wt) ns (acc ++ [k]) else []) n hkl
        rw [← pkgs_cons] at hfs
        have hcon := fun (W1 : World) (h : (Kd.int .i64).C W1 A acc.length acc) => contains_any A c acc n[k] W1 h
        have hrA := hrow.reads
        obtain ⟨A2, c2, e2, hrC⟩ := hrA
        cases e2
        have hco := hcon wr.drew hrC
        have hof := fun (W1 : World) (h : PF E W1) => offered_any n[k] E.LB E.WB E.A E.c E.l E.wt E.WA E.wn W1 (h.kinds hE) (h.rl hE) (h.rw hE) (cell_of h.lb rfl) h.wb
        have hob0 : wr.cell? ⟨E.OB, 0, none⟩ = some (.func (.func 67) #[] #[.pointer (some ⟨E.LB, 0, none⟩), .pointer (some ⟨E.WB, 0, none⟩)]) := cell_of hpf.ob rfl
        have heb0 : wr.cell? ⟨EB, 0, none⟩ = some (.func (.func 70) #[] #[.pointer (some ⟨E.WB, 0, none⟩), .pointer (some ⟨YB, 0, none⟩), .pointer (some ⟨E.OB, 0, none⟩), .pointer (some ⟨EB, 0, none⟩)]) := cell_of heb rfl
        have hobX := cell_extB (B := fun k => k ≠ E.OB ∧ k ≠ EB) hob0 (fun h => h.1 rfl)
        have hebX := cell_extB (B := fun k => k ≠ E.OB ∧ k ≠ EB) heb0 (fun h => h.2 rfl)
        generalize hX : n[k] = x at *
        generalize hbh : hasI acc x = bh at *
        generalize hbo : offered E.l E.wt x = bo at *
        have HF := Lib.hid (And.intro hft hfs); clear hft hfs
        have HCO := Lib.hid hco; clear hco hcon
        have HOF := Lib.hid hof; clear hof
        have HPF := Lib.hid hpf; clear hpf heb hrow hrC hC1
        clear hob0 heb0
        have HX := Lib.hid (And.intro hX (And.intro hbh hbo)); clear hX hbh hbo
        go_wp2_with fail
        refine region_seqP (fun k => k ≠ E.OB ∧ k ≠ EB) [([0, 1], 2), ([3, 4, 5, 6], 7), ([8, 9, 10, 11, 12], 13), ([], 14), ([], 15)] [16, 17] (by kernel_rfl) (by kernel_rfl) (fun _ _ d _ _ h => by cases d <;> exact h) (fun ⟨_, _, h⟩ => ext_no_out h) ?_
        simp only [seqQ, pick_cons, pick_nil, nthO_succ, nthO_zero]
        cases bh with
        | true =>
          repeat (go_big_quiet_step (fail))
          refine wpQuiet_nil ?_
          go_wp2_with fail
          refine HCO.out.mono ?_
          rintro e w' ⟨rfl, rfl⟩
          go_wp2_with fail
          refine ⟨⟨⟨_, (Fr.refl _ _).drew⟩, rfl⟩, ?_⟩
          repeat (go_big_quiet_step (fail))
          refine wpQuiet_nil ?_
          go_wp2_with fail
          refine ⟨⟨⟨_, (Fr.refl _ _).drew⟩, rfl⟩, ?_⟩
          repeat (go_big_quiet_step (fail))
          refine wpQuiet_nil ?_
          go_wp2_with fail
          refine ⟨⟨⟨_, (Fr.refl _ _).drew⟩, rfl⟩, ?_⟩
          repeat (go_big_quiet_step (fail))
          refine wpQuiet_nil ?_
          go_wp2_with fail
          refine ⟨⟨⟨_, (Fr.refl _ _).drew⟩, rfl⟩, ?_⟩
          repeat (go_big_quiet_step (fail))
          refine wpQuiet_nil ?_
          go_wp2_with fail
          refine ⟨⟨⟨_, (Fr.refl _ _).drew⟩, rfl⟩, ?_⟩
          repeat (go_big_quiet_step (fail))
          refine wpQuiet_nil ?_
          go_wp2_with fail
          go_roundw
          case rel =>
            refine ⟨k + 1, by omega, by go_num, Lib.hid ?_⟩
            rw [HF.out.1]
            simpa using HM.out.call HI.out HO.out (Fr.refl _ _).drew
          case measure => simp [intOf]; omega
        | false =>
          cases bo with
          | false =>
            repeat (go_big_quiet_step (fail))
            refine wpQuiet_nil ?_
            go_wp2_with fail
            refine HCO.out.mono ?_
            rintro e w' ⟨rfl, rfl⟩
            go_wp2_with fail
            refine ⟨⟨⟨_, (Fr.refl _ _).drew⟩, rfl⟩, ?_⟩
            repeat (go_big_quiet_step (fail))
            refine wpQuiet_nil ?_
            go_wp2_with fail
            refine (HOF.out _ (HPF.out.fr (Fr.refl (fun _ => False) _).drew (fun _ _ h => h))).mono ?_
            rintro e w1 ⟨rfl, hb1⟩
            have hF1 : Fr (fun _ => False) wr w1 := (Fr.refl (fun _ => False) wr).drew.trans ((Fr.of_below hb1).mono (fun k hk h => by simp at hk h; omega))
            have HF1 := Lib.hid hF1; clear hF1 hb1
            go_wp2_with fail
            refine ⟨⟨⟨_, HF1.out.mono fun _ _ h => h.elim⟩, rfl⟩, ?_⟩
            repeat (go_big_quiet_step (fail))
            refine wpQuiet_nil ?_
            go_wp2_with fail
            refine ⟨⟨⟨_, HF1.out.mono fun _ _ h => h.elim⟩, rfl⟩, ?_⟩
            repeat (go_big_quiet_step (fail))
            refine wpQuiet_nil ?_
            go_wp2_with fail
            refine ⟨⟨⟨_, HF1.out.mono fun _ _ h => h.elim⟩, rfl⟩, ?_⟩
            repeat (go_big_quiet_step (fail))
            refine wpQuiet_nil ?_
            go_wp2_with fail
            refine ⟨⟨⟨_, HF1.out.mono fun _ _ h => h.elim⟩, rfl⟩, ?_⟩
            repeat (go_big_quiet_step (fail))
            refine wpQuiet_nil ?_
            go_wp2_with fail
            go_roundw
            case rel =>
              refine ⟨k + 1, by omega, by go_num, Lib.hid ?_⟩
              rw [HF.out.1]
              simpa using HM.out.call HI.out HO.out HF1.out
            case measure => simp [intOf]; omega
          | true =>
            repeat (go_big_quiet_step (fail))
            refine wpQuiet_nil ?_
            go_wp2_with fail
            refine HCO.out.mono ?_
            rintro e w' ⟨rfl, rfl⟩
            go_wp2_with fail
            refine ⟨⟨⟨_, (Fr.refl _ _).drew⟩, rfl⟩, ?_⟩
            repeat (go_big_quiet_step (fail))
            refine wpQuiet_nil ?_
            go_wp2_with fail
            refine (HOF.out _ (HPF.out.fr (Fr.refl (fun _ => False) _).drew (fun _ _ h => h))).mono ?_
            rintro e w1 ⟨rfl, hb1⟩
            have hF1 : Fr (fun _ => False) wr w1 := (Fr.refl (fun _ => False) wr).drew.trans ((Fr.of_below hb1).mono (fun k hk h => by simp at hk h; omega))
            have hM1 := HM.out.call HI.out HO.out hF1
            obtain ⟨v1, w2, hap, hr1, hr0, hf2, hat⟩ := app_one x 23 (hM1.st HI.out HS.out HO.out).2.2 (by have := HLT.out; omega)
            obtain ⟨D', hj, hs, ho, hout⟩ := hM1.enter HI.out HS.out HO.out hr1 hr0 hf2 hat
            have hcall := HIH.out (acc ++ [x]) v1 _ D' w2 (by simpa using HNS.out) (by have := HLT.out; simp; omega) (by
              obtain ⟨R, hR⟩ := HL.out
              have hfs := HF.out.2
              rw [hfs] at hR
              simp only [Bool.not_false, Bool.and_self, if_true, List.append_assoc] at hR
              refine ⟨((n.drop (k + 1)).flatMap fun k => if !hasI acc k && offered E.l E.wt k then pkgs (offered E.l E.wt) ns (acc ++ [k]) else []) ++ R, ?_⟩
              rw [← List.drop_drop, hR, List.drop_left]) hj hs ho
            have HCALL := Lib.hid hcall; clear hcall
            have HOUT := Lib.hid hout; clear hout
            have HF1 := Lib.hid hF1; clear hF1 hb1
            have hF2 : Fr (fun k => k ≠ E.OB ∧ k ≠ EB) wr w2 := (HF1.out.mono fun _ _ h => h.elim).trans (hf2.mono fun g hg h => by
              have h1 := HO.out.blk g h
              have h2 := HI.out.rel0 E.OB (.inr (.inr (.inr rfl)))
              exact ⟨by omega, h1.2.2.2⟩)
            have HF2 := Lib.hid hF2; clear hF2 hf2
            clear hj hs ho hr1 hr0 hat hM1
            go_wp2_with fail
            refine ⟨⟨⟨_, HF1.out.mono fun _ _ h => h.elim⟩, rfl⟩, ?_⟩
            repeat (go_big_quiet_step (fail))
            refine wpQuiet_nil ?_
            go_wp2_with fail
            refine ⟨⟨⟨_, (HF1.out.mono fun _ _ h => h.elim).alloc _⟩, rfl⟩, ?_⟩
            repeat (go_big_quiet_step (fail))
            refine wpQuiet_nil ?_
            refine wpList_append_run (.tmp 41) (.tmp 43) 23 (by rfl) rfl _ _ rfl rfl hap ?_
            clear hap
            refine ⟨⟨⟨_, HF2.out⟩, rfl⟩, ?_⟩
            refine wpQuiet_nil ?_
            go_wp2_with fail
            refine HCALL.out.mono ?_
            intro e w3 hpost
            obtain ⟨hB3, ⟨rfl, hm⟩ | ⟨rfl, q, hp⟩⟩ := HOUT.out _ _ _ hpost
            · have HF3 := Lib.hid (HF2.out.trans hB3); clear hB3 hpost HCALL HOUT
              have HM3 := Lib.hid hm; clear hm
              go_wp2_with fail
              refine ⟨⟨⟨_, HF3.out⟩, rfl⟩, ?_⟩
              repeat (go_big_quiet_step (fail))
              refine wpQuiet_nil ?_
              go_wp2_with fail
              go_roundw
              case rel =>
                refine ⟨k + 1, by omega, by go_num, Lib.hid ?_⟩
                rw [HF.out.1]
                simpa [Nat.add_assoc] using HM3.out
              case measure => simp [intOf]; omega
            · have HF3 := Lib.hid (HF2.out.trans hB3); clear hB3 hpost HCALL HOUT
              have HP3 := Lib.hid hp; clear hp
              go_wp2_with fail
              refine ⟨⟨⟨_, HF3.out⟩, rfl⟩, ?_⟩
              repeat (go_big_quiet_step (fail))
              refine wpQuiet_nil ?_
              go_wp2_with fail
              go_ret
              obtain ⟨D3, h1, h2, h3, h4, h5, h6⟩ := HP3.out
              exact ⟨D3, h1, h2, h3, h4, h5, .inr (h6.resolve_left (fun h => absurd h.1 (by simp)))⟩
      · obtain rfl : k = n.length := by omega
        go_wp2
        go_ret
        obtain ⟨D', h1, h2, h3, h4, h5, h6⟩ := HM.out
        rw [List.take_length] at h6
        exact ⟨D', h1, h2, h3, h4, h5, .inl ⟨rfl, h6⟩⟩
end Go.Proofs.YtnabgijdbcdpmaaDoor

namespace Go.Proofs.YtnabgijdbcdpmaaDoor
open Go.RowKit Go.Rg Go.Proofs.YtnabgijdbcdpmaaDoor.PRightsMatchesReference Go.Proofs.YtnabgijdbcdpmaaDoorW.PrintWords
set_option linter.unusedVariables false
set_option linter.unusedSimpArgs false

set_option maxHeartbeats 1000000 in
theorem packs_iter {E : Env} (hE : EOk E) (hpos : 0 < E.wt.needs.length) : IterB Tryd.prog 69 #[.pointer (some ⟨E.WB, 0, none⟩), .pointer (some ⟨E.OB, 0, none⟩)] (packs E.l E.wt) PArg (fun _ => False) (rel E) (PF E) := by
  intro l J Jx W hpf hJ hJx hY h0
  have hrel : ∀ k, rel E k → k < W.heap.size := fun k hk => by
    have h1 := hpf.below.size
    have h2 := (Array.getElem?_eq_some_iff.1 hpf.lb).1
    have h3 := (Array.getElem?_eq_some_iff.1 hpf.wb).1
    have h4 := (Array.getElem?_eq_some_iff.1 hpf.ob).1
    rcases hk with hk | rfl | rfl | rfl <;> omega
  have hI : Itr E l W.heap.size W.heap.size (W.heap.size + 1) (packs E.l E.wt) J Jx :=
    ⟨hrel, Nat.le_refl _, by omega, by omega, fun i D A B h hf => hJ i D A B h (hf.mono fun _ _ h => .inr h), fun i D A B h hf => hJx i D A B h (hf.mono fun _ _ h => .inr h), fun i D s x args W1 h1 h2 h3 h4 h5 h6 => by
      have := hY i D s x args W1 h1 h2 h3 h4 h5 h6
      simpa using this⟩
  obtain ⟨W2, hW2⟩ : ∃ W2, (W.alloc (.cells #[.func (.yield l) #[] #[]] 66)).alloc (.cells #[.func (.func 70) #[] #[.pointer (some ⟨E.WB, 0, none⟩), .pointer (some ⟨W.heap.size, 0, none⟩), .pointer (some ⟨E.OB, 0, none⟩), .pointer (some ⟨W.heap.size + 1, 0, none⟩)]] 66) = W2 := ⟨_, rfl⟩
  have hF : Fr (fun _ => False) W W2 := by rw [← hW2]; exact ((Fr.refl _ _).alloc _).alloc _
  have hS : St E l W.heap.size W.heap.size (W.heap.size + 1) (fun _ => False) W2 :=
    ⟨hpf.fr hF (fun _ _ h => h), by rw [← hW2]; exact heap_old (heap_new rfl), by rw [← hW2]; exact heap_new (by simp), fun _ h => h.elim, fun h => h, fun h => h⟩
  have hcall := ext_any hE hI hpos E.wt.needs [] (.slice none 0 0) 0 (fun _ => False) W2 rfl (by simp) ⟨[], by simp [packs]⟩ (hJ _ _ _ _ h0 (hF.mono fun _ _ h => h.elim)) hS ⟨Row.nil _, fun g hg => by simp [Value.ownBlock] at hg⟩
  have HC := Lib.hid hcall; clear hcall hI hS h0 hY hJ hJx hrel hpf hF
  refine callsIn_wide.2 ?_
  show Calls Tryd.prog 69 #[.func (.yield l) #[] #[], .pointer (some ⟨E.WB, 0, none⟩), .pointer (some ⟨E.OB, 0, none⟩)] W _
  have HW2 := Lib.hid hW2; clear hW2
  go_enter Tryd.func69, Tryd.ntmps69
  go_wp2_with fail
  rw [HW2.out]
  refine HC.out.mono ?_
  rintro e w' ⟨D', k1, k2, k3, k4, k5, ⟨rfl, hj⟩ | ⟨rfl, j, x, hx, hj⟩⟩
  · have HJ := Lib.hid hj; clear hj k1 k2 k3 k4 k5
    go_wp2_with fail
    go_end0
    exact ⟨⟨_, rfl⟩, .inl ⟨D', by have := HJ.out; rw [Nat.zero_add] at this; exact this⟩⟩
  · have HJ := Lib.hid (And.intro hx hj); clear hx hj k1 k2 k3 k4 k5
    go_wp2_with fail
    go_end0
    exact ⟨⟨_, rfl⟩, .inr ⟨j, x, D', HJ.out⟩⟩

def envOf (w : World) (A : Option Addr) (c : Nat) (l : List Cl) (wt : Wt) (WA : Option Addr) (wn : Nat) (n : Nat) : Env := ⟨w, A, c, l, wt, WA, wn, n, n + 1, n + 2⟩

theorem packages_any (A : Option Addr) (c : Nat) (l : List Cl) (wt : Wt) (WA : Option Addr) (wn : Nat) (w0 w : World) (hb : Below w0.heap.size w0 w) :
    Calls Tryd.prog 47 #[.slice A l.length c, wtv wt WA wn] w fun e w' => e = .returned (.func (.func 69) #[] #[.pointer (some ⟨w.heap.size + 1, 0, none⟩), .pointer (some ⟨w.heap.size + 2, 0, none⟩)]) ∧
      PF (envOf w0 A c l wt WA wn w.heap.size) w' ∧ Below w.heap.size w w' ∧ w'.heap.size = w.heap.size + 3 := by
  obtain ⟨W2, hW2⟩ : ∃ W2, ((w.alloc (.cells #[.slice A l.length c] 24)).alloc (.cells (wtc wt WA wn) 29)).alloc (.cells #[.func (.func 67) #[] #[.pointer (some ⟨w.heap.size, 0, none⟩), .pointer (some ⟨w.heap.size + 1, 0, none⟩)]] 68) = W2 := ⟨_, rfl⟩
  have hB : Below w.heap.size w W2 := by rw [← hW2]; exact (((Below.refl _ _).alloc (Nat.le_refl _) _).alloc (by simp) _).alloc (by simp; omega) _
  have hz : W2.heap.size = w.heap.size + 3 := by rw [← hW2]; simp
  have hP : PF (envOf w0 A c l wt WA wn w.heap.size) W2 := by
    refine ⟨hb.trans (hB.mono hb.size), ?_, ?_, ?_⟩ <;> rw [← hW2]
    · exact heap_old (heap_old (heap_new rfl))
    · exact heap_old (heap_new (by simp [envOf]))
    · exact heap_new (by simp [envOf])
  have H := Lib.hid (And.intro hP (And.intro hB hz)); clear hP hB hz hb
  unfold wtv
  unfold wtc at hW2
  have HW2 := Lib.hid hW2; clear hW2
  go_enter Tryd.func47, Tryd.ntmps47
  go_wp2_with fail
  rw [HW2.out]
  go_ret
  exact ⟨rfl, H.out⟩
end Go.Proofs.YtnabgijdbcdpmaaDoor

namespace Go.Proofs.YtnabgijdbcdpmaaDoor
open Go.RowKit Go.Rg Go.Proofs.YtnabgijdbcdpmaaDoor.PRightsMatchesReference Go.Proofs.YtnabgijdbcdpmaaDoorW.PrintWords
set_option linter.unusedVariables false
set_option linter.unusedSimpArgs false

theorem wrap_id {x : Int} (h0 : -9223372036854775808 ≤ x) (h1 : x ≤ 9223372036854775807) : wrap64 x = x := by unfold wrap64; omega
theorem rd_eq {xs : List Int} {k : Nat} (hk : k < xs.length) : rd xs k = xs[k] := by
  unfold rd
  simp [hk]
theorem drop_cons {xs : List Int} {k : Nat} (hk : k < xs.length) : xs.drop k = xs[k] :: xs.drop (k + 1) := List.drop_eq_getElem_cons hk

end Go.Proofs.YtnabgijdbcdpmaaDoor

namespace Go.Proofs.YtnabgijdbcdpmaaDoor
open Go.RowKit Go.Rg Go.Proofs.YtnabgijdbcdpmaaDoor.PRightsMatchesReference Go.Proofs.YtnabgijdbcdpmaaDoorW.PrintWords
set_option linter.unusedVariables false
set_option linter.unusedSimpArgs false
attribute [local go_sem] Oper.semAt_some

/-- The arguments of rights' functions, as they lie. -/
structure Args (w : World) (A : Option Addr) (c : Nat) (l : List Cl) (UA : Option Addr) (uc : Nat) (u : List Int) (wt : Wt) (WA : Option Addr) (wn : Nat) : Prop where
  kinds : Kinds w
  rl : Kd.C k40 w A l.length l
  ru : (Kd.int .i64).C w UA u.length u
  rw : (Kd.slice 3 (Kd.int .i64)).C w WA wt.needs.length wt.needs
theorem Args.next {w w1 : World} {A : Option Addr} {c : Nat} {l : List Cl} {UA : Option Addr} {uc : Nat} {u : List Int} {wt : Wt} {WA : Option Addr} {wn : Nat} (h : Args w A c l UA uc u wt WA wn) (hb : Below w.heap.size w w1) : Args w1 A c l UA uc u wt WA wn :=
  ⟨h.kinds.next hb, Kd.C_below h.rl hb, Kd.C_below h.ru hb, Kd.C_below h.rw hb⟩
theorem given_of {l : List Cl} {u : List Int} {wt : Wt} (h : givenB l u wt = true) : l.length ≤ 12 ∧ u.length = 12 ∧ usedOk u = true ∧ 0 < wt.needs.length ∧ wt.needs.length ≤ 4 := by
  simp only [givenB, vldL, vldW, inR, Bool.and_eq_true, decide_eq_true_eq] at h
  refine ⟨h.1.1, h.2.1, h.2.2.1, by omega, by omega⟩

/-- What Broken answers. -/
def brokenOk (l : List Cl) (u : List Int) (wt : Wt) (p : List Int) : Bool := givenB l u wt && decide (p ∈ packs l wt)
def brokenL (l : List Cl) (u : List Int) (wt : Wt) (p : List Int) : List Int := if brokenOk l u wt p = true then idxs (brk l u wt p) else []
def brokenE (l : List Cl) (u : List Int) (wt : Wt) (p : List Int) : Int := if brokenOk l u wt p = true then 0 else 290

/-- Behind the boxes of Broken's arguments and results. -/
structure BX (w : World) (A : Option Addr) (c : Nat) (l : List Cl) (UA : Option Addr) (uc : Nat) (u : List Int) (wt : Wt) (WA : Option Addr) (wn : Nat) (PA : Option Addr) (pc : Nat) (p : List Int) (W : World) : Prop where
  below : Below w.heap.size w W
  b0 : W.heap[w.heap.size]? = some (.cells #[.slice A l.length c] 24 (0, 0))
  b1 : W.heap[w.heap.size + 1]? = some (.cells #[.slice UA u.length uc] 23 (0, 0))
  b2 : W.heap[w.heap.size + 2]? = some (.cells (wtc wt WA wn) 29 (0, 0))
  b3 : W.heap[w.heap.size + 3]? = some (.cells #[.slice PA p.length pc] 23 (0, 0))
  b4 : W.heap[w.heap.size + 4]? = some (.cells #[.slice none 0 0] 23 (0, 0))
  b5 : W.heap[w.heap.size + 5]? = some (.cells #[.int .i64 0] 42 (0, 0))
theorem BX.fr {w : World} {A : Option Addr} {c : Nat} {l : List Cl} {UA : Option Addr} {uc : Nat} {u : List Int} {wt : Wt} {WA : Option Addr} {wn : Nat} {PA : Option Addr} {pc : Nat} {p : List Int} {W W1 : World} {S : Nat → Prop} (h : BX w A c l UA uc u wt WA wn PA pc p W) (hf : Fr S W W1) (hS : ∀ k, k < w.heap.size + 6 → ¬ S k) : BX w A c l UA uc u wt WA wn PA pc p W1 :=
  have z := (Array.getElem?_eq_some_iff.1 h.b5).1
  ⟨h.below.trans (hf.below (fun k hk => hS k (by omega)) h.below.size), (hf.block _ (by omega) (hS _ (by omega))).trans h.b0, (hf.block _ (by omega) (hS _ (by omega))).trans h.b1, (hf.block _ (by omega) (hS _ (by omega))).trans h.b2, (hf.block _ (by omega) (hS _ (by omega))).trans h.b3, (hf.block _ (by omega) (hS _ (by omega))).trans h.b4, (hf.block _ (by omega) (hS _ (by omega))).trans h.b5⟩
theorem BX.mk0 (w : World) (A : Option Addr) (c : Nat) (l : List Cl) (UA : Option Addr) (uc : Nat) (u : List Int) (wt : Wt) (WA : Option Addr) (wn : Nat) (PA : Option Addr) (pc : Nat) (p : List Int) :
    BX w A c l UA uc u wt WA wn PA pc p ((((((w.alloc (.cells #[.slice A l.length c] 24)).alloc (.cells #[.slice UA u.length uc] 23)).alloc (.cells (wtc wt WA wn) 29)).alloc (.cells #[.slice PA p.length pc] 23)).alloc (.cells #[.slice none 0 0] 23)).alloc (.cells #[.int .i64 0] 42)) ∧
    ((((((w.alloc (.cells #[.slice A l.length c] 24)).alloc (.cells #[.slice UA u.length uc] 23)).alloc (.cells (wtc wt WA wn) 29)).alloc (.cells #[.slice PA p.length pc] 23)).alloc (.cells #[.slice none 0 0] 23)).alloc (.cells #[.int .i64 0] 42)).heap.size = w.heap.size + 6 :=
  ⟨⟨((((((Below.refl _ _).alloc (Nat.le_refl _) _).alloc (by simp) _).alloc (by simp; omega) _).alloc (by simp; omega) _).alloc (by simp; omega) _).alloc (by simp; omega) _,
   heap_old (heap_old (heap_old (heap_old (heap_old (heap_new rfl))))), heap_old (heap_old (heap_old (heap_old (heap_new (by simp))))), heap_old (heap_old (heap_old (heap_new (by simp)))), heap_old (heap_old (heap_new (by simp))), heap_old (heap_new (by simp)), heap_new (by simp)⟩, by simp⟩

set_option maxRecDepth 100000 in
set_option maxHeartbeats 2000000 in
theorem Broken_no (A : Option Addr) (c : Nat) (l : List Cl) (UA : Option Addr) (uc : Nat) (u : List Int) (wt : Wt) (WA : Option Addr) (wn : Nat) (PA : Option Addr) (pc : Nat) (p : List Int) (w : World) (hA : Args w A c l UA uc u wt WA wn) (hg : givenB l u wt = false) :
    Calls Tryd.prog 24 #[.slice A l.length c, .slice UA u.length uc, wtv wt WA wn, .slice PA p.length pc] w fun e w' => e = .returned (.tuple #[.slice none 0 0, .int .i64 290]) ∧ Below w.heap.size w w' := by
  obtain ⟨hX, hz0⟩ := BX.mk0 w A c l UA uc u wt WA wn PA pc p
  have hG := given_any A c l UA uc u wt WA wn _ (hA.next hX.below).kinds (hA.next hX.below).rl (hA.next hX.below).ru (hA.next hX.below).rw
  rw [hg] at hG
  unfold wtv at hG ⊢
  have HX := Lib.hid hX; clear hX
  have HG := Lib.hid hG; clear hG
  have HZ := Lib.hid hz0; clear hz0 hg
  unfold wtc at HX HG HZ
  go_enter Tryd.func24, Tryd.ntmps24
  go_wp2_with fail
  refine HG.out.mono ?_
  rintro e w1 ⟨rfl, hb1⟩
  have hX1 := BX.fr HX.out (Fr.of_below hb1) (fun k hk h => by have := HZ.out; omega)
  have c4 := cell_of (o := 0) hX1.b4 rfl
  have f4 := frozen_of (o := 0) hX1.b4
  have c5 := cell_of (o := 0) hX1.b5 rfl
  have f5 := frozen_of (o := 0) hX1.b5
  have z := (Array.getElem?_eq_some_iff.1 hX1.b5).1
  have HB := Lib.hid hX1.below
  have H4 := Lib.hid hX1.b4
  have H5 := Lib.hid hX1.b5
  clear hX1 hb1 HG HX
  go_wp2_with fail
  refine bodyPost_ret (v := .tuple #[.slice none 0 0, .int .i64 290]) ?_ rfl ⟨rfl, (HB.out.setCell (by simp <;> omega) _).setCell (by simp <;> omega) _⟩
  have e4 := cell_of (o := 0) (heap_set_ne (p := ⟨w.heap.size + 1 + 1 + 1 + 1 + 1, 0, none⟩) (.int .i64 290) (by simp) (heap_set (o := 0) (.slice none 0 0) H4.out)) rfl
  have e5 := cell_of (o := 0) (heap_set (o := 0) (.int .i64 290) (heap_set_ne (p := ⟨w.heap.size + 1 + 1 + 1 + 1, 0, none⟩) (.slice none 0 0) (by simp) H5.out)) rfl
  simp [results, Tryd.results24, go_sem, e4, e5]

def pkE (l : List Cl) (wt : Wt) (p : List Int) : Int := if p ∈ packs l wt then 0 else 290
def pkL (l : List Cl) (u : List Int) (wt : Wt) (p : List Int) : List Int := if p ∈ packs l wt then idxs (brk l u wt p) else []
set_option maxRecDepth 100000 in
set_option maxHeartbeats 400000 in
theorem Broken_yes (A : Option Addr) (c : Nat) (l : List Cl) (UA : Option Addr) (uc : Nat) (u : List Int) (wt : Wt) (WA : Option Addr) (wn : Nat) (PA : Option Addr) (pc : Nat) (p : List Int) (w : World) (hA : Args w A c l UA uc u wt WA wn) (hp : (Kd.int .i64).C w PA p.length p) (hpc : p.length ≤ pc) (hg : givenB l u wt = true) :
    Calls Tryd.prog 24 #[.slice A l.length c, .slice UA u.length uc, wtv wt WA wn, .slice PA p.length pc] w fun e w' => ∃ v, e = .returned (.tuple #[v, .int .i64 (pkE l wt p)]) ∧ Fresh w w' v (pkL l u wt p) := by
  obtain ⟨hX, hz0⟩ := BX.mk0 w A c l UA uc u wt WA wn PA pc p
  have hG := given_any A c l UA uc u wt WA wn _ (hA.next hX.below).kinds (hA.next hX.below).rl (hA.next hX.below).ru (hA.next hX.below).rw
  rw [hg] at hG
  obtain ⟨g1, g2, g3, g4, g5⟩ := given_of hg
  unfold wtv at hG ⊢
  have HX := Lib.hid hX; clear hX
  have HG := Lib.hid hG; clear hG
  have HZ := Lib.hid hz0; clear hz0 hg
  have HP := Lib.hid (And.intro hp hpc); clear hp hpc
  have HA := Lib.hid hA; clear hA
  have HGG := Lib.hid (And.intro g1 (And.intro g2 (And.intro g3 (And.intro g4 g5)))); clear g1 g2 g3 g4 g5
  unfold wtc at HX HG HZ
  refine calls_of_wp_marks Tryd.func24 rfl ?_
  simp only [Tryd.ntmps24, List.size_toArray, List.length_cons, List.length_nil, Nat.reduceAdd, Nat.reduceSub, Array.replicate_succ, Array.replicate_zero, List.push_toArray, List.append_toArray, List.nil_append, List.cons_append]
  go_wp2_with fail
  refine HG.out.mono ?_
  rintro e w1 ⟨rfl, hb1⟩
  have hX1 := BX.fr HX.out (Fr.of_below hb1) (fun k hk h => by have := HZ.out; omega)
  have hz1 : w.heap.size + 6 ≤ w1.heap.size := by have := HZ.out; have := hb1.size; omega
  have c0 := cell_of (o := 0) hX1.b0 rfl
  have d0 : w1.cell? ⟨w.heap.size + 2, 0, none⟩ = some (.int .i64 wt.te) := cell_of hX1.b2 rfl
  have d1 : w1.cell? ⟨w.heap.size + 2, 1, none⟩ = some (.int .i64 wt.cl) := cell_of hX1.b2 rfl
  have d2 : w1.cell? ⟨w.heap.size + 2, 2, none⟩ = some (.int .i64 wt.at_) := cell_of hX1.b2 rfl
  have d3 : w1.cell? ⟨w.heap.size + 2, 3, none⟩ = some (.int .i64 wt.us) := cell_of hX1.b2 rfl
  have d4 : w1.cell? ⟨w.heap.size + 2, 4, none⟩ = some (.slice WA wt.needs.length wn) := cell_of hX1.b2 rfl
  have HX1 := Lib.hid hX1; clear hX1 hb1 HG HX
  go_wp2_with fail
  refine (packages_any A c l wt WA wn w w1 HX1.out.below).mono ?_
  rintro e w2 ⟨rfl, hPF, hb2, hz2⟩
  have hX2 := BX.fr HX1.out (Fr.of_below hb2) (fun k hk h => by omega)
  have HX2 := Lib.hid hX2; clear hX2 c0 d0 d1 d2 d3 d4
  have HPF := Lib.hid (And.intro hPF (And.intro hb2 hz2)); clear hPF hb2 hz2
  go_wp2_with fail
  have HZ1 := Lib.hid hz1; clear hz1
  have hE : EOk (envOf w A c l wt WA wn w1.heap.size) := ⟨HA.out.kinds, HA.out.rl, HA.out.rw, HGG.out.2.2.2.2⟩
  have hseq := packs_iter hE HGG.out.2.2.2.1
  have heg : ∀ args w, (callFunc 69 args).run Tryd.prog w = .ok (.enter 69 args) w := fun _ _ => rfl
  refine wp_rangeB (α := List Int) (w1.heap.size + 3) HPF.out.2.2 (gf := 69) (lb := #[.pointer (some ⟨w1.heap.size + 1, 0, none⟩), .pointer (some ⟨w1.heap.size + 2, 0, none⟩)]) rfl heg hseq
    ?hps (fun k => k = w.heap.size + 4 ∨ k = w.heap.size + 5) (fun W hf => HPF.out.1.fr hf (fun _ _ h => h)) ?hlt ?hown
    (fun i D W => BX w A c l UA uc u wt WA wn PA pc p W ∧ ∀ x ∈ (packs l wt).take i, x ≠ p)
    (fun cd i D W => cd = .ret ∧ Below w.heap.size w W ∧ w.heap.size + 6 ≤ W.heap.size ∧ p ∈ packs l wt ∧ ∃ v, W.heap[w.heap.size + 4]? = some (.cells #[v] 23 (0, 0)) ∧ W.heap[w.heap.size + 5]? = some (.cells #[.int .i64 0] 42 (0, 0)) ∧ (Kd.int .i64).R 3 W w.heap.size D v (idxs (brk l u wt p)))
    ?hI ?hIx ?h0 (fun i D s x a' W => BX w A c l UA uc u wt WA wn PA pc p W ∧ (∀ x ∈ (packs l wt).take i, x ≠ p) ∧ ∃ XA xc, (Kd.int .i64).R 3 W s (fun k => s ≤ k) (.slice XA x.length xc) x ∧
      a' = { tmps := #[.slice A l.length c, .slice UA u.length uc, .agg #[.int .i64 wt.te, .int .i64 wt.cl, .int .i64 wt.at_, .int .i64 wt.us, .slice WA wt.needs.length wn], .slice PA p.length pc, .pointer (some ⟨w.heap.size, 0, none⟩), .pointer (some ⟨w.heap.size + 1, 0, none⟩), .pointer (some ⟨w.heap.size + 1 + 1, 0, none⟩), .pointer (some ⟨w.heap.size + 1 + 1 + 1, 0, none⟩), .pointer (some ⟨w.heap.size + 1 + 1 + 1 + 1, 0, none⟩), .pointer (some ⟨w.heap.size + 1 + 1 + 1 + 1 + 1, 0, none⟩), .slice XA x.length xc, .slice A l.length c, .slice UA u.length uc, .agg #[.int .i64 wt.te, .int .i64 wt.cl, .int .i64 wt.at_, .int .i64 wt.us, .slice WA wt.needs.length wn], .bool true, .slice A l.length c, .agg #[.int .i64 wt.te, .int .i64 wt.cl, .int .i64 wt.at_, .int .i64 wt.us, .slice WA wt.needs.length wn], .func (.func 69) #[] #[.pointer (some ⟨w1.heap.size + 1, 0, none⟩), .pointer (some ⟨w1.heap.size + 2, 0, none⟩)], .slice XA x.length xc, undef, undef, undef, undef, undef, undef, undef, undef, undef], defers := [] })
    ?hA ?hassign ?hbody ?hdone ?hstop
  case hps => rintro s x args W ⟨v, rfl, _⟩; rfl
  case hlt =>
    have := HZ1.out
    have := HA.out
    rintro k (h | h | h)
    · exact h.elim
    · rcases h with h | rfl | rfl | rfl
      · show k < _; simp only [envOf] at h; omega
      · show w1.heap.size < _; omega
      · show w1.heap.size + 1 < _; omega
      · show w1.heap.size + 2 < _; omega
    · omega
  case hown =>
    have := HZ1.out
    rintro k h
    refine ⟨fun h => h, fun hr => ?_⟩
    rcases hr with h' | rfl | rfl | rfl
    · simp only [envOf] at h'; omega
    · simp only [envOf] at h; omega
    · simp only [envOf] at h; omega
    · simp only [envOf] at h; omega
  case hI =>
    have := HZ1.out
    rintro i D X Y ⟨h1, h2⟩ hs hD hf
    exact ⟨h1.fr hf (fun k hk h => by rcases h with h | h <;> omega), h2⟩
  case hIx =>
    have := HZ1.out
    rintro cd i D X Y ⟨h1, h2, h3, h4, v, h5, h6, h7⟩ hs hD hf
    refine ⟨h1, h2.trans (hf.below (fun k hk h => by rcases h with h | h <;> omega) h2.size), by have := hf.size; omega, h4, v, ?_, ?_, Kd.R_step h7 (fun k hk hl => ?_)⟩
    · exact (hf.block _ (by omega) (fun h => by rcases h with h | h <;> omega)).trans h5
    · exact (hf.block _ (by omega) (fun h => by rcases h with h | h <;> omega)).trans h6
    · exact hf.block k hl (fun h => by rcases h with h | h; exact h; exact h.2 hk)
  case h0 =>
    intro W hf hz
    exact ⟨HX2.out.fr hf (fun _ _ h => h), fun x hx => by simp at hx⟩
  case hA =>
    have := HZ1.out
    rintro i D s x a' X Y ⟨h1, h2, XA, xc, h3, h4⟩ hs hsX hD hf hz
    exact ⟨h1.fr hf (fun k hk h => by omega), h2, XA, xc, Kd.R_step h3 (fun k hk hl => hf.block k hl (fun h => by omega)), h4⟩
  case hassign =>
    rintro l' i D s x args W hx ⟨h1, h2⟩ ⟨v, rfl, hR⟩ hs hsW hD
    obtain ⟨XA, xc, rfl, _, _⟩ := Kd.R_reads hR
    have H := Lib.hid (And.intro h1 (And.intro h2 hR)); clear h1 h2 hR hx hD hs hsW
    gi_wp2
    exact ⟨Fr.refl _ _, H.out.1, H.out.2.1, XA, xc, H.out.2.2, rfl⟩
  case hbody =>
    rintro l' i D s x a' W hx ⟨h1, h2, XA, xc, hR, rfl⟩ hs hsW hD
    obtain ⟨XA', xc', e, hxc, hXC⟩ := Kd.R_reads hR
    cases e
    have c7 : W.cell? ⟨w.heap.size + 1 + 1 + 1, 0, none⟩ = some (.slice PA p.length pc) := cell_of h1.b3 rfl
    have hpC := Kd.C_below HP.out.1 h1.below
    have hin : x ∈ packs l wt := List.mem_of_getElem? hx
    have heq := equal_any XA xc x PA pc p W hXC hxc hpC HP.out.2
    have H := Lib.hid (And.intro h1 (And.intro h2 (And.intro hx (And.intro hD (And.intro hs hsW))))); clear h1 h2 hx hD hs hsW hR
    generalize hqq : decide (x = p) = q at heq
    have HQ := Lib.hid heq; clear heq
    have HQQ := Lib.hid hqq; clear hqq
    have HC := Lib.hid (And.intro hXC (And.intro hpC hin)); clear hXC hpC hin hxc
    gi_wp2_with fail
    refine ⟨trivial, rfl, CallsIn.mono (calls_round l' 0 HQ.out) ?_⟩
    rintro e W1 ⟨rfl, hb1⟩
    clear HQ c7
    have hF1 : Fr (fun k => (k = w.heap.size + 4 ∨ k = w.heap.size + 5) ∨ D k ∨ s ≤ k) W W1 := (Fr.of_below hb1).mono (fun k hk h => .inr (.inr (by have := H.out.2.2.2.2.2; omega)))
    have hX1 := H.out.1.fr (Fr.of_below hb1) (fun k hk h => by have := H.out.2.2.2.2; have := HZ1.out; omega)
    cases q
    · have HF1 := Lib.hid (And.intro hF1 hX1); clear hF1 hX1 hb1
      gi_wp2_with fail
      refine ⟨HF1.out.1, HF1.out.2, fun y hy => ?_⟩
      have hxL : (packs l wt)[i]? = some x := H.out.2.2.1
      obtain ⟨hi, hxe⟩ := List.getElem?_eq_some_iff.1 hxL
      rw [List.take_succ_eq_append_getElem hi, List.mem_append] at hy
      rcases hy with hy | hy
      · exact H.out.2.1 y hy
      · rw [List.mem_singleton.1 hy, hxe]
        exact of_decide_eq_false HQQ.out
    · have hk1 := HA.out.next hX1.below
      have hpC1 := Kd.C_below HP.out.1 hX1.below
      have hbk := broken_any A c l UA uc u wt WA wn PA pc p W1 hk1.kinds hk1.rl hk1.ru hk1.rw hpC1 HGG.out.1 HGG.out.2.1 HGG.out.2.2.1
      unfold wtv at hbk
      have hz6 := (Array.getElem?_eq_some_iff.1 hX1.b5).1
      have hzb1 := hb1.size
      have e0 : W1.cell? ⟨w.heap.size, 0, none⟩ = some (.slice A l.length c) := cell_of hX1.b0 rfl
      have e1 : W1.cell? ⟨w.heap.size + 1, 0, none⟩ = some (.slice UA u.length uc) := cell_of hX1.b1 rfl
      have e3 : W1.cell? ⟨w.heap.size + 3, 0, none⟩ = some (.slice PA p.length pc) := cell_of hX1.b3 rfl
      have d0 : W1.cell? ⟨w.heap.size + 2, 0, none⟩ = some (.int .i64 wt.te) := cell_of hX1.b2 rfl
      have d1 : W1.cell? ⟨w.heap.size + 2, 1, none⟩ = some (.int .i64 wt.cl) := cell_of hX1.b2 rfl
      have d2 : W1.cell? ⟨w.heap.size + 2, 2, none⟩ = some (.int .i64 wt.at_) := cell_of hX1.b2 rfl
      have d3 : W1.cell? ⟨w.heap.size + 2, 3, none⟩ = some (.int .i64 wt.us) := cell_of hX1.b2 rfl
      have d4 : W1.cell? ⟨w.heap.size + 2, 4, none⟩ = some (.slice WA wt.needs.length wn) := cell_of hX1.b2 rfl
      have HF1 := Lib.hid (And.intro hF1 hX1); clear hF1 hX1 hb1 hk1 hpC1
      have HBK := Lib.hid hbk; clear hbk
      gi_wp2_with fail
      refine ⟨trivial, rfl, CallsIn.mono (calls_round l' 0 HBK.out) ?_⟩
      rintro e W2 ⟨rfl, hb2⟩
      have hbl := bits_lt (l.map (forb u wt p))
      rw [List.length_map] at hbl
      have hbl2 : brk l u wt p < 2 ^ 62 := Nat.lt_of_lt_of_le hbl (Nat.pow_le_pow_right (by decide) (by have := HGG.out.1; omega))
      have hidx := indices_any (brk l u wt p) hbl2 W2
      have HIX := Lib.hid hidx; clear hidx hbl hbl2 e0 e1 e3 d0 d1 d2 d3 d4 HBK
      have hF2 := HF1.out.1.trans ((Fr.of_below hb2).mono (fun k hk h => by omega))
      have hX2 := HF1.out.2.fr (Fr.of_below hb2) (fun k hk h => by omega)
      have hz7 := hb2.size
      have HF2 := Lib.hid (And.intro hF2 hX2); clear hF2 hX2 hb2 HF1
      gi_wp2_with fail
      refine ⟨trivial, rfl, CallsIn.mono (calls_round l' 0 HIX.out) ?_⟩
      rintro e W3 ⟨v, rfl, hR3, hb3⟩
      obtain ⟨A2, c2, rfl⟩ := Kd.R_slice hR3
      have hF3 := HF2.out.1.trans ((Fr.of_below hb3).mono (fun k hk h => by omega))
      have hX3 := HF2.out.2.fr (Fr.of_below hb3) (fun k hk h => by omega)
      have hz8 := hb3.size
      have e4 : W3.cell? ⟨w.heap.size + 4, 0, none⟩ = some (.slice none 0 0) := cell_of hX3.b4 rfl
      have f4 := frozen_of (o := 0) hX3.b4
      have e5 : W3.cell? ⟨w.heap.size + 5, 0, none⟩ = some (.int .i64 0) := cell_of hX3.b5 rfl
      have f5 := frozen_of (o := 0) hX3.b5
      have HF3 := Lib.hid (And.intro hF3 (And.intro hX3 (And.intro hR3 hb3))); clear hF3 hX3 hR3 hb3 HF2 HIX
      gi_wp2_with fail
      have hs1 := H.out.2.2.2.2.1
      have hs2 := H.out.2.2.2.2.2
      have hHZ := HZ1.out
      have hsz : W3.heap.size = ((W3.setCell ⟨w.heap.size + 1 + 1 + 1 + 1, 0, none⟩ (.slice A2 (idxs (brk l u wt p)).length c2)).setCell ⟨w.heap.size + 1 + 1 + 1 + 1 + 1, 0, none⟩ (.int .i64 0)).heap.size := by simp [World.setCell]
      refine ⟨(HF3.out.1.setCell _ _ (fun _ => .inl (.inl rfl))).setCell _ _ (fun _ => .inl (.inr rfl)), rfl, (HF3.out.2.1.below.setCell (by simp <;> omega) _).setCell (by simp <;> omega) _, by rw [← hsz]; omega, (by rw [← of_decide_eq_true HQQ.out]; exact HC.out.2.2), .slice A2 (idxs (brk l u wt p)).length c2, ?_, ?_, ?_⟩
      · exact heap_set_ne (p := ⟨w.heap.size + 1 + 1 + 1 + 1 + 1, 0, none⟩) _ (by simp) (heap_set (o := 0) _ HF3.out.2.1.b4)
      · exact heap_set (o := 0) _ (heap_set_ne (p := ⟨w.heap.size + 1 + 1 + 1 + 1, 0, none⟩) _ (by simp) HF3.out.2.1.b5)
      · refine Kd.R_mono (Kd.R_bound (Kd.R_lower (Kd.R_step HF3.out.2.2.1 (fun k hk hl => ?_)) (by omega))) (fun k hk => .inr ⟨by have := hk.1; omega, hk.2.2.1⟩)
        exact (Below.heap_setCell _ ⟨w.heap.size + 1 + 1 + 1 + 1 + 1, 0, none⟩ _ k (by show k ≠ w.heap.size + 1 + 1 + 1 + 1 + 1; omega)).trans (Below.heap_setCell _ ⟨w.heap.size + 1 + 1 + 1 + 1, 0, none⟩ _ k (by show k ≠ w.heap.size + 1 + 1 + 1 + 1; omega))
  case hdone =>
    rintro D W ⟨h1, h2⟩ hz hDm
    have hnp : p ∉ packs l wt := fun hm => h2 p (show p ∈ (packs l wt).take (packs l wt).length by rw [List.take_length]; exact hm) rfl
    have e4 : W.cell? ⟨w.heap.size + 4, 0, none⟩ = some (.slice none 0 0) := cell_of h1.b4 rfl
    have f4 := frozen_of (o := 0) h1.b4
    have e5 : W.cell? ⟨w.heap.size + 5, 0, none⟩ = some (.int .i64 0) := cell_of h1.b5 rfl
    have f5 := frozen_of (o := 0) h1.b5
    have hz6 := (Array.getElem?_eq_some_iff.1 h1.b5).1
    have hHZ := HZ1.out
    have H := Lib.hid (And.intro h1 (And.intro hnp hDm)); clear h1 h2 hnp hDm
    go_wp2_with fail
    have hb4 := heap_set_ne (p := ⟨w.heap.size + 1 + 1 + 1 + 1 + 1, 0, none⟩) (.int .i64 290) (by simp) (heap_set (o := 0) (.slice none 0 0) H.out.1.b4)
    have hb5 := heap_set (o := 0) (.int .i64 290) (heap_set_ne (p := ⟨w.heap.size + 1 + 1 + 1 + 1, 0, none⟩) (.slice none 0 0) (by simp) H.out.1.b5)
    have hDm2 := heap_set_ne (p := ⟨w.heap.size + 1 + 1 + 1 + 1 + 1, 0, none⟩) (.int .i64 290) (by show w1.heap.size + 3 ≠ w.heap.size + 1 + 1 + 1 + 1 + 1; omega) (heap_set_ne (p := ⟨w.heap.size + 1 + 1 + 1 + 1, 0, none⟩) (.slice none 0 0) (by show w1.heap.size + 3 ≠ w.heap.size + 1 + 1 + 1 + 1; omega) H.out.2.2)
    have hbl := (H.out.1.below.setCell (p := ⟨w.heap.size + 1 + 1 + 1 + 1, 0, none⟩) (by simp <;> omega) (.slice none 0 0)).setCell (p := ⟨w.heap.size + 1 + 1 + 1 + 1 + 1, 0, none⟩) (by simp <;> omega) (.int .i64 290)
    refine leave_mark (v := .tuple #[.slice none 0 0, .int .i64 290]) hDm2 (fun W' hf hz => ?_)
    have g4 := cell_of (o := 0) ((hf.block _ (Array.getElem?_eq_some_iff.1 hb4).1 (by omega)).trans hb4) rfl
    have g5 := cell_of (o := 0) ((hf.block _ (Array.getElem?_eq_some_iff.1 hb5).1 (by omega)).trans hb5) rfl
    have hnp := H.out.2.1
    have i1 : pkL l u wt p = [] := if_neg hnp
    have i2 : pkE l wt p = 290 := if_neg hnp
    rw [i1, i2]
    exact ⟨by simp [results, Tryd.results24, go_sem, g4, g5], _, rfl, Kd.R_nil _ _ _ _ _, hbl.trans (hf.below (fun k hk => by omega) hbl.size)⟩
  case hstop =>
    rintro cd i x D W hx ⟨rfl, h1, h2, h3, v, h4, h5, h6⟩ hz hDm
    have hHZ := HZ1.out
    go_wp2
    refine leave_mark (v := .tuple #[v, .int .i64 0]) hDm (fun W' hf hz => ?_)
    have g4 := cell_of (o := 0) ((hf.block _ (Array.getElem?_eq_some_iff.1 h4).1 (by omega)).trans h4) rfl
    have g5 := cell_of (o := 0) ((hf.block _ (Array.getElem?_eq_some_iff.1 h5).1 (by omega)).trans h5) rfl
    obtain ⟨A2, c2, rfl⟩ := Kd.R_slice h6
    have i1 : pkL l u wt p = idxs (brk l u wt p) := if_pos h3
    have i2 : pkE l wt p = 0 := if_pos h3
    rw [i1, i2]
    refine ⟨by simp [results, Tryd.results24, go_sem, g4, g5], _, rfl, ?_, h1.trans (hf.below (fun k hk => by omega) h1.size)⟩
    refine Kd.R_mono (Kd.R_move (Kd.R_bound h6) (fun k hk => hf.block k hk.2.2.1 (fun e => ?_))) (fun k hk => hk.2.1)
    obtain ⟨_, _, _, q, _, cells, hc⟩ := hk
    subst e
    rw [hDm] at hc
    cases hc
end Go.Proofs.YtnabgijdbcdpmaaDoor

namespace Go.Proofs.YtnabgijdbcdpmaaDoor
open Go.RowKit Go.Rg Go.Proofs.YtnabgijdbcdpmaaDoor.PRightsMatchesReference Go.Proofs.YtnabgijdbcdpmaaDoorW.PrintWords
set_option linter.unusedVariables false
set_option linter.unusedSimpArgs false

theorem Broken_any (A : Option Addr) (c : Nat) (l : List Cl) (UA : Option Addr) (uc : Nat) (u : List Int) (wt : Wt) (WA : Option Addr) (wn : Nat) (PA : Option Addr) (pc : Nat) (p : List Int) (w : World) (hA : Args w A c l UA uc u wt WA wn) (hp : (Kd.int .i64).C w PA p.length p) (hpc : p.length ≤ pc) :
    Calls Tryd.prog 24 #[.slice A l.length c, .slice UA u.length uc, wtv wt WA wn, .slice PA p.length pc] w fun e w' => ∃ v, e = .returned (.tuple #[v, .int .i64 (brokenE l u wt p)]) ∧ Fresh w w' v (brokenL l u wt p) := by
  cases hg : givenB l u wt with
  | false =>
    have e1 : brokenE l u wt p = 290 := by simp [brokenE, brokenOk, hg]
    have e2 : brokenL l u wt p = [] := by simp [brokenL, brokenOk, hg]
    rw [e1, e2]
    exact (Broken_no A c l UA uc u wt WA wn PA pc p w hA hg).mono fun e w' h => ⟨_, h.1, Kd.R_nil _ _ _ _ _, h.2⟩
  | true =>
    have e1 : brokenE l u wt p = pkE l wt p := by simp [brokenE, brokenOk, hg, pkE]
    have e2 : brokenL l u wt p = pkL l u wt p := by simp [brokenL, brokenOk, hg, pkL]
    rw [e1, e2]
    exact Broken_yes A c l UA uc u wt WA wn PA pc p w hA hp hpc hg

/-- What Lawful answers. -/
def lawB (l : List Cl) (u : List Int) (wt : Wt) (p : List Int) : Bool := decide (brokenE l u wt p = 0) && decide (((brokenL l u wt p).length : Int) = 0)

theorem Lawful_any (A : Option Addr) (c : Nat) (l : List Cl) (UA : Option Addr) (uc : Nat) (u : List Int) (wt : Wt) (WA : Option Addr) (wn : Nat) (PA : Option Addr) (pc : Nat) (p : List Int) (w : World) (hA : Args w A c l UA uc u wt WA wn) (hp : (Kd.int .i64).C w PA p.length p) (hpc : p.length ≤ pc) :
    Calls Tryd.prog 26 #[.slice A l.length c, .slice UA u.length uc, wtv wt WA wn, .slice PA p.length pc] w fun e w' => e = .returned (.bool (lawB l u wt p)) ∧ Below w.heap.size w w' := by
  have hb := (Below.refl w.heap.size w).alloc (Nat.le_refl _) (.cells (wtc wt WA wn) 29)
  have hC := Broken_any A c l UA uc u wt WA wn PA pc p _ (hA.next hb) (Kd.C_below hp hb) hpc
  have q1 : (brokenE l u wt p == 0) = decide (brokenE l u wt p = 0) := beqD _ _
  have q2 : (((brokenL l u wt p).length : Int) == 0) = decide (((brokenL l u wt p).length : Int) = 0) := beqD _ _
  unfold lawB
  have hm : (brokenL l u wt p).length ≤ 12 := by
    unfold brokenL idxs
    split
    · rw [List.length_map]; exact Nat.le_trans (List.length_filter_le _ _) (by simp)
    · simp
  unfold wtv at *
  unfold wtc at *
  have HC := Lib.hid hC; clear hC hA hp
  have HB := Lib.hid hb; clear hb
  generalize brokenE l u wt p = e0 at *
  generalize brokenL l u wt p = bl at *
  generalize decide (e0 = 0) = b0 at *
  generalize decide ((bl.length : Int) = 0) = b1 at *
  cases b0
  all_goals
    go_enter Tryd.func26, Tryd.ntmps26
    go_wp2_with fail
    refine HC.out.mono ?_
    rintro e w1 ⟨v, rfl, hR, hb1⟩
    obtain ⟨A2, c2, rfl⟩ := Kd.R_slice hR
    have HB1 := Lib.hid (HB.out.trans (hb1.mono HB.out.size)); clear hb1 hR HC
    cases b1
    all_goals
      go_wp2_with fail
      go_ret
      exact ⟨rfl, HB1.out⟩

/-- One of the bits of s is among those of m. -/
def hitB (m s : Nat) : Bool := decide (s &&& m ≠ 0)
theorem hits_any (m : Nat) (hm : m < 2 ^ 62) (A : Option Addr) (c : Nat) (ss : List Nat) (hs : ∀ s ∈ ss, s < 2 ^ 62) (w : World) (hr : (Kd.int .i64).C w A ss.length (ss.map Int.ofNat)) :
    Calls Tryd.prog 50 #[.int .i64 m, .slice A ss.length c] w fun e w' => e = .returned (.bool (ss.all (hitB m))) ∧ Below w.heap.size w w' := by
  have hb := (Below.refl w.heap.size w).alloc (Nat.le_refl _) (.cells #[.int .i64 (m : Int)] 3)
  have hx : (w.alloc (.cells #[.int .i64 (m : Int)] 3)).cell? ⟨w.heap.size, 0, none⟩ = some (.int .i64 m) := cell_new rfl
  have hlt : w.heap.size < (w.alloc (.cells #[.int .i64 (m : Int)] 3)).heap.size := by simp
  have hr' : (Kd.int .i64).C w A (ss.map Int.ofNat).length (ss.map Int.ofNat) := by rw [List.length_map]; exact hr
  have hC := allI_any 73 #[.pointer (some ⟨w.heap.size, 0, none⟩)] (fun _ _ => rfl) (fun x => hitB m x.toNat) A c (ss.map Int.ofNat) _ (Kd.C_below hr' hb) (fun k hk W hW => by
    have hk' : k < ss.length := by simpa using hk
    have hxW : W.cell? ⟨w.heap.size, 0, none⟩ = some (.int .i64 m) := (hW.cell (p := ⟨w.heap.size, 0, none⟩) hlt).trans hx
    have e1 : (ss.map Int.ofNat)[k] = (ss[k] : Int) := by simp
    have hsk := hs ss[k] (List.getElem_mem hk')
    rw [e1]
    have hq : (Go.bits .and .i64 (ss[k] : Int) (m : Int) != 0) = hitB m (ss[k] : Int).toNat := by
      rw [and_nat _ _ hsk hm, bneD, Int.toNat_natCast, hitB]
      exact decide_eq_decide.2 (by omega)
    generalize ss[k] = y at *
    have HX := Lib.hid hxW
    show Calls Tryd.prog 73 #[.int .i64 y, .pointer (some ⟨w.heap.size, 0, none⟩)] W _
    clear hW e1
    go_enter Tryd.func73, Tryd.ntmps73
    go_wp2_with fail
    go_ret
    exact ⟨rfl, Below.refl _ _⟩)
  have hv : ((ss.map Int.ofNat).all fun x => hitB m x.toNat) = ss.all (hitB m) := by rw [List.all_map]; rfl
  rw [hv, List.length_map] at hC
  have HC := Lib.hid hC; clear hC hr hr' hs hx hlt hv
  have HB := Lib.hid hb; clear hb
  generalize ss.all (hitB m) = b at *
  go_enter Tryd.func50, Tryd.ntmps50
  go_wp2_with fail
  refine HC.out.mono ?_
  rintro e w1 ⟨rfl, hb1⟩
  go_wp2_with fail
  go_ret
  exact ⟨rfl, HB.out.trans (hb1.mono HB.out.size)⟩
end Go.Proofs.YtnabgijdbcdpmaaDoor

namespace Go.Proofs.YtnabgijdbcdpmaaDoor
open Go.RowKit Go.Rg Go.Proofs.YtnabgijdbcdpmaaDoor.PRightsMatchesReference Go.Proofs.YtnabgijdbcdpmaaDoorW.PrintWords
set_option linter.unusedVariables false
set_option linter.unusedSimpArgs false
attribute [local go_sem] Oper.semAt_some

/-- Is a core better than the best so far? -/
def better (best : Option (List Int)) (core : List Int) : Bool := match best with
  | none => true
  | some b => decide ((core.length : Int) < (b.length : Int)) || (decide ((core.length : Int) = (b.length : Int)) && decide (lexC core b < 0))
def bestStep (ss : List Nat) (best : Option (List Int)) (m : Nat) : Option (List Int) := if ss.all (hitB m) && better best (idxs m) then some (idxs m) else best
def bestOf (ss : List Nat) (n : Nat) : Option (List Int) := (List.range n).foldl (bestStep ss) none
def solvP (l : List Cl) (u : List Int) (wt : Wt) : Option (List Int) := (packs l wt).find? fun p => decide (brk l u wt p = 0)
def sets (l : List Cl) (u : List Int) (wt : Wt) : List Nat := (packs l wt).map (brk l u wt)
def solve1 (l : List Cl) (u : List Int) (wt : Wt) : List Int := if givenB l u wt = true then (solvP l u wt).getD [] else []
def solve2 (l : List Cl) (u : List Int) (wt : Wt) : List Int := if givenB l u wt = true then (match solvP l u wt with | some _ => [] | none => (bestOf (sets l u wt) (2 ^ l.length)).getD []) else []
def solveE (l : List Cl) (u : List Int) (wt : Wt) : Int := if givenB l u wt = true then 0 else 290

def SolvePost (l : List Cl) (u : List Int) (wt : Wt) (w : World) (e : Ending) (w' : World) : Prop :=
  ∃ v1 v2, e = .returned (.tuple #[v1, v2, .int .i64 (solveE l u wt)]) ∧ (Kd.int .i64).R 3 w' w.heap.size (fun k => w.heap.size ≤ k) v1 (solve1 l u wt) ∧ (Kd.int .i64).R 3 w' w.heap.size (fun k => w.heap.size ≤ k) v2 (solve2 l u wt) ∧ Below w.heap.size w w'

theorem wpListIn_append_run {F : Fence} {n : Nat} {P : Program} {ops : Array Oper} {rest : List Oper} {o : Oper} {a : Act} {Q : Exit → Act → World → Prop} {W w2 : World} {v1 : Value} (s x : Operand) (t : TypeId) (hg : o.guard = none)
    (ho : o.op = .call { callee := .builtin .append, args := #[s, x], argTypes := #[t, t] }) (vs vx : Value) (hs : a.eval s = vs) (hx : a.eval x = vx) (hr : (Builtin.append_ #[t, t] o.type #[vs, vx]).run P W = .ok v1 w2) (h : wpListIn F n P ops Q rest (a.put o.dst v1) w2) : wpListIn F n P ops Q (o :: rest) a W := by
  refine wpListIn_plain hg fun K hK' => ?_
  unfold Oper.wpIn
  refine ⟨?_, ?_⟩
  · simp [Oper.about, ho, resolve, Target.leads, Sem.run_pure]
  · rw [Oper.semAt_plain F _ _ (by rw [ho]; intro c hc'; cases hc')]
    simp [execOp, ho, resolve, invoke, builtin, hs, hx, hr, Result.andThen]
    exact hK' _ _ h

set_option maxRecDepth 100000 in
set_option maxHeartbeats 1000000 in
theorem Solve_no (A : Option Addr) (c : Nat) (l : List Cl) (UA : Option Addr) (uc : Nat) (u : List Int) (wt : Wt) (WA : Option Addr) (wn : Nat) (w : World) (hA : Args w A c l UA uc u wt WA wn) (hg : givenB l u wt = false) :
    Calls Tryd.prog 20 #[.slice A l.length c, .slice UA u.length uc, wtv wt WA wn] w (SolvePost l u wt w) := by
  have s1 : solve1 l u wt = [] := by simp [solve1, hg]
  have s2 : solve2 l u wt = [] := by simp [solve2, hg]
  have s3 : solveE l u wt = 290 := by simp [solveE, hg]
  obtain ⟨hX, hz0⟩ := BX.mk0 w A c l UA uc u wt WA wn none 0 []
  have hG := given_any A c l UA uc u wt WA wn _ (hA.next hX.below).kinds (hA.next hX.below).rl (hA.next hX.below).ru (hA.next hX.below).rw
  rw [hg] at hG
  unfold wtv at hG ⊢
  have HX := Lib.hid hX; clear hX
  have HG := Lib.hid hG; clear hG
  have HZ := Lib.hid hz0; clear hz0 hg
  have HS := Lib.hid (And.intro s1 (And.intro s2 s3)); clear s1 s2 s3
  unfold wtc at HX HG HZ
  go_enter Tryd.func20, Tryd.ntmps20
  go_wp2_with fail
  refine HG.out.mono ?_
  rintro e w1 ⟨rfl, hb1⟩
  have hX1 := BX.fr HX.out (Fr.of_below hb1) (fun k hk h => by have := HZ.out; omega)
  have c3 : w1.cell? ⟨w.heap.size + 3, 0, none⟩ = some (.slice none 0 0) := cell_of hX1.b3 rfl
  have f3 := frozen_of (o := 0) hX1.b3
  have c4 : w1.cell? ⟨w.heap.size + 4, 0, none⟩ = some (.slice none 0 0) := cell_of hX1.b4 rfl
  have f4 := frozen_of (o := 0) hX1.b4
  have c5 : w1.cell? ⟨w.heap.size + 5, 0, none⟩ = some (.int .i64 0) := cell_of hX1.b5 rfl
  have f5 := frozen_of (o := 0) hX1.b5
  have z := (Array.getElem?_eq_some_iff.1 hX1.b5).1
  have HX1 := Lib.hid hX1; clear hX1 hb1 HG HX
  go_wp2_with fail
  refine bodyPost_ret (v := .tuple #[.slice none 0 0, .slice none 0 0, .int .i64 290]) ?_ rfl ⟨_, _, by rw [HS.out.2.2], by rw [HS.out.1]; exact Kd.R_nil _ _ _ _ _, by rw [HS.out.2.1]; exact Kd.R_nil _ _ _ _ _, ((HX1.out.below.setCell (by simp <;> omega) _).setCell (by simp <;> omega) _).setCell (by simp <;> omega) _⟩
  have e3 := cell_of (o := 0) (heap_set_ne (p := ⟨w.heap.size + 1 + 1 + 1 + 1 + 1, 0, none⟩) (.int .i64 290) (by simp) (heap_set_ne (p := ⟨w.heap.size + 1 + 1 + 1 + 1, 0, none⟩) (.slice none 0 0) (by simp) (heap_set (o := 0) (.slice none 0 0) HX1.out.b3))) rfl
  have e4 := cell_of (o := 0) (heap_set_ne (p := ⟨w.heap.size + 1 + 1 + 1 + 1 + 1, 0, none⟩) (.int .i64 290) (by simp) (heap_set (o := 0) (.slice none 0 0) (heap_set_ne (p := ⟨w.heap.size + 1 + 1 + 1, 0, none⟩) (.slice none 0 0) (by simp) HX1.out.b4))) rfl
  have e5 := cell_of (o := 0) (heap_set (o := 0) (.int .i64 290) (heap_set_ne (p := ⟨w.heap.size + 1 + 1 + 1 + 1, 0, none⟩) (.slice none 0 0) (by simp) (heap_set_ne (p := ⟨w.heap.size + 1 + 1 + 1, 0, none⟩) (.slice none 0 0) (by simp) HX1.out.b5))) rfl
  simp [results, Tryd.results20, go_sem, e3, e4, e5]
end Go.Proofs.YtnabgijdbcdpmaaDoor

namespace Go.Proofs.YtnabgijdbcdpmaaDoor
open Go.RowKit Go.Rg Go.Proofs.YtnabgijdbcdpmaaDoor.PRightsMatchesReference Go.Proofs.YtnabgijdbcdpmaaDoorW.PrintWords
set_option linter.unusedVariables false
set_option linter.unusedSimpArgs false
attribute [local go_sem] Oper.semAt_some

/-- The sets of clauses of the first i packages. -/
def setsI (l : List Cl) (u : List Int) (wt : Wt) (i : Nat) : List Int := ((packs l wt).take i).map fun x => ((brk l u wt x : Nat) : Int)
theorem solv_find {l : List Cl} {u : List Int} {wt : Wt} {i : Nat} {x : List Int} (hx : (packs l wt)[i]? = some x) (h : ∀ y ∈ (packs l wt).take i, brk l u wt y ≠ 0) (hb : brk l u wt x = 0) : solvP l u wt = some x := by
  unfold solvP
  obtain ⟨hi, e⟩ := List.getElem?_eq_some_iff.1 hx
  rw [List.find?_eq_some_iff_getElem]
  refine ⟨by simpa using hb, i, hi, e, fun j hj => ?_⟩
  have := h (packs l wt)[j] (List.mem_take_iff_getElem.2 ⟨j, by omega, rfl⟩)
  simpa using this

/-- The best core so far, as it lies. -/
def BV (w : World) (B : Nat) (wr : World) (v : Value) : Option (List Int) → Prop
  | none => v = .slice none 0 0
  | some b => ∃ ad c, v = .slice (some ad) b.length c ∧ b.length ≤ c ∧ (Kd.int .i64).R 3 wr w.heap.size (fun k => B ≤ k) v b
theorem BV.below {w : World} {B : Nat} {wr w1 : World} {v : Value} {best : Option (List Int)} (h : BV w B wr v best) (hb : Below wr.heap.size wr w1) : BV w B w1 v best := by
  cases best with
  | none => exact h
  | some b =>
    obtain ⟨ad, c, h1, h2, h3⟩ := h
    exact ⟨ad, c, h1, h2, Kd.R_below h3 hb⟩
theorem bestOf_succ (ss : List Nat) (k : Nat) : bestOf ss (k + 1) = bestStep ss (bestOf ss k) k := by
  unfold bestOf
  rw [List.range_succ, List.foldl_append]; rfl
theorem wrap_pow {n : Nat} (h : n ≤ 12) : wrap64 ((2 : Int) ^ n) = ((2 ^ n : Nat) : Int) := by
  have h1 : 2 ^ n ≤ 2 ^ 12 := Nat.pow_le_pow_right (by decide) h
  have e : ((2 : Int) ^ n) = ((2 ^ n : Nat) : Int) := by simp
  obtain ⟨N, hN⟩ : ∃ N : Nat, 2 ^ n = N := ⟨_, rfl⟩
  rw [hN] at e h1
  rw [e, hN]
  exact wrap_id (by omega) (by omega)
theorem setsI_succ {l : List Cl} {u : List Int} {wt : Wt} {i : Nat} {x : List Int} (hx : (packs l wt)[i]? = some x) : setsI l u wt (i + 1) = setsI l u wt i ++ [((brk l u wt x : Nat) : Int)] := by
  obtain ⟨hi, e⟩ := List.getElem?_eq_some_iff.1 hx
  unfold setsI
  rw [List.take_succ_eq_append_getElem hi, List.map_append, e]; rfl
theorem flatMap_len {α β : Type} (f : α → List β) (c : Nat) : ∀ (n : List α), (∀ x ∈ n, (f x).length ≤ c) → (n.flatMap f).length ≤ n.length * c
  | [], _ => by simp
  | a :: r, h => by
    rw [List.flatMap_cons, List.length_append, List.length_cons, Nat.succ_mul]
    have := flatMap_len f c r (fun x hx => h x (List.mem_cons_of_mem _ hx))
    have := h a List.mem_cons_self
    omega
theorem pkgs_len (off : Int → Bool) : ∀ (ns : List (List Int)) (acc : List Int), (∀ n ∈ ns, n.length ≤ 4) → (pkgs off ns acc).length ≤ 4 ^ ns.length
  | [], _, _ => by simp [pkgs]
  | n :: ns, acc, h => by
    have := flatMap_len (fun k => if !hasI acc k && off k then pkgs off ns (acc ++ [k]) else []) (4 ^ ns.length) n (fun x _ => by
      split
      · exact pkgs_len off ns _ (fun n hn => h n (List.mem_cons_of_mem _ hn))
      · simp)
    have h4 := h n List.mem_cons_self
    have h5 : n.length * 4 ^ ns.length ≤ 4 * 4 ^ ns.length := Nat.mul_le_mul_right _ h4
    show (n.flatMap _).length ≤ _
    rw [List.length_cons, Nat.pow_succ]
    omega
theorem packs_len {l : List Cl} {u : List Int} {wt : Wt} (hg : givenB l u wt = true) : (packs l wt).length ≤ 256 := by
  have g := given_of hg
  simp only [givenB, vldW, Bool.and_eq_true] at hg
  have h := pkgs_len (offered l wt) wt.needs [] (fun n hn => by
    have := List.all_eq_true.1 hg.2.2.2.2.2.2.2.2 n hn
    simp only [needOk, inR, Bool.and_eq_true, decide_eq_true_eq] at this
    omega)
  have h4 : 4 ^ wt.needs.length ≤ 4 ^ 4 := Nat.pow_le_pow_right (by decide) g.2.2.2.2
  exact Nat.le_trans h (by simpa using h4)

set_option maxRecDepth 100000 in
set_option maxHeartbeats 1000000 in
theorem Solve_yes (A : Option Addr) (c : Nat) (l : List Cl) (UA : Option Addr) (uc : Nat) (u : List Int) (wt : Wt) (WA : Option Addr) (wn : Nat) (w : World) (hA : Args w A c l UA uc u wt WA wn) (hg : givenB l u wt = true) :
    Calls Tryd.prog 20 #[.slice A l.length c, .slice UA u.length uc, wtv wt WA wn] w (SolvePost l u wt w) := by
  obtain ⟨hX, hz0⟩ := BX.mk0 w A c l UA uc u wt WA wn none 0 []
  have hG := given_any A c l UA uc u wt WA wn _ (hA.next hX.below).kinds (hA.next hX.below).rl (hA.next hX.below).ru (hA.next hX.below).rw
  rw [hg] at hG
  obtain ⟨g1, g2, g3, g4, g5⟩ := given_of hg
  unfold wtv at hG ⊢
  have HX := Lib.hid hX; clear hX
  have HG := Lib.hid hG; clear hG
  have HZ := Lib.hid hz0; clear hz0
  have HA := Lib.hid hA; clear hA
  have HGG := Lib.hid (And.intro g1 (And.intro g2 (And.intro g3 (And.intro g4 (And.intro g5 hg))))); clear g1 g2 g3 g4 g5 hg
  unfold wtc at HX HG HZ
  refine calls_of_wp_marks Tryd.func20 rfl ?_
  simp only [Tryd.ntmps20, List.size_toArray, List.length_cons, List.length_nil, Nat.reduceAdd, Nat.reduceSub, Array.replicate_succ, Array.replicate_zero, List.push_toArray, List.append_toArray, List.nil_append, List.cons_append]
  go_wp2_with fail
  refine HG.out.mono ?_
  rintro e w1 ⟨rfl, hb1⟩
  have hX1 := BX.fr HX.out (Fr.of_below hb1) (fun k hk h => by have := HZ.out; omega)
  have hz1 : w.heap.size + 6 ≤ w1.heap.size := by have := HZ.out; have := hb1.size; omega
  have hX2 := hX1.fr ((Fr.refl (fun _ => False) w1).alloc (.cells #[.slice none 0 0] 23)) (fun _ _ h => h)
  have hS2 := heap_new (o := .cells #[.slice none 0 0] 23) (W := w1) rfl
  have hz2 : (w1.alloc (.cells #[.slice none 0 0] 23)).heap.size = w1.heap.size + 1 := by simp
  have c0 : w1.cell? ⟨w.heap.size, 0, none⟩ = some (.slice A l.length c) := cell_of hX1.b0 rfl
  have d0 : w1.cell? ⟨w.heap.size + 2, 0, none⟩ = some (.int .i64 wt.te) := cell_of hX1.b2 rfl
  have d1 : w1.cell? ⟨w.heap.size + 2, 1, none⟩ = some (.int .i64 wt.cl) := cell_of hX1.b2 rfl
  have d2 : w1.cell? ⟨w.heap.size + 2, 2, none⟩ = some (.int .i64 wt.at_) := cell_of hX1.b2 rfl
  have d3 : w1.cell? ⟨w.heap.size + 2, 3, none⟩ = some (.int .i64 wt.us) := cell_of hX1.b2 rfl
  have d4 : w1.cell? ⟨w.heap.size + 2, 4, none⟩ = some (.slice WA wt.needs.length wn) := cell_of hX1.b2 rfl
  have hl0 : w.heap.size < w1.heap.size := by omega
  have hl2 : w.heap.size + 2 < w1.heap.size := by omega
  have HX2 := Lib.hid (And.intro hX2 (And.intro hS2 hz2)); clear hX2 hS2 hz2 hX1 hb1 HG HX
  go_wp2_with fail
  generalize w1.alloc (.cells #[.slice none 0 0] 23) = w2 at *
  refine (packages_any A c l wt WA wn w w2 HX2.out.1.below).mono ?_
  rintro e w3 ⟨rfl, hPF, hb3, hz3⟩
  have hX3 := BX.fr HX2.out.1 (Fr.of_below hb3) (fun k hk h => by have := HX2.out.2.2; omega)
  have hS3 := (hb3.block w1.heap.size (by have := HX2.out.2.2; omega)).trans HX2.out.2.1
  have HX3 := Lib.hid (And.intro hX3 hS3); clear hX3 hS3 c0 d0 d1 d2 d3 d4
  have HZ2 := Lib.hid (And.intro HX2.out.2.2 hz1); clear hz1 HX2
  have HPF := Lib.hid (And.intro hPF (And.intro hb3 hz3)); clear hPF hb3 hz3
  go_wp2_with fail
  have hE : EOk (envOf w A c l wt WA wn w2.heap.size) := ⟨HA.out.kinds, HA.out.rl, HA.out.rw, HGG.out.2.2.2.2.1⟩
  have hseq := packs_iter hE HGG.out.2.2.2.1
  have heg : ∀ args w, (callFunc 69 args).run Tryd.prog w = .ok (.enter 69 args) w := fun _ _ => rfl
  refine wp_rangeB (α := List Int) (w2.heap.size + 3) HPF.out.2.2 (gf := 69) (lb := #[.pointer (some ⟨w2.heap.size + 1, 0, none⟩), .pointer (some ⟨w2.heap.size + 2, 0, none⟩)]) rfl heg hseq
    ?hps (fun k => k = w.heap.size + 3 ∨ k = w.heap.size + 4 ∨ k = w.heap.size + 5 ∨ k = w1.heap.size) (fun W hf => HPF.out.1.fr hf (fun _ _ h => h)) ?hlt ?hown
    (fun i D W => BX w A c l UA uc u wt WA wn none 0 [] W ∧ (∀ x ∈ (packs l wt).take i, brk l u wt x ≠ 0) ∧ ∃ v, W.heap[w1.heap.size]? = some (.cells #[v] 23 (0, 0)) ∧ Row W v (setsI l u wt i) ∧ ∀ g, v.ownBlock = some g → D g)
    (fun cd i D W => cd = .ret ∧ Below w.heap.size w W ∧ w.heap.size + 6 ≤ W.heap.size ∧ ∃ x v, solvP l u wt = some x ∧ W.heap[w.heap.size + 3]? = some (.cells #[v] 23 (0, 0)) ∧ W.heap[w.heap.size + 4]? = some (.cells #[.slice none 0 0] 23 (0, 0)) ∧ W.heap[w.heap.size + 5]? = some (.cells #[.int .i64 0] 42 (0, 0)) ∧ (Kd.int .i64).R 3 W w.heap.size D v x)
    ?hI ?hIx ?h0 (fun i D s x a' W => BX w A c l UA uc u wt WA wn none 0 [] W ∧ (∀ x ∈ (packs l wt).take i, brk l u wt x ≠ 0) ∧ (∃ v, W.heap[w1.heap.size]? = some (.cells #[v] 23 (0, 0)) ∧ Row W v (setsI l u wt i) ∧ ∀ g, v.ownBlock = some g → D g) ∧ ∃ XA xc, (Kd.int .i64).R 3 W s (fun k => s ≤ k) (.slice XA x.length xc) x ∧
      a' = { tmps := #[.slice A l.length c, .slice UA u.length uc, .agg #[.int .i64 wt.te, .int .i64 wt.cl, .int .i64 wt.at_, .int .i64 wt.us, .slice WA wt.needs.length wn], .pointer (some ⟨w.heap.size, 0, none⟩), .pointer (some ⟨w.heap.size + 1, 0, none⟩), .pointer (some ⟨w.heap.size + 1 + 1, 0, none⟩), .pointer (some ⟨w.heap.size + 1 + 1 + 1, 0, none⟩), .pointer (some ⟨w.heap.size + 1 + 1 + 1 + 1, 0, none⟩), .pointer (some ⟨w.heap.size + 1 + 1 + 1 + 1 + 1, 0, none⟩), .pointer (some ⟨w1.heap.size, 0, none⟩), .slice XA x.length xc, undef, undef, undef, undef, .slice A l.length c, .slice UA u.length uc, .agg #[.int .i64 wt.te, .int .i64 wt.cl, .int .i64 wt.at_, .int .i64 wt.us, .slice WA wt.needs.length wn], .bool true, .bool false, .slice A l.length c, .agg #[.int .i64 wt.te, .int .i64 wt.cl, .int .i64 wt.at_, .int .i64 wt.us, .slice WA wt.needs.length wn], .func (.func 69) #[] #[.pointer (some ⟨w2.heap.size + 1, 0, none⟩), .pointer (some ⟨w2.heap.size + 2, 0, none⟩)], .slice XA x.length xc, undef, undef, undef, undef, undef, undef, undef, undef, undef, undef, undef, undef, undef, undef, undef, undef, undef, undef, undef, undef, undef, undef, undef, undef, undef, undef, undef, undef, undef, undef, undef, undef, undef, undef, undef, undef, undef, undef, undef, undef, undef, undef, undef, undef, undef, undef, undef, undef, undef, undef, undef, undef], defers := [] })
    ?hA ?hassign ?hbody ?hdone ?hstop
  case hps => rintro s x args W ⟨v, rfl, _⟩; rfl
  case hlt =>
    have h1 := HZ2.out.1
    have h2 := HZ2.out.2
    rintro k (h | h | h)
    · exact h.elim
    · rcases h with h | rfl | rfl | rfl
      · show k < _; simp only [envOf] at h; omega
      · show w2.heap.size < _; omega
      · show w2.heap.size + 1 < _; omega
      · show w2.heap.size + 2 < _; omega
    · omega
  case hown =>
    have h1 := HZ2.out.1
    have h2 := HZ2.out.2
    rintro k h
    refine ⟨fun h => h, fun hr => ?_⟩
    rcases hr with h' | rfl | rfl | rfl
    · simp only [envOf] at h'; omega
    · simp only [envOf] at h; omega
    · simp only [envOf] at h; omega
    · simp only [envOf] at h; omega
  case hI =>
    have q1 := HZ2.out.1
    have q2 := HZ2.out.2
    rintro i D X Y ⟨h1, h2, v, h3, h4, h5⟩ hs hD hf
    refine ⟨h1.fr hf (fun k hk h => by rcases h with h | h; exact h; omega), h2, v, (hf.block _ (Array.getElem?_eq_some_iff.1 h3).1 (fun h => by rcases h with h | h; exact h; omega)).trans h3, h4.fr hf (fun g hg h => ?_), h5⟩
    rcases h with h | h
    · exact h
    · exact h.2 (h5 g hg)
  case hIx =>
    have q1 := HZ2.out.1
    have q2 := HZ2.out.2
    rintro cd i D X Y ⟨h1, h2, h3, x, v, h4, h5, h6, h7, h8⟩ hs hD hf
    refine ⟨h1, h2.trans (hf.below (fun k hk h => by rcases h with h | h; exact h; omega) h2.size), by have := hf.size; omega, x, v, h4, ?_, ?_, ?_, Kd.R_step h8 (fun k hk hl => hf.block k hl (fun h => by rcases h with h | h; exact h; exact h.2 hk))⟩
    · exact (hf.block _ (by omega) (fun h => by rcases h with h | h; exact h; omega)).trans h5
    · exact (hf.block _ (by omega) (fun h => by rcases h with h | h; exact h; omega)).trans h6
    · exact (hf.block _ (by omega) (fun h => by rcases h with h | h; exact h; omega)).trans h7
  case h0 =>
    intro W hf hz
    refine ⟨HX3.out.1.fr hf (fun _ _ h => h), fun x hx => by simp at hx, _, (hf.block _ (Array.getElem?_eq_some_iff.1 HX3.out.2).1 (fun h => h)).trans HX3.out.2, ?_, fun g hg => by simp [Value.ownBlock] at hg⟩
    exact Row.nil _
  case hA =>
    have q1 := HZ2.out.1
    have q2 := HZ2.out.2
    rintro i D s x a' X Y ⟨h1, h2, ⟨v, h3, h4, h5⟩, XA, xc, h6, h7⟩ hs hsX hD hf hz
    exact ⟨h1.fr hf (fun k hk h => by omega), h2, ⟨v, (hf.block _ (Array.getElem?_eq_some_iff.1 h3).1 (fun h => by omega)).trans h3, h4.fr hf (fun g hg h => by have := hD g (h5 g hg); omega), h5⟩, XA, xc, Kd.R_step h6 (fun k hk hl => hf.block k hl (fun h => by omega)), h7⟩
  case hassign =>
    rintro l' i D s x args W hx ⟨h1, h2, h3⟩ ⟨v, rfl, hR⟩ hs hsW hD
    obtain ⟨XA, xc, rfl, _, _⟩ := Kd.R_reads hR
    have H := Lib.hid (And.intro h1 (And.intro h2 (And.intro h3 hR))); clear h1 h2 h3 hR hx hD hs hsW
    gi_wp2
    exact ⟨Fr.refl _ _, H.out.1, H.out.2.1, H.out.2.2.1, XA, xc, H.out.2.2.2, rfl⟩
  case hbody =>
    rintro l' i D s x a' W hx ⟨h1, h2, ⟨v, h3, h4, h5⟩, XA, xc, hR, rfl⟩ hs hsW hD
    obtain ⟨XA', xc', e, hxc, hXC⟩ := Kd.R_reads hR
    cases e
    have hin : (packs l wt)[i]? = some x := hx
    have hk1 := HA.out.next h1.below
    have hbk := broken_any A c l UA uc u wt WA wn XA xc x W hk1.kinds hk1.rl hk1.ru hk1.rw hXC HGG.out.1 HGG.out.2.1 HGG.out.2.2.1
    unfold wtv at hbk
    have e0 : W.cell? ⟨w.heap.size, 0, none⟩ = some (.slice A l.length c) := cell_of h1.b0 rfl
    have e1 : W.cell? ⟨w.heap.size + 1, 0, none⟩ = some (.slice UA u.length uc) := cell_of h1.b1 rfl
    have d0 : W.cell? ⟨w.heap.size + 2, 0, none⟩ = some (.int .i64 wt.te) := cell_of h1.b2 rfl
    have d1 : W.cell? ⟨w.heap.size + 2, 1, none⟩ = some (.int .i64 wt.cl) := cell_of h1.b2 rfl
    have d2 : W.cell? ⟨w.heap.size + 2, 2, none⟩ = some (.int .i64 wt.at_) := cell_of h1.b2 rfl
    have d3 : W.cell? ⟨w.heap.size + 2, 3, none⟩ = some (.int .i64 wt.us) := cell_of h1.b2 rfl
    have d4 : W.cell? ⟨w.heap.size + 2, 4, none⟩ = some (.slice WA wt.needs.length wn) := cell_of h1.b2 rfl
    have H := Lib.hid (And.intro h1 (And.intro h2 (And.intro hin (And.intro hD (And.intro hs hsW))))); clear h1 h2 hx hin hD hs hsW hk1
    have HV := Lib.hid (And.intro h3 (And.intro h4 h5)); clear h3 h4 h5
    have HXR := Lib.hid (And.intro hR hxc); clear hR hxc hXC
    have HBK := Lib.hid hbk; clear hbk
    gi_wp2_with fail
    refine ⟨trivial, rfl, CallsIn.mono (calls_round l' 0 HBK.out) ?_⟩
    rintro e W1 ⟨rfl, hb1⟩
    clear HBK e0 e1 d0 d1 d2 d3 d4
    have hs1 := H.out.2.2.2.2.1
    have hs2 := H.out.2.2.2.2.2
    have q1 := HZ2.out.1
    have q2 := HZ2.out.2
    have hF1 : Fr (fun k => (k = w.heap.size + 3 ∨ k = w.heap.size + 4 ∨ k = w.heap.size + 5 ∨ k = w1.heap.size) ∨ D k ∨ s ≤ k) W W1 := (Fr.of_below hb1).mono (fun k hk h => by omega)
    have hX1 := H.out.1.fr (Fr.of_below hb1) (fun k hk h => by omega)
    have hV1 := (hb1.block w1.heap.size (Array.getElem?_eq_some_iff.1 HV.out.1).1).trans HV.out.1
    have hV2 := HV.out.2.1.fr (Fr.of_below hb1) (fun g hg h => by have := HV.out.2.1.lt g hg; omega)
    have hR1 := Kd.R_step HXR.out.1 (w1 := W1) (fun k hk hl => hb1.block k hl)
    have hzb := hb1.size
    by_cases hb : brk l u wt x = 0
    · have hfind : solvP l u wt = some x := solv_find H.out.2.2.1 H.out.2.1 hb
      have qz : (((brk l u wt x : Nat) : Int) == 0) = true := by rw [hb]; rfl
      have g3 : W1.cell? ⟨w.heap.size + 3, 0, none⟩ = some (.slice none 0 0) := cell_of hX1.b3 rfl
      have f3 := frozen_of (o := 0) hX1.b3
      have g4 : W1.cell? ⟨w.heap.size + 4, 0, none⟩ = some (.slice none 0 0) := cell_of hX1.b4 rfl
      have f4 := frozen_of (o := 0) hX1.b4
      have g5 : W1.cell? ⟨w.heap.size + 5, 0, none⟩ = some (.int .i64 0) := cell_of hX1.b5 rfl
      have f5 := frozen_of (o := 0) hX1.b5
      have hz6 := (Array.getElem?_eq_some_iff.1 hX1.b5).1
      have HH := Lib.hid (And.intro hF1 (And.intro hX1 (And.intro hR1 (And.intro hb hfind)))); clear hF1 hX1 hR1 hb hfind hV1 hV2 hb1
      generalize brk l u wt x = bx at *
      gi_wp2_with fail
      have hsz : ((W1.setCell ⟨w.heap.size + 1 + 1 + 1, 0, none⟩ (.slice XA x.length xc)).setCell ⟨w.heap.size + 1 + 1 + 1 + 1, 0, none⟩ (.slice none 0 0)).heap.size = W1.heap.size := by simp [World.setCell]
      have hsz2 : (((W1.setCell ⟨w.heap.size + 1 + 1 + 1, 0, none⟩ (.slice XA x.length xc)).setCell ⟨w.heap.size + 1 + 1 + 1 + 1, 0, none⟩ (.slice none 0 0)).setCell ⟨w.heap.size + 1 + 1 + 1 + 1 + 1, 0, none⟩ (.int .i64 0)).heap.size = W1.heap.size := by simp [World.setCell]
      refine ⟨((HH.out.1.setCell _ _ (fun _ => .inl (.inl rfl))).setCell _ _ (fun _ => .inl (.inr (.inl rfl)))).setCell _ _ (fun _ => .inl (.inr (.inr (.inl rfl)))), rfl,
        ((HH.out.2.1.below.setCell (by simp <;> omega) _).setCell (by simp <;> omega) _).setCell (by simp <;> omega) _, by rw [hsz2]; omega, x, .slice XA x.length xc, HH.out.2.2.2.2, ?_, ?_, ?_, ?_⟩
      · exact heap_set_ne (p := ⟨w.heap.size + 1 + 1 + 1 + 1 + 1, 0, none⟩) _ (by simp) (heap_set_ne (p := ⟨w.heap.size + 1 + 1 + 1 + 1, 0, none⟩) _ (by simp) (heap_set (o := 0) _ HH.out.2.1.b3))
      · exact heap_set_ne (p := ⟨w.heap.size + 1 + 1 + 1 + 1 + 1, 0, none⟩) _ (by simp) (heap_set (o := 0) _ (heap_set_ne (p := ⟨w.heap.size + 1 + 1 + 1, 0, none⟩) _ (by simp) HH.out.2.1.b4))
      · exact heap_set (o := 0) _ (heap_set_ne (p := ⟨w.heap.size + 1 + 1 + 1 + 1, 0, none⟩) _ (by simp) (heap_set_ne (p := ⟨w.heap.size + 1 + 1 + 1, 0, none⟩) _ (by simp) HH.out.2.1.b5))
      · refine Kd.R_mono (Kd.R_bound (Kd.R_lower (Kd.R_step HH.out.2.2.1 (fun k hk hl => ?_)) (by omega))) (fun k hk => .inr ⟨hk.1, hk.2.2.1⟩)
        exact ((Below.heap_setCell _ ⟨w.heap.size + 1 + 1 + 1 + 1 + 1, 0, none⟩ _ k (by show k ≠ w.heap.size + 1 + 1 + 1 + 1 + 1; omega)).trans (Below.heap_setCell _ ⟨w.heap.size + 1 + 1 + 1 + 1, 0, none⟩ _ k (by show k ≠ w.heap.size + 1 + 1 + 1 + 1; omega))).trans (Below.heap_setCell _ ⟨w.heap.size + 1 + 1 + 1, 0, none⟩ _ k (by show k ≠ w.heap.size + 1 + 1 + 1; omega))
    · have qz : (((brk l u wt x : Nat) : Int) == 0) = false := by simp; omega
      have hlen : (setsI l u wt i).length + 1 ≤ 1000 := by
        have h1 := packs_len (l := l) HGG.out.2.2.2.2.2
        unfold setsI
        rw [List.length_map, List.length_take]
        omega
      obtain ⟨v1, w5, hap, hr1, hr0, hf2, hat⟩ := app_one (brk l u wt x : Int) 23 hV2 hlen
      have gS : W1.cell? ⟨w1.heap.size, 0, none⟩ = some v := cell_of hV1 rfl
      have hSD : ∀ g, v.ownBlock = some g → w2.heap.size + 3 + 2 ≤ g ∧ g < s := fun g hg => H.out.2.2.2.1 g (HV.out.2.2 g hg)
      have hS5 := (hf2.block w1.heap.size (Array.getElem?_eq_some_iff.1 hV1).1 (fun h => by have := hSD _ h; omega)).trans hV1
      obtain ⟨A1, c1, rfl, _⟩ := hr1.reads
      have hln : (setsI l u wt i ++ [((brk l u wt x : Nat) : Int)]).length = (setsI l u wt i).length + 1 := by simp
      rw [hln] at hap hr1 hat
      have g9 : w5.cell? ⟨w1.heap.size, 0, none⟩ = some v := cell_of hS5 rfl
      have f9 := frozen_of (o := 0) hS5
      have hl9 := (Array.getElem?_eq_some_iff.1 hV1).1
      have hl9' := (Array.getElem?_eq_some_iff.1 hS5).1
      have HAP := Lib.hid hap; clear hap
      have HQ := Lib.hid (And.intro hF1 (And.intro hX1 (And.intro hr1 (And.intro hf2 (And.intro hat (And.intro hS5 hb)))))); clear hF1 hX1 hr1 hr0 hf2 hat hb hV1 hV2 hS5 hR1 hb1 hlen hln
      gi_wp2_with (gi_at_builtin; refine wpListIn_append_run (.tmp 32) (.tmp 34) 23 rfl rfl _ _ rfl rfl HAP.out ?_)
      have hsi := setsI_succ (u := u) H.out.2.2.1
      have hz5 := HQ.out.2.2.2.1.size
      refine ⟨(HQ.out.1.trans (HQ.out.2.2.2.1.mono (fun k hk h => .inr (.inl (HV.out.2.2 k h))))).setCell _ _ (fun _ => .inl (.inr (.inr (.inr rfl)))), ?_, ?_, _, heap_set (o := 0) _ HQ.out.2.2.2.2.2.1, ?_, ?_⟩
      · exact (HQ.out.2.1.fr HQ.out.2.2.2.1 (fun k hk h => by have := hSD k h; omega)).fr ((Fr.refl (fun k => k = w1.heap.size) w5).setCell ⟨w1.heap.size, 0, none⟩ (.slice A1 ((setsI l u wt i).length + 1) c1) (fun _ => rfl)) (fun k hk h => by omega)
      · intro y hy
        obtain ⟨hi, hxe⟩ := List.getElem?_eq_some_iff.1 H.out.2.2.1
        rw [List.take_succ_eq_append_getElem hi, List.mem_append] at hy
        rcases hy with hy | hy
        · exact H.out.2.1 y hy
        · rw [List.mem_singleton.1 hy, hxe]
          exact HQ.out.2.2.2.2.2.2
      · rw [hsi]
        refine HQ.out.2.2.1.fr ((Fr.refl (fun k => k = w1.heap.size) w5).setCell ⟨w1.heap.size, 0, none⟩ (.slice A1 ((setsI l u wt i).length + 1) c1) (fun _ => rfl)) (fun g hg h => ?_)
        rcases HQ.out.2.2.2.2.1 with ⟨e, _⟩ | ⟨b, e, hb⟩
        · rw [e] at hg
          have := hSD g hg
          omega
        · rw [e] at hg
          have := Option.some.inj hg
          omega
      · intro g hg
        rcases HQ.out.2.2.2.2.1 with ⟨e, _⟩ | ⟨b, e, hb⟩
        · rw [e] at hg
          exact .inl (HV.out.2.2 g hg)
        · have hl := HQ.out.2.2.1.lt g hg
          rw [e] at hg
          have := Option.some.inj hg
          exact .inr ⟨by omega, by simp [World.setCell]; omega⟩
  case hdone =>
    rintro D W ⟨h1, h2, v, h3, h4, h5⟩ hz hDm
    have q1 : w1.heap.size + 1 ≤ w2.heap.size := Nat.le_of_eq HZ2.out.1.symm
    have q1' : w2.heap.size ≤ w1.heap.size + 1 := Nat.le_of_eq HZ2.out.1
    have q2 := HZ2.out.2
    have h2' : ∀ x ∈ packs l wt, brk l u wt x ≠ 0 := fun x hx => h2 x (show x ∈ (packs l wt).take (packs l wt).length by rw [List.take_length]; exact hx)
    have h4' : Row W v ((sets l u wt).map Int.ofNat) := by
      have e : setsI l u wt (packs l wt).length = (sets l u wt).map Int.ofNat := by unfold setsI sets; rw [List.take_length, List.map_map]; rfl
      rw [← e]; exact h4
    have hnone : solvP l u wt = none := by
      unfold solvP
      rw [List.find?_eq_none]
      intro x hx
      simpa using h2' x hx
    obtain ⟨SA, sc, rfl, hSC⟩ := h4'.reads
    have e0 : W.cell? ⟨w.heap.size, 0, none⟩ = some (.slice A l.length c) := cell_of h1.b0 rfl
    have hl12 := HGG.out.1
    have H := Lib.hid (And.intro h1 (And.intro hnone (And.intro h3 (And.intro hSC hDm)))); clear h1 h2 h2' h3 h4 h4' h5 hnone hSC hDm
    have hsh := wrap_pow hl12
    have hN12 : 2 ^ l.length ≤ 2 ^ 12 := Nat.pow_le_pow_right (by decide) hl12
    have hss : ∀ s ∈ sets l u wt, s < 2 ^ 62 := by
      intro s hs
      obtain ⟨p, _, rfl⟩ := List.mem_map.1 hs
      have hb := bits_lt (l.map (forb u wt p))
      rw [List.length_map] at hb
      exact Nat.lt_of_lt_of_le hb (Nat.pow_le_pow_right (by decide) (by omega))
    have HSS := Lib.hid hss; clear hss
    have hbest : bestOf (sets l u wt) (2 ^ l.length) = bestOf (sets l u wt) (2 ^ l.length) := rfl
    generalize hN : 2 ^ l.length = N at *
    have HN := Lib.hid hN; clear hN hbest
    have hN4 : N ≤ 4096 := hN12
    clear hN12
    have HSH := Lib.hid hsh; clear hsh
    simp only [Exit.inBlock, Exit.then]
    go_wp2_with fail
    rw [HSH.out]
    go_loopw [12, 39] (fun bv iv wr => ∃ k : Nat, k ≤ N ∧ iv = .int .i64 k ∧ Hid (BV w W.heap.size wr bv (bestOf (sets l u wt) k)) ∧ Hid (Below W.heap.size W wr)) (fun bv iv wr => N - (intOf iv).toNat)
    case atStart => exact ⟨0, Nat.zero_le _, rfl, Lib.hid rfl, Lib.hid (Below.refl _ _)⟩
    case round =>
      obtain ⟨k, hk, rfl, HBV, HBL⟩ := hrel
      by_cases hkN : k < N
      · have hkI : (k : Int) < (N : Int) := by omega
        have hix := indices_any k (by omega) wr
        have HIX := Lib.hid hix; clear hix
        go_wp2_with fail
        refine HIX.out.mono ?_
        rintro e w5 ⟨cv, rfl, hcR, hcB⟩
        clear HIX
        obtain ⟨CA, cc, rfl, hcc, hcC⟩ := Kd.R_reads hcR
        have hbl5 : Below W.heap.size W w5 := HBL.out.trans (hcB.mono HBL.out.size)
        have e9 : w5.cell? ⟨w1.heap.size, 0, none⟩ = some (.slice SA (sets l u wt).length sc) := by
          have := pw_cell_below hbl5 (cell_of (o := 0) (v := .slice SA ((sets l u wt).map Int.ofNat).length sc) H.out.2.2.1 rfl)
          rwa [List.length_map] at this
        have hSC5 : (Kd.int .i64).C w5 SA (sets l u wt).length ((sets l u wt).map Int.ofNat) := by
          have := Kd.C_below H.out.2.2.2.1 hbl5
          rwa [List.length_map] at this
        have hhit := hits_any k (by omega) SA sc (sets l u wt) HSS.out w5 hSC5
        have hbv5 := HBV.out.below hcB
        have hstep := bestOf_succ (sets l u wt) k
        unfold bestStep at hstep
        generalize hCO : idxs k = core at *
        have HCO := Lib.hid hCO
        have HCR := Lib.hid (And.intro hcR (And.intro hcc hcC)); clear hcR hcC hCO
        have HHIT := Lib.hid hhit; clear hhit hSC5
        have hcm : core.length ≤ 9223372036854775807 := HCR.out.2.2.2.1
        have hcl : core.length ≤ 12 := by rw [← HCO.out]; unfold idxs; rw [List.length_map]; exact Nat.le_trans (List.length_filter_le _ _) (by simp)
        generalize (sets l u wt).all (hitB k) = hb at *
        generalize bestOf (sets l u wt) k = best at *
        have HST := Lib.hid hstep; clear hstep
        have HBV5 := Lib.hid hbv5; clear hbv5 HBV hcB
        have HBL5 := Lib.hid hbl5; clear hbl5 HBL
        go_wp2_with fail
        refine HHIT.out.mono ?_
        rintro e w6 ⟨rfl, hb6⟩
        clear HHIT
        have HBV6 := Lib.hid (HBV5.out.below hb6); clear HBV5
        have HBL6 := Lib.hid (HBL5.out.trans (hb6.mono HBL5.out.size)); clear HBL5
        have hC6 := Kd.C_below HCR.out.2.2 hb6
        have hR6 := Kd.R_below HCR.out.1 hb6
        clear hb6 e9
        have hox : ∀ w8 : World, Below w6.heap.size w6 w8 → (Kd.int .i64).R 3 (w8.alloc (.cells #[] 3)) w.heap.size (fun k => W.heap.size ≤ k) (.slice (some ⟨w8.heap.size, 0, none⟩) 0 0) [] ∧ (Kd.int .i64).C (w8.alloc (.cells #[] 3)) CA core.length core ∧
            w.heap.size ≤ (w8.alloc (.cells #[] 3)).heap.size ∧ Below w.heap.size w (w8.alloc (.cells #[] 3)) ∧ Below W.heap.size W (w8.alloc (.cells #[] 3)) ∧ W.heap.size ≤ (w8.alloc (.cells #[] 3)).heap.size ∧ ∀ g, (Value.slice (some ⟨w8.heap.size, 0, none⟩) 0 0).ownBlock = some g → W.heap.size ≤ g := fun w8 hb8 => by
          have hbl8 := HBL6.out.trans (hb8.mono HBL6.out.size)
          have hb7 : Below w8.heap.size w8 (w8.alloc (.cells #[] 3)) := (Below.refl _ _).alloc (Nat.le_refl _) _
          have hbase : w.heap.size ≤ w8.heap.size := Nat.le_trans H.out.1.below.size hbl8.size
          refine ⟨Kd.R_of_own (own_lit w8 w.heap.size 3 .i64 [] hbase (by simp)) (fun k hk => by have := hbl8.size; simp [Value.ownBlock] at hk; omega), Kd.C_below (Kd.C_below hC6 hb8) hb7, Nat.le_trans hbase hb7.size, (H.out.1.below.trans (hbl8.mono H.out.1.below.size)).trans (hb7.mono hbase), hbl8.trans (hb7.mono hbl8.size), Nat.le_trans hbl8.size hb7.size, fun g hg => ?_⟩
          have := hbl8.size
          simp [Value.ownBlock] at hg
          omega
        have HOXF := Lib.hid hox; clear hox
        have HCL := Lib.hid hcl
        have HC6 := Lib.hid (And.intro hC6 hR6)
        clear hC6 hR6 hcl
        cases hb with
        | false =>
          go_wp2_with fail
          go_roundw
          case rel => exact ⟨k + 1, by omega, by go_num, Lib.hid (by rw [HST.out]; rw [if_neg (by simp)]; exact HBV6.out), HBL6⟩
          case measure => simp [intOf]; omega
        | true =>
          cases best with
          | none =>
            obtain rfl : _ = Value.slice none 0 0 := HBV6.out
            have heq : ∀ W, (binOp .eql 23 (.slice none 0 0) (.slice none 0 0)).run Tryd.prog W = .ok (.bool true) W := fun W => Lib.run_eql_slice_nil W 23 3 none 0 0 0 0 Tryd.underlying23
            have HOX := Lib.hid (HOXF.out w6 (Below.refl _ _)); clear HOXF
            go_wp2_with (at_builtin; refine Kd.R_append_rows (Kd.int .i64) (w0 := w) (Rr := fun x cs => cs = [.int .i64 x]) w.heap.size rfl (.tmp 71) (.tmp 72) 23 3 (.int .i64 0) 8 rfl Tryd.underlying23 info3 rfl (by decide) (by decide) _ [] core CA core.length cc (fun k => W.heap.size ≤ k) (fun _ => False) rfl rfl HOX.out.1 HOX.out.2.1 (fun _ _ h => h) (fun _ h => h.elim) (fun k hk => Nat.le_trans HOX.out.2.2.2.2.2.1 hk) HOX.out.2.2.2.1 HOX.out.2.2.1 (by simp only [List.length_nil]; have := HCL.out; omega) ?_; intro v1 w7 h1 h2 h3 h4)
            rw [List.nil_append] at h1
            obtain ⟨A7, c7, rfl, hc7, _⟩ := Kd.R_reads h1
            obtain ⟨ad7, rfl⟩ : ∃ ad, A7 = some ad := by
              cases A7 with
              | none => exact absurd (h4.elim (fun h => (show (none : Option Nat) = some _ from h)) (fun ⟨b, h, _⟩ => (show (none : Option Nat) = some b from h) ▸ nomatch h)) (by simp)
              | some ad => exact ⟨ad, rfl⟩
            have hbl7 := pw_below_grown HOX.out.2.2.2.2.1 _ HOX.out.2.2.2.2.2.1 h3 (fun g hg => by have := HOX.out.2.2.2.2.2.2 g hg; omega)
            have HF := Lib.hid (And.intro h1 (And.intro hc7 hbl7)); clear h1 h2 h3 h4 hc7 hbl7
            go_wp2_with fail
            go_roundw
            case rel => exact ⟨k + 1, by omega, by go_num, Lib.hid (by rw [HST.out]; rw [if_pos (by simp [better])]; exact ⟨ad7, c7, rfl, HF.out.2.1, HF.out.1⟩), Lib.hid HF.out.2.2⟩
            case measure => simp [intOf]; omega
          | some b =>
            obtain ⟨bad, bc, e, hbc, hbR⟩ := HBV6.out
            subst e
            obtain ⟨BA', bc', e, hbc2, hbC⟩ := Kd.R_reads hbR
            cases e
            have hbm := max_len hbC
            have heq : ∀ W, (binOp .eql 23 (.slice (some bad) b.length bc) (.slice none 0 0)).run Tryd.prog W = .ok (.bool false) W := fun W => Lib.run_eql_slice_nil W 23 3 (some bad) b.length bc 0 0 Tryd.underlying23
            have hcmp := compare_any CA cc core (some bad) bc b w6 HC6.out.1 HCR.out.2.1 hbC hbc
            have HBR := Lib.hid (And.intro hbc hbR); clear hbc hbR hbC hbc2
            have HCMP := Lib.hid hcmp; clear hcmp
            by_cases c1 : core.length < b.length
            · have q1 : decide (core.length < b.length) = true := by simpa using c1
              have HC1 := Lib.hid c1; clear c1 HCMP
              have HOX := Lib.hid (HOXF.out w6 (Below.refl _ _)); clear HOXF
              go_wp2_with (at_builtin; refine Kd.R_append_rows (Kd.int .i64) (w0 := w) (Rr := fun x cs => cs = [.int .i64 x]) w.heap.size rfl (.tmp 71) (.tmp 72) 23 3 (.int .i64 0) 8 rfl Tryd.underlying23 info3 rfl (by decide) (by decide) _ [] core CA core.length cc (fun k => W.heap.size ≤ k) (fun _ => False) rfl rfl HOX.out.1 HOX.out.2.1 (fun _ _ h => h) (fun _ h => h.elim) (fun k hk => Nat.le_trans HOX.out.2.2.2.2.2.1 hk) HOX.out.2.2.2.1 HOX.out.2.2.1 (by simp only [List.length_nil]; have := HCL.out; omega) ?_; intro v1 w7 h1 h2 h3 h4)
              rw [List.nil_append] at h1
              obtain ⟨A7, c7, rfl, hc7, _⟩ := Kd.R_reads h1
              obtain ⟨ad7, rfl⟩ : ∃ ad, A7 = some ad := by
                cases A7 with
                | none => exact absurd (h4.elim (fun h => (show (none : Option Nat) = some _ from h)) (fun ⟨b, h, _⟩ => (show (none : Option Nat) = some b from h) ▸ nomatch h)) (by simp)
                | some ad => exact ⟨ad, rfl⟩
              have hbl7 := pw_below_grown HOX.out.2.2.2.2.1 _ HOX.out.2.2.2.2.2.1 h3 (fun g hg => by have := HOX.out.2.2.2.2.2.2 g hg; omega)
              have HF := Lib.hid (And.intro h1 (And.intro hc7 hbl7)); clear h1 h2 h3 h4 hc7 hbl7
              go_wp2_with fail
              go_roundw
              case rel => exact ⟨k + 1, by omega, by go_num, Lib.hid (by rw [HST.out]; rw [if_pos (by simp [better]; exact .inl HC1.out)]; exact ⟨ad7, c7, rfl, HF.out.2.1, HF.out.1⟩), Lib.hid HF.out.2.2⟩
              case measure => simp [intOf]; omega
            · have q1 : decide (core.length < b.length) = false := by simpa using c1
              by_cases c2 : core.length = b.length
              · have q2 : ((core.length : Int) == (b.length : Int)) = true := by simp [c2]
                have HC1 := Lib.hid c1; clear c1
                have HC2 := Lib.hid c2; clear c2
                generalize hlx : lexC core b = lx at *
                have HLX := Lib.hid hlx; clear hlx
                go_wp2_with fail
                refine HCMP.out.mono ?_
                rintro e w8 ⟨rfl, hb8⟩
                clear HCMP
                have HOX := Lib.hid (HOXF.out w8 hb8); clear HOXF
                have HBV8 := Lib.hid (HBV6.out.below hb8); clear HBV6
                have HBL8 := Lib.hid (HBL6.out.trans (hb8.mono HBL6.out.size)); clear HBL6 hb8
                by_cases c3 : lx < 0
                · have q3 : decide (lx < 0) = true := by simpa using c3
                  have HC3 := Lib.hid c3; clear c3
                  go_wp2_with (at_builtin; refine Kd.R_append_rows (Kd.int .i64) (w0 := w) (Rr := fun x cs => cs = [.int .i64 x]) w.heap.size rfl (.tmp 71) (.tmp 72) 23 3 (.int .i64 0) 8 rfl Tryd.underlying23 info3 rfl (by decide) (by decide) _ [] core CA core.length cc (fun k => W.heap.size ≤ k) (fun _ => False) rfl rfl HOX.out.1 HOX.out.2.1 (fun _ _ h => h) (fun _ h => h.elim) (fun k hk => Nat.le_trans HOX.out.2.2.2.2.2.1 hk) HOX.out.2.2.2.1 HOX.out.2.2.1 (by simp only [List.length_nil]; have := HCL.out; omega) ?_; intro v1 w7 h1 h2 h3 h4)
                  rw [List.nil_append] at h1
                  obtain ⟨A7, c7, rfl, hc7, _⟩ := Kd.R_reads h1
                  obtain ⟨ad7, rfl⟩ : ∃ ad, A7 = some ad := by
                    cases A7 with
                    | none => exact absurd (h4.elim (fun h => (show (none : Option Nat) = some _ from h)) (fun ⟨b, h, _⟩ => (show (none : Option Nat) = some b from h) ▸ nomatch h)) (by simp)
                    | some ad => exact ⟨ad, rfl⟩
                  have hbl7 := pw_below_grown HOX.out.2.2.2.2.1 _ HOX.out.2.2.2.2.2.1 h3 (fun g hg => by have := HOX.out.2.2.2.2.2.2 g hg; omega)
                  have HF := Lib.hid (And.intro h1 (And.intro hc7 hbl7)); clear h1 h2 h3 h4 hc7 hbl7
                  go_wp2_with fail
                  go_roundw
                  case rel => exact ⟨k + 1, by omega, by go_num, Lib.hid (by rw [HST.out]; rw [if_pos (by simp [better]; exact .inr ⟨by exact_mod_cast HC2.out, by rw [HLX.out]; exact HC3.out⟩)]; exact ⟨ad7, c7, rfl, HF.out.2.1, HF.out.1⟩), Lib.hid HF.out.2.2⟩
                  case measure => simp [intOf]; omega
                · have q3 : decide (lx < 0) = false := by simpa using c3
                  have HC3 := Lib.hid c3; clear c3
                  go_wp2_with fail
                  go_roundw
                  case rel => exact ⟨k + 1, by omega, by go_num, Lib.hid (by rw [HST.out]; rw [if_neg (by simp [better]; exact ⟨Nat.le_of_not_lt HC1.out, fun _ => by rw [HLX.out]; first | exact HC3.out | exact Int.not_lt.1 HC3.out⟩)]; exact HBV8.out), HBL8⟩
                  case measure => simp [intOf]; omega
              · have q2 : ((core.length : Int) == (b.length : Int)) = false := by simp; omega
                have HC1 := Lib.hid c1; clear c1
                have HC2 := Lib.hid c2; clear c2 HCMP
                go_wp2_with fail
                go_roundw
                case rel => exact ⟨k + 1, by omega, by go_num, Lib.hid (by rw [HST.out]; rw [if_neg (by simp [better]; exact ⟨Nat.le_of_not_lt HC1.out, fun h => absurd (Int.ofNat_inj.1 h) HC2.out⟩)]; exact HBV6.out), HBL6⟩
                case measure => simp [intOf]; omega
      · obtain rfl : k = N := by omega
        have hkI : decide ((k : Int) < (k : Int)) = false := by simp
        clear hkN
        have hXr := H.out.1.fr (Fr.of_below HBL.out) (fun k hk h => by have := (Array.getElem?_eq_some_iff.1 H.out.1.b5).1; omega)
        have g3 : wr.cell? ⟨w.heap.size + 3, 0, none⟩ = some (.slice none 0 0) := cell_of hXr.b3 rfl
        have f3 := frozen_of (o := 0) hXr.b3
        have g4 : wr.cell? ⟨w.heap.size + 4, 0, none⟩ = some (.slice none 0 0) := cell_of hXr.b4 rfl
        have f4 := frozen_of (o := 0) hXr.b4
        have g5 : wr.cell? ⟨w.heap.size + 5, 0, none⟩ = some (.int .i64 0) := cell_of hXr.b5 rfl
        have f5 := frozen_of (o := 0) hXr.b5
        have hz6 := (Array.getElem?_eq_some_iff.1 hXr.b5).1
        have HXr := Lib.hid hXr; clear hXr
        generalize hbo : bestOf (sets l u wt) k = bo at *
        have HBO := Lib.hid hbo; clear hbo
        obtain ⟨BP, bc, hbv, hR⟩ : ∃ BP bc, u12 = .slice BP (bo.getD []).length bc ∧ (Kd.int .i64).R 3 wr w.heap.size (fun k => W.heap.size ≤ k) (.slice BP (bo.getD []).length bc) (bo.getD []) := by
          cases bo with
          | none => exact ⟨none, 0, HBV.out, Kd.R_nil _ _ _ _ _⟩
          | some b =>
            obtain ⟨ad, c, h1, _, h3⟩ := HBV.out
            exact ⟨some ad, c, h1, h1 ▸ h3⟩
        subst hbv
        have s1 : solve1 l u wt = [] := by simp [solve1, HGG.out.2.2.2.2.2, H.out.2.1]
        have s2 : solve2 l u wt = bo.getD [] := by simp [solve2, HGG.out.2.2.2.2.2, H.out.2.1, HN.out, HBO.out]
        have s3 : solveE l u wt = 0 := by simp [solveE, HGG.out.2.2.2.2.2]
        have HS := Lib.hid (And.intro s1 (And.intro s2 s3)); clear s1 s2 s3
        have HR := Lib.hid hR; clear hR
        generalize bo.getD [] = bl at *
        go_wp2_with fail
        have hb3 := heap_set_ne (p := ⟨w.heap.size + 1 + 1 + 1 + 1 + 1, 0, none⟩) (.int .i64 0) (by simp) (heap_set_ne (p := ⟨w.heap.size + 1 + 1 + 1 + 1, 0, none⟩) (.slice BP bl.length bc) (by simp) (heap_set (o := 0) (.slice none 0 0) HXr.out.b3))
        have hb4 := heap_set_ne (p := ⟨w.heap.size + 1 + 1 + 1 + 1 + 1, 0, none⟩) (.int .i64 0) (by simp) (heap_set (o := 0) (.slice BP bl.length bc) (heap_set_ne (p := ⟨w.heap.size + 1 + 1 + 1, 0, none⟩) (.slice none 0 0) (by simp) HXr.out.b4))
        have hb5 := heap_set (o := 0) (.int .i64 0) (heap_set_ne (p := ⟨w.heap.size + 1 + 1 + 1 + 1, 0, none⟩) (.slice BP bl.length bc) (by simp) (heap_set_ne (p := ⟨w.heap.size + 1 + 1 + 1, 0, none⟩) (.slice none 0 0) (by simp) HXr.out.b5))
        have hDW := (HBL.out.block _ (Array.getElem?_eq_some_iff.1 H.out.2.2.2.2).1).trans H.out.2.2.2.2
        have hDm2 := heap_set_ne (p := ⟨w.heap.size + 1 + 1 + 1 + 1 + 1, 0, none⟩) (.int .i64 0) (by show w2.heap.size + 3 ≠ w.heap.size + 1 + 1 + 1 + 1 + 1; omega) (heap_set_ne (p := ⟨w.heap.size + 1 + 1 + 1 + 1, 0, none⟩) (.slice BP bl.length bc) (by show w2.heap.size + 3 ≠ w.heap.size + 1 + 1 + 1 + 1; omega) (heap_set_ne (p := ⟨w.heap.size + 1 + 1 + 1, 0, none⟩) (.slice none 0 0) (by show w2.heap.size + 3 ≠ w.heap.size + 1 + 1 + 1; omega) hDW))
        have hbl := ((HXr.out.below.setCell (p := ⟨w.heap.size + 1 + 1 + 1, 0, none⟩) (by simp <;> omega) (.slice none 0 0)).setCell (p := ⟨w.heap.size + 1 + 1 + 1 + 1, 0, none⟩) (by simp <;> omega) (.slice BP bl.length bc)).setCell (p := ⟨w.heap.size + 1 + 1 + 1 + 1 + 1, 0, none⟩) (by simp <;> omega) (.int .i64 0)
        refine leave_mark (v := .tuple #[.slice none 0 0, .slice BP bl.length bc, .int .i64 0]) hDm2 (fun W' hf hz => ?_)
        have g3 := cell_of (o := 0) ((hf.block _ (Array.getElem?_eq_some_iff.1 hb3).1 (by omega)).trans hb3) rfl
        have g4 := cell_of (o := 0) ((hf.block _ (Array.getElem?_eq_some_iff.1 hb4).1 (by omega)).trans hb4) rfl
        have g5 := cell_of (o := 0) ((hf.block _ (Array.getElem?_eq_some_iff.1 hb5).1 (by omega)).trans hb5) rfl
        refine ⟨by simp [results, Tryd.results20, go_sem, g3, g4, g5], _, _, by rw [HS.out.2.2], by rw [HS.out.1]; exact Kd.R_nil _ _ _ _ _, ?_, hbl.trans (hf.below (fun k hk => by omega) hbl.size)⟩
        rw [HS.out.2.1]
        have hmz := (Array.getElem?_eq_some_iff.1 H.out.2.2.2.2).1
        refine Kd.R_mono (Kd.R_step (Kd.R_step HR.out (fun k hk hl => ?_)) (fun k hk hl => hf.block k hl (by omega))) (fun k hk => by omega)
        exact ((Below.heap_setCell _ ⟨w.heap.size + 1 + 1 + 1 + 1 + 1, 0, none⟩ _ k (by show k ≠ w.heap.size + 1 + 1 + 1 + 1 + 1; omega)).trans (Below.heap_setCell _ ⟨w.heap.size + 1 + 1 + 1 + 1, 0, none⟩ _ k (by show k ≠ w.heap.size + 1 + 1 + 1 + 1; omega))).trans (Below.heap_setCell _ ⟨w.heap.size + 1 + 1 + 1, 0, none⟩ _ k (by show k ≠ w.heap.size + 1 + 1 + 1; omega))
  case hstop =>
    rintro cd i x D W hx ⟨rfl, h1, h2, x', v, h3, h4, h5, h6, h7⟩ hz hDm
    have q1 := HZ2.out.1
    have q2 := HZ2.out.2
    go_wp2
    obtain ⟨A2, c2, rfl⟩ := Kd.R_slice h7
    have s1 : solve1 l u wt = x' := by simp [solve1, HGG.out.2.2.2.2.2, h3]
    have s2 : solve2 l u wt = [] := by simp [solve2, HGG.out.2.2.2.2.2, h3]
    have s3 : solveE l u wt = 0 := by simp [solveE, HGG.out.2.2.2.2.2]
    refine leave_mark (v := .tuple #[.slice A2 x'.length c2, .slice none 0 0, .int .i64 0]) hDm (fun W' hf hz' => ?_)
    have g3 := cell_of (o := 0) ((hf.block _ (Array.getElem?_eq_some_iff.1 h4).1 (by omega)).trans h4) rfl
    have g4 := cell_of (o := 0) ((hf.block _ (Array.getElem?_eq_some_iff.1 h5).1 (by omega)).trans h5) rfl
    have g5 := cell_of (o := 0) ((hf.block _ (Array.getElem?_eq_some_iff.1 h6).1 (by omega)).trans h6) rfl
    refine ⟨by simp [results, Tryd.results20, go_sem, g3, g4, g5], _, _, by rw [s3], ?_, by rw [s2]; exact Kd.R_nil _ _ _ _ _, h1.trans (hf.below (fun k hk => by omega) h1.size)⟩
    rw [s1]
    refine Kd.R_mono (Kd.R_move (Kd.R_bound h7) (fun k hk => hf.block k hk.2.2.1 (fun e => ?_))) (fun k hk => hk.2.1)
    obtain ⟨_, _, _, q, _, cells, hc⟩ := hk
    subst e
    rw [hDm] at hc
    cases hc
end Go.Proofs.YtnabgijdbcdpmaaDoor

namespace Go.Proofs.YtnabgijdbcdpmaaDoor
open Go.RowKit Go.Rg Go.Proofs.YtnabgijdbcdpmaaDoor.PRightsMatchesReference Go.Proofs.YtnabgijdbcdpmaaDoorW.PrintWords
set_option linter.unusedVariables false
set_option linter.unusedSimpArgs false
attribute [local go_sem] Oper.semAt_some

theorem Solve_any (A : Option Addr) (c : Nat) (l : List Cl) (UA : Option Addr) (uc : Nat) (u : List Int) (wt : Wt) (WA : Option Addr) (wn : Nat) (w : World) (hA : Args w A c l UA uc u wt WA wn) :
    Calls Tryd.prog 20 #[.slice A l.length c, .slice UA u.length uc, wtv wt WA wn] w (SolvePost l u wt w) := by
  cases hg : givenB l u wt with
  | false => exact Solve_no A c l UA uc u wt WA wn w hA hg
  | true => exact Solve_yes A c l UA uc u wt WA wn w hA hg

/-- The clauses of a core as bits. -/
def maskOf (p : List Int) : Nat := p.foldl (fun m i => m ||| 2 ^ i.toNat) 0
def coreOk (l : List Cl) (p : List Int) : Bool := p.all fun i => inR i 0 ((l.length : Int) - 1)
def packsHit (l : List Cl) (u : List Int) (wt : Wt) (m : Nat) : Bool := (packs l wt).all fun x => decide (brk l u wt x &&& m ≠ 0)
/-- What Forbids answers. -/
def forbB (l : List Cl) (u : List Int) (wt : Wt) (p : List Int) : Bool := givenB l u wt && (rising p && (coreOk l p && packsHit l u wt (maskOf p)))
theorem maskOf_take_succ {p : List Int} {k : Nat} (h : k < p.length) : maskOf (p.take (k + 1)) = maskOf (p.take k) ||| 2 ^ (p[k]).toNat := by
  unfold maskOf
  rw [List.take_succ_eq_append_getElem h, List.foldl_append]; rfl
theorem maskOf_lt {p : List Int} (h : ∀ i ∈ p, 0 ≤ i ∧ i ≤ 11) : maskOf p < 2 ^ 12 := by
  unfold maskOf
  have : ∀ (p : List Int) (m : Nat), (∀ i ∈ p, 0 ≤ i ∧ i ≤ 11) → m < 2 ^ 12 → p.foldl (fun m i => m ||| 2 ^ i.toNat) m < 2 ^ 12 := by
    intro p
    induction p with
    | nil => intro m _ h; exact h
    | cons a r ih =>
      intro m h hm
      refine ih _ (fun i hi => h i (List.mem_cons_of_mem _ hi)) (Nat.or_lt_two_pow hm (Nat.pow_lt_pow_right (by decide) ?_))
      have := h a List.mem_cons_self
      omega
  exact this p 0 h (by decide)
theorem or_shl2 {m k : Nat} (h : m < 2 ^ 12) (hk : k < 12) : Go.bits .or .i64 (m : Int) (wrap64 (2 ^ k)) = ((m ||| 2 ^ k : Nat) : Int) := by
  have hpl : 2 ^ k < 2 ^ 12 := Nat.pow_lt_pow_right (by decide) hk
  rw [wrap_pow (by omega), or_nat m (2 ^ k) (by omega) (Nat.lt_trans hpl (by decide))]

/-- Behind the boxes of Forbids' arguments and result. -/
structure FX (w : World) (A : Option Addr) (c : Nat) (l : List Cl) (UA : Option Addr) (uc : Nat) (u : List Int) (wt : Wt) (WA : Option Addr) (wn : Nat) (W : World) : Prop where
  below : Below w.heap.size w W
  b0 : W.heap[w.heap.size]? = some (.cells #[.slice A l.length c] 24 (0, 0))
  b1 : W.heap[w.heap.size + 1]? = some (.cells #[.slice UA u.length uc] 23 (0, 0))
  b2 : W.heap[w.heap.size + 2]? = some (.cells (wtc wt WA wn) 29 (0, 0))
  b3 : W.heap[w.heap.size + 3]? = some (.cells #[.bool false] 4 (0, 0))
theorem FX.fr {w : World} {A : Option Addr} {c : Nat} {l : List Cl} {UA : Option Addr} {uc : Nat} {u : List Int} {wt : Wt} {WA : Option Addr} {wn : Nat} {W W1 : World} {S : Nat → Prop} (h : FX w A c l UA uc u wt WA wn W) (hf : Fr S W W1) (hS : ∀ k, k < w.heap.size + 4 → ¬ S k) : FX w A c l UA uc u wt WA wn W1 :=
  have z := (Array.getElem?_eq_some_iff.1 h.b3).1
  ⟨h.below.trans (hf.below (fun k hk => hS k (by omega)) h.below.size), (hf.block _ (by omega) (hS _ (by omega))).trans h.b0, (hf.block _ (by omega) (hS _ (by omega))).trans h.b1, (hf.block _ (by omega) (hS _ (by omega))).trans h.b2, (hf.block _ (by omega) (hS _ (by omega))).trans h.b3⟩
theorem FX.mk0 (w : World) (A : Option Addr) (c : Nat) (l : List Cl) (UA : Option Addr) (uc : Nat) (u : List Int) (wt : Wt) (WA : Option Addr) (wn : Nat) :
    FX w A c l UA uc u wt WA wn ((((w.alloc (.cells #[.slice A l.length c] 24)).alloc (.cells #[.slice UA u.length uc] 23)).alloc (.cells (wtc wt WA wn) 29)).alloc (.cells #[.bool false] 4)) ∧
    ((((w.alloc (.cells #[.slice A l.length c] 24)).alloc (.cells #[.slice UA u.length uc] 23)).alloc (.cells (wtc wt WA wn) 29)).alloc (.cells #[.bool false] 4)).heap.size = w.heap.size + 4 :=
  ⟨⟨((((Below.refl _ _).alloc (Nat.le_refl _) _).alloc (by simp) _).alloc (by simp; omega) _).alloc (by simp; omega) _,
   heap_old (heap_old (heap_old (heap_new rfl))), heap_old (heap_old (heap_new (by simp))), heap_old (heap_new (by simp)), heap_new (by simp)⟩, by simp⟩

theorem core_clo (A : Option Addr) (c : Nat) (l : List Cl) (PA : Option Addr) (pc : Nat) (p : List Int) (w W : World) (hl : l.length ≤ 9223372036854775807) (hb : W.heap[w.heap.size]? = some (.cells #[.slice A l.length c] 24 (0, 0))) (hp : (Kd.int .i64).C W PA p.length p) :
    Calls Tryd.prog 43 #[.slice PA p.length pc, .func (.func 57) #[] #[.pointer (some ⟨w.heap.size, 0, none⟩)]] W fun e w' => e = .returned (.bool (coreOk l p)) ∧ Below W.heap.size W w' :=
  allI_any 57 #[.pointer (some ⟨w.heap.size, 0, none⟩)] (fun _ _ => rfl) (fun i => inR i 0 ((l.length : Int) - 1)) PA pc p W hp (fun k hk W1 hW1 => by
    show Calls Tryd.prog 57 #[.int .i64 p[k], .pointer (some ⟨w.heap.size, 0, none⟩)] W1 _
    have h0 : W1.cell? ⟨w.heap.size, 0, none⟩ = some (.slice A l.length c) := pw_cell_below hW1 (cell_of hb rfl)
    generalize p[k] = i at *
    clear hW1
    go_enter Tryd.func57, Tryd.ntmps57
    go_wp2_with fail
    refine (isIn_any _ _ _ _).mono ?_
    rintro e w' ⟨rfl, rfl⟩
    go_wp2_with fail
    go_ret
    first | exact ⟨rfl, Below.refl _ _⟩ | (rw [wrap_id (by omega) (by omega)]; exact ⟨rfl, Below.refl _ _⟩))

set_option maxRecDepth 100000 in
set_option maxHeartbeats 1000000 in
theorem Forbids_no (A : Option Addr) (c : Nat) (l : List Cl) (UA : Option Addr) (uc : Nat) (u : List Int) (wt : Wt) (WA : Option Addr) (wn : Nat) (PA : Option Addr) (pc : Nat) (p : List Int) (w : World) (hA : Args w A c l UA uc u wt WA wn) (hp : (Kd.int .i64).C w PA p.length p) (hpc : p.length ≤ pc) (hg : givenB l u wt = false ∨ (givenB l u wt = true ∧ rising p = false) ∨ (givenB l u wt = true ∧ rising p = true ∧ coreOk l p = false)) :
    Calls Tryd.prog 28 #[.slice A l.length c, .slice UA u.length uc, wtv wt WA wn, .slice PA p.length pc] w fun e w' => e = .returned (.bool (forbB l u wt p)) ∧ Below w.heap.size w w' := by
  have hv : forbB l u wt p = false := by unfold forbB; rcases hg with h | ⟨h1, h2⟩ | ⟨h1, h2, h3⟩ <;> simp [*]
  rw [hv]; clear hv
  obtain ⟨hX, hz0⟩ := FX.mk0 w A c l UA uc u wt WA wn
  have hG := given_any A c l UA uc u wt WA wn _ (hA.next hX.below).kinds (hA.next hX.below).rl (hA.next hX.below).ru (hA.next hX.below).rw
  have hm := max_len hA.rl
  have h2 := fun (W : World) (hW : Below w.heap.size w W) => rising_any PA pc p W (Kd.C_below hp hW) hpc
  have h3 := fun (W : World) (hW : Below w.heap.size w W) (hb : W.heap[w.heap.size]? = some (.cells #[.slice A l.length c] 24 (0, 0))) => core_clo A c l PA pc p w W hm hb (Kd.C_below hp hW)
  unfold wtv at hG ⊢
  have HX := Lib.hid hX; clear hX
  have HG := Lib.hid hG; clear hG
  have HZ := Lib.hid hz0; clear hz0
  have H2 := Lib.hid h2; clear h2
  have H3 := Lib.hid h3; clear h3 hA hp hpc
  unfold wtc at HX HG HZ
  generalize givenB l u wt = b1 at *
  generalize rising p = b2 at *
  generalize coreOk l p = b3 at *
  rcases hg with rfl | ⟨rfl, rfl⟩ | ⟨rfl, rfl, rfl⟩
  all_goals
    go_enter Tryd.func28, Tryd.ntmps28
    go_wp2_with fail
    refine HG.out.mono ?_
    rintro e w1 ⟨rfl, hb1⟩
    have hX1 := FX.fr HX.out (Fr.of_below hb1) (fun k hk h => by have := HZ.out; omega)
    have HX1 := Lib.hid hX1; clear hX1 hb1 HG HX
    skip
  · (have c3 : w1.cell? ⟨w.heap.size + 3, 0, none⟩ = some (.bool false) := cell_of HX1.out.b3 rfl
     have f3 := frozen_of (o := 0) HX1.out.b3
     have z := (Array.getElem?_eq_some_iff.1 HX1.out.b3).1
     go_wp2_with fail
     refine bodyPost_ret (v := .bool false) ?_ rfl ⟨rfl, HX1.out.below.setCell (by simp <;> omega) _⟩
     have e3 := cell_of (o := 0) (heap_set (o := 0) (.bool false) HX1.out.b3) rfl
     simp [results, Tryd.results28, go_sem, e3])
  · go_wp2_with fail
    refine (H2.out _ HX1.out.below).mono ?_
    rintro e w2 ⟨rfl, hb2⟩
    have HX2 := Lib.hid (FX.fr HX1.out (Fr.of_below hb2) (fun k hk h => by have := (Array.getElem?_eq_some_iff.1 HX1.out.b3).1; omega)); clear HX1 hb2
    (have c3 : w2.cell? ⟨w.heap.size + 3, 0, none⟩ = some (.bool false) := cell_of HX2.out.b3 rfl
     have f3 := frozen_of (o := 0) HX2.out.b3
     have z := (Array.getElem?_eq_some_iff.1 HX2.out.b3).1
     go_wp2_with fail
     refine bodyPost_ret (v := .bool false) ?_ rfl ⟨rfl, HX2.out.below.setCell (by simp <;> omega) _⟩
     have e3 := cell_of (o := 0) (heap_set (o := 0) (.bool false) HX2.out.b3) rfl
     simp [results, Tryd.results28, go_sem, e3])
  · go_wp2_with fail
    refine (H2.out _ HX1.out.below).mono ?_
    rintro e w2 ⟨rfl, hb2⟩
    have HX2 := Lib.hid (FX.fr HX1.out (Fr.of_below hb2) (fun k hk h => by have := (Array.getElem?_eq_some_iff.1 HX1.out.b3).1; omega)); clear HX1 hb2
    go_wp2_with fail
    refine (H3.out _ HX2.out.below HX2.out.b0).mono ?_
    rintro e w3 ⟨rfl, hb3⟩
    have HX3 := Lib.hid (FX.fr HX2.out (Fr.of_below hb3) (fun k hk h => by have := (Array.getElem?_eq_some_iff.1 HX2.out.b3).1; omega)); clear HX2 hb3
    (have c3 : w3.cell? ⟨w.heap.size + 3, 0, none⟩ = some (.bool false) := cell_of HX3.out.b3 rfl
     have f3 := frozen_of (o := 0) HX3.out.b3
     have z := (Array.getElem?_eq_some_iff.1 HX3.out.b3).1
     go_wp2_with fail
     refine bodyPost_ret (v := .bool false) ?_ rfl ⟨rfl, HX3.out.below.setCell (by simp <;> omega) _⟩
     have e3 := cell_of (o := 0) (heap_set (o := 0) (.bool false) HX3.out.b3) rfl
     simp [results, Tryd.results28, go_sem, e3])

set_option maxRecDepth 100000 in
set_option maxHeartbeats 1000000 in
theorem Forbids_yes (A : Option Addr) (c : Nat) (l : List Cl) (UA : Option Addr) (uc : Nat) (u : List Int) (wt : Wt) (WA : Option Addr) (wn : Nat) (PA : Option Addr) (pc : Nat) (p : List Int) (w : World) (hA : Args w A c l UA uc u wt WA wn) (hp : (Kd.int .i64).C w PA p.length p) (hpc : p.length ≤ pc) (hg : givenB l u wt = true) (hr : rising p = true) (hc : coreOk l p = true) :
    Calls Tryd.prog 28 #[.slice A l.length c, .slice UA u.length uc, wtv wt WA wn, .slice PA p.length pc] w fun e w' => e = .returned (.bool (forbB l u wt p)) ∧ Below w.heap.size w w' := by
  have hv : forbB l u wt p = packsHit l u wt (maskOf p) := by unfold forbB; simp [*]
  rw [hv]; clear hv
  obtain ⟨m, hM⟩ : ∃ m, maskOf p = m := ⟨_, rfl⟩
  rw [hM]
  have HM := Lib.hid hM; clear hM
  obtain ⟨g1, g2, g3, g4, g5⟩ := given_of hg
  have hbd : ∀ i ∈ p, 0 ≤ i ∧ i ≤ 11 := fun i hi => by
    have := List.all_eq_true.1 hc i hi
    simp only [inR, Bool.and_eq_true, decide_eq_true_eq] at this
    omega
  have hpm := max_len hp
  obtain ⟨hX, hz0⟩ := FX.mk0 w A c l UA uc u wt WA wn
  have hG := given_any A c l UA uc u wt WA wn _ (hA.next hX.below).kinds (hA.next hX.below).rl (hA.next hX.below).ru (hA.next hX.below).rw
  have hm := max_len hA.rl
  have h2 := fun (W : World) (hW : Below w.heap.size w W) => rising_any PA pc p W (Kd.C_below hp hW) hpc
  have h3 := fun (W : World) (hW : Below w.heap.size w W) (hb : W.heap[w.heap.size]? = some (.cells #[.slice A l.length c] 24 (0, 0))) => core_clo A c l PA pc p w W hm hb (Kd.C_below hp hW)
  rw [hg] at hG
  rw [hr] at h2
  rw [hc] at h3
  unfold wtv at hG ⊢
  have HX := Lib.hid hX; clear hX
  have HG := Lib.hid hG; clear hG
  have HZ := Lib.hid hz0; clear hz0 hg hr hc
  have H2 := Lib.hid h2; clear h2
  have H3 := Lib.hid h3; clear h3
  have HA := Lib.hid hA; clear hA
  have HP := Lib.hid (And.intro hp hbd); clear hp hbd
  have HGG := Lib.hid (And.intro g1 (And.intro g2 (And.intro g3 (And.intro g4 g5)))); clear g1 g2 g3 g4 g5
  unfold wtc at HX HG HZ
  refine calls_of_wp_marks Tryd.func28 rfl ?_
  simp only [Tryd.ntmps28, List.size_toArray, List.length_cons, List.length_nil, Nat.reduceAdd, Nat.reduceSub, Array.replicate_succ, Array.replicate_zero, List.push_toArray, List.append_toArray, List.nil_append, List.cons_append]
  go_wp2_with fail
  refine HG.out.mono ?_
  rintro e w1 ⟨rfl, hb1⟩
  have hX1 := FX.fr HX.out (Fr.of_below hb1) (fun k hk h => by have := HZ.out; omega)
  have HX1 := Lib.hid hX1; clear hX1 hb1 HG HX
  go_wp2_with fail
  refine (H2.out _ HX1.out.below).mono ?_
  rintro e w2 ⟨rfl, hb2⟩
  have HX2 := Lib.hid (FX.fr HX1.out (Fr.of_below hb2) (fun k hk h => by have := (Array.getElem?_eq_some_iff.1 HX1.out.b3).1; omega)); clear HX1 hb2
  go_wp2_with fail
  refine (H3.out _ HX2.out.below HX2.out.b0).mono ?_
  rintro e w3 ⟨rfl, hb3⟩
  have HX3 := Lib.hid (FX.fr HX2.out (Fr.of_below hb3) (fun k hk h => by have := (Array.getElem?_eq_some_iff.1 HX2.out.b3).1; omega)); clear HX2 hb3 H2 H3
  go_wp2_with fail
  have hT0 := heap_new (o := .cells #[.int .i64 0] 3) (W := w3) rfl
  have hX4 := FX.fr HX3.out ((Fr.refl (fun _ => False) w3).alloc (.cells #[.int .i64 0] 3)) (fun k hk h => h)
  have hz4 : w3.heap.size + 1 ≤ (w3.alloc (.cells #[.int .i64 0] 3)).heap.size := by simp
  have hzT : w.heap.size + 4 ≤ w3.heap.size := (Array.getElem?_eq_some_iff.1 HX3.out.b3).1
  generalize w3.alloc (.cells #[.int .i64 0] 3) = w4 at *
  clear HX3
  generalize w3.heap.size = T at *
  go_loopw [31] (fun iv wr => ∃ k : Nat, k ≤ p.length ∧ iv = .int .i64 k ∧ Hid (FX w A c l UA uc u wt WA wn wr ∧ wr.heap[T]? = some (.cells #[.int .i64 (maskOf (p.take k) : Nat)] 3 (0, 0)))) (fun iv wr => p.length - (intOf iv).toNat)
  case atStart => exact ⟨0, Nat.zero_le _, rfl, Lib.hid ⟨hX4, by simpa [maskOf] using hT0⟩⟩
  case round =>
    obtain ⟨k, hk, rfl, HI⟩ := hrel
    clear hX4 hT0 hz4
    by_cases hkN : k < p.length
    · have hkI : (k : Int) < (p.length : Int) := by omega
      have hpC := Kd.C_below HP.out.1 HI.out.1.below
      obtain ⟨ad, e, hx⟩ := Kd.at_int hpC (k : Int) (by omega) hkI
      cases e
      simp only [Int.toNat_natCast] at hx
      have hrd : rd p (k : Int) = p[k] := rd_get hkN
      rw [hrd] at hx
      have hin := HP.out.2 p[k] (List.getElem_mem hkN)
      have hms := maskOf_take_succ hkN
      have hml := maskOf_lt (p := p.take k) (fun i hi => HP.out.2 i (List.mem_of_mem_take hi))
      obtain ⟨j, hj⟩ := Int.eq_ofNat_of_zero_le hin.1
      rw [hj] at hx hin hms
      have hj12 : j < 12 := by omega
      rw [Int.toNat_natCast] at hms
      clear hrd hpC hin hj
      generalize hm0 : maskOf (p.take k) = m0 at *
      have hTk := HI.out.2
      have hor := or_shl2 hml hj12
      have hTX := cell_ext (cell_of (o := 0) hTk rfl)
      have HMS := Lib.hid (And.intro hms (And.intro hor hTk)); clear hms hor hml hm0 hTk
      have hj0 : (0 : Int) ≤ (j : Int) := by omega
      go_wp2_with fail
      refine region_tail [0, 1, 2, 3] [4] (by kernel_rfl) (by kernel_rfl) ?_
      simp only [pick_cons, pick_nil, nthO_succ, nthO_zero]
      repeat (go_big_quiet_step (fail))
      refine wpQuiet_nil ?_
      rintro W' ⟨X, rfl⟩
      have hTX2 := block_ext HMS.out.2.2 X
      have gT := cell_of (o := 0) hTX2 rfl
      have fT := frozen_of (o := 0) hTX2
      rw [HMS.out.2.1]
      go_wp2_with fail
      go_roundw
      case rel =>
        refine ⟨k + 1, by omega, by go_num, Lib.hid ⟨?_, ?_⟩⟩
        · exact (FX.fr HI.out.1 X.2 (fun _ _ h => h)).fr ((Fr.refl (fun k => k = T) _).setCell ⟨T, 0, none⟩ _ (fun _ => rfl)) (fun k hk h => by omega)
        · rw [HMS.out.1]
          exact heap_set (o := 0) _ hTX2
      case measure => simp [intOf]; omega
    · obtain rfl : k = p.length := by omega
      clear hk hkN
      have hFm := HI.out.2
      rw [List.take_length, HM.out] at hFm
      have hml := maskOf_lt HP.out.2
      rw [HM.out] at hml
      have hX1 := HI.out.1
      have c0 := cell_of (o := 0) hX1.b0 rfl
      have d0 : wr.cell? ⟨w.heap.size + 2, 0, none⟩ = some (.int .i64 wt.te) := cell_of hX1.b2 rfl
      have d1 : wr.cell? ⟨w.heap.size + 2, 1, none⟩ = some (.int .i64 wt.cl) := cell_of hX1.b2 rfl
      have d2 : wr.cell? ⟨w.heap.size + 2, 2, none⟩ = some (.int .i64 wt.at_) := cell_of hX1.b2 rfl
      have d3 : wr.cell? ⟨w.heap.size + 2, 3, none⟩ = some (.int .i64 wt.us) := cell_of hX1.b2 rfl
      have d4 : wr.cell? ⟨w.heap.size + 2, 4, none⟩ = some (.slice WA wt.needs.length wn) := cell_of hX1.b2 rfl
      have HX1 := Lib.hid (And.intro hX1 hFm); clear hX1 hFm HI
      have HML := Lib.hid hml; clear hml
      go_wp2_with fail
      refine (packages_any A c l wt WA wn w wr HX1.out.1.below).mono ?_
      rintro e w6 ⟨rfl, hPF, hb6, hz6⟩
      have hTR : T < wr.heap.size := (Array.getElem?_eq_some_iff.1 HX1.out.2).1
      have hX2 := FX.fr HX1.out.1 (Fr.of_below hb6) (fun k hk h => by omega)
      have hF2 := (hb6.block T hTR).trans HX1.out.2
      have HX2 := Lib.hid (And.intro hX2 hF2); clear hX2 hF2 c0 d0 d1 d2 d3 d4 HX1
      have HZ1 := Lib.hid (And.intro hTR hzT); clear hTR hzT
      have HPF := Lib.hid (And.intro hPF (And.intro hb6 hz6)); clear hPF hb6 hz6
      go_wp2_with fail
      have hE : EOk (envOf w A c l wt WA wn wr.heap.size) := ⟨HA.out.kinds, HA.out.rl, HA.out.rw, HGG.out.2.2.2.2⟩
      have hseq := packs_iter hE HGG.out.2.2.2.1
      have heg : ∀ args w, (callFunc 69 args).run Tryd.prog w = .ok (.enter 69 args) w := fun _ _ => rfl
      refine wp_rangeB (α := List Int) (wr.heap.size + 3) HPF.out.2.2 (gf := 69) (lb := #[.pointer (some ⟨wr.heap.size + 1, 0, none⟩), .pointer (some ⟨wr.heap.size + 2, 0, none⟩)]) rfl heg hseq
        ?hps (fun k => k = w.heap.size + 3) (fun W hf => HPF.out.1.fr hf (fun _ _ h => h)) ?hlt ?hown
        (fun i D W => (FX w A c l UA uc u wt WA wn W ∧ W.heap[T]? = some (.cells #[.int .i64 (m : Nat)] 3 (0, 0))) ∧ ∀ x ∈ (packs l wt).take i, brk l u wt x &&& m ≠ 0)
        (fun cd i D W => cd = .ret ∧ Below w.heap.size w W ∧ w.heap.size + 4 ≤ W.heap.size ∧ packsHit l u wt m = false ∧ W.heap[w.heap.size + 3]? = some (.cells #[.bool false] 4 (0, 0)))
        ?hI ?hIx ?h0 (fun i D s x a' W => (FX w A c l UA uc u wt WA wn W ∧ W.heap[T]? = some (.cells #[.int .i64 (m : Nat)] 3 (0, 0))) ∧ (∀ x ∈ (packs l wt).take i, brk l u wt x &&& m ≠ 0) ∧ ∃ XA xc, (Kd.int .i64).R 3 W s (fun k => s ≤ k) (.slice XA x.length xc) x ∧
          a' = { tmps := #[.slice A l.length c, .slice UA u.length uc, .agg #[.int .i64 wt.te, .int .i64 wt.cl, .int .i64 wt.at_, .int .i64 wt.us, .slice WA wt.needs.length wn], .slice PA p.length pc, .pointer (some ⟨w.heap.size, 0, none⟩), .pointer (some ⟨w.heap.size + 1, 0, none⟩), .pointer (some ⟨w.heap.size + 1 + 1, 0, none⟩), undef, .pointer (some ⟨w.heap.size + 1 + 1 + 1, 0, none⟩), .pointer (some ⟨T, 0, none⟩), undef, u11, .slice XA x.length xc, .slice A l.length c, .slice UA u.length uc, .agg #[.int .i64 wt.te, .int .i64 wt.cl, .int .i64 wt.at_, .int .i64 wt.us, .slice WA wt.needs.length wn], .bool true, .bool false, .bool false, .slice PA p.length pc, .bool true, .bool false, .bool false, .bool false, .slice PA p.length pc, .func (.func 57) #[] #[.pointer (some ⟨w.heap.size, 0, none⟩)], .bool true, .bool false, .bool false, .slice PA p.length pc, .int .i64 p.length, .int .i64 p.length, .bool false, u33, u34, u35, u36, u37, u38, u39, .slice A l.length c, .agg #[.int .i64 wt.te, .int .i64 wt.cl, .int .i64 wt.at_, .int .i64 wt.us, .slice WA wt.needs.length wn], .func (.func 69) #[] #[.pointer (some ⟨wr.heap.size + 1, 0, none⟩), .pointer (some ⟨wr.heap.size + 2, 0, none⟩)], .slice XA x.length xc, undef, undef, undef, undef, undef, undef, undef, undef], defers := [] })
        ?hA ?hassign ?hbody ?hdone ?hstop
      case hps => rintro s x args W ⟨v, rfl, _⟩; rfl
      case hlt =>
        have h1 := HZ1.out.1
        have h2 := HZ1.out.2
        rintro k (h | h | h)
        · exact h.elim
        · rcases h with h | rfl | rfl | rfl
          · show k < _; simp only [envOf] at h; omega
          · show wr.heap.size < _; omega
          · show wr.heap.size + 1 < _; omega
          · show wr.heap.size + 2 < _; omega
        · omega
      case hown =>
        have h1 := HZ1.out.1
        have h2 := HZ1.out.2
        rintro k h
        refine ⟨fun h => h, fun hr => ?_⟩
        rcases hr with h' | rfl | rfl | rfl
        · simp only [envOf] at h'; omega
        · simp only [envOf] at h; omega
        · simp only [envOf] at h; omega
        · simp only [envOf] at h; omega
      case hI =>
        have q1 := HZ1.out.1
        have q2 := HZ1.out.2
        rintro i D X Y ⟨⟨h1, h3⟩, h2⟩ hs hD hf
        exact ⟨⟨h1.fr hf (fun k hk h => by rcases h with h | h; exact h; omega), (hf.block T (Array.getElem?_eq_some_iff.1 h3).1 (fun h => by rcases h with h | h; exact h; omega)).trans h3⟩, h2⟩
      case hIx =>
        have q1 := HZ1.out.1
        have q2 := HZ1.out.2
        rintro cd i D X Y ⟨h1, h2, h3, h4, h5⟩ hs hD hf
        exact ⟨h1, h2.trans (hf.below (fun k hk h => by rcases h with h | h; exact h; omega) h2.size), by have := hf.size; omega, h4, (hf.block _ (by omega) (fun h => by rcases h with h | h; exact h; omega)).trans h5⟩
      case h0 =>
        intro W hf hz
        exact ⟨⟨HX2.out.1.fr hf (fun _ _ h => h), (hf.block T (Array.getElem?_eq_some_iff.1 HX2.out.2).1 (fun h => h)).trans HX2.out.2⟩, fun x hx => by simp at hx⟩
      case hA =>
        have q1 := HZ1.out.1
        have q2 := HZ1.out.2
        rintro i D s x a' X Y ⟨⟨h1, h5⟩, h2, XA, xc, h3, h4⟩ hs hsX hD hf hz
        exact ⟨⟨h1.fr hf (fun k hk h => by omega), (hf.block T (Array.getElem?_eq_some_iff.1 h5).1 (fun h => by omega)).trans h5⟩, h2, XA, xc, Kd.R_step h3 (fun k hk hl => hf.block k hl (fun h => by omega)), h4⟩
      case hassign =>
        rintro l' i D s x args W hx ⟨h1, h2⟩ ⟨v, rfl, hR⟩ hs hsW hD
        obtain ⟨XA, xc, rfl, _, _⟩ := Kd.R_reads hR
        have H := Lib.hid (And.intro h1 (And.intro h2 hR)); clear h1 h2 hR hx hD hs hsW
        gi_wp2
        exact ⟨Fr.refl _ _, H.out.1, H.out.2.1, XA, xc, H.out.2.2, rfl⟩
      case hbody =>
        rintro l' i D s x a' W hx ⟨⟨h1, h5⟩, h2, XA, xc, hR, rfl⟩ hs hsW hD
        obtain ⟨XA', xc', e, hxc, hXC⟩ := Kd.R_reads hR
        cases e
        have hin : (packs l wt)[i]? = some x := hx
        have hbk : ∀ X : Ext W, _ := fun X => broken_any A c l UA uc u wt WA wn XA xc x X.val (HA.out.next (h1.fr X.2 (fun _ _ h => h)).below).kinds (HA.out.next (h1.fr X.2 (fun _ _ h => h)).below).rl (HA.out.next (h1.fr X.2 (fun _ _ h => h)).below).ru (HA.out.next (h1.fr X.2 (fun _ _ h => h)).below).rw (Kd.C_below hXC (X.2.below (fun _ _ h => h) (Nat.le_refl _))) HGG.out.1 HGG.out.2.1 HGG.out.2.2.1
        unfold wtv at hbk
        have e0 := cell_ext (cell_of (o := 0) h1.b0 rfl)
        have e1 := cell_ext (cell_of (o := 0) h1.b1 rfl)
        have eT := cell_ext (cell_of (o := 0) h5 rfl)
        have d0 := cell_ext (show W.cell? ⟨w.heap.size + 2, 0, none⟩ = some (.int .i64 wt.te) from cell_of h1.b2 rfl)
        have d1 := cell_ext (show W.cell? ⟨w.heap.size + 2, 1, none⟩ = some (.int .i64 wt.cl) from cell_of h1.b2 rfl)
        have d2 := cell_ext (show W.cell? ⟨w.heap.size + 2, 2, none⟩ = some (.int .i64 wt.at_) from cell_of h1.b2 rfl)
        have d3 := cell_ext (show W.cell? ⟨w.heap.size + 2, 3, none⟩ = some (.int .i64 wt.us) from cell_of h1.b2 rfl)
        have d4 := cell_ext (show W.cell? ⟨w.heap.size + 2, 4, none⟩ = some (.slice WA wt.needs.length wn) from cell_of h1.b2 rfl)
        have hb64 : brk l u wt x < 2 ^ 62 := by
          have hb := bits_lt (l.map (forb u wt x))
          rw [List.length_map] at hb
          exact Nat.lt_of_lt_of_le hb (Nat.pow_le_pow_right (by decide) (by have := HGG.out.1; omega))
        have hand := and_nat (brk l u wt x) m hb64 (by have := HML.out; omega)
        have H := Lib.hid (And.intro h1 (And.intro h2 (And.intro h5 (And.intro hin (And.intro hD (And.intro hs hsW)))))); clear h1 h2 h5 hx hin hD hs hsW hxc hXC hR hb64
        have HBK := Lib.hid hbk; clear hbk
        by_cases hb : brk l u wt x &&& m = 0
        · have qz : (Go.bits .and .i64 ((brk l u wt x : Nat) : Int) (m : Int) == 0) = true := by rw [hand, hb]; rfl
          have hbad : packsHit l u wt m = false := by
            unfold packsHit
            rw [List.all_eq_false]
            exact ⟨x, List.mem_of_getElem? H.out.2.2.2.1, by simpa using hb⟩
          have HB := Lib.hid (And.intro hb hbad); clear hb hbad hand
          generalize brk l u wt x = bx at *
          gi_wp2_with fail
          refine region_ext_round (by kernel_rfl) (by kernel_rfl) (by kernel_rfl) (fun ⟨_, _, h⟩ => h) ?_
          repeat (go_big_quiet_step ((go_at_call 48; with_reducible exact call_ext (HBK.out _))))
          refine wpQuiet_nil ?_
          rintro W' ⟨X, rfl⟩
          have hX3 := H.out.1.fr X.2 (fun _ _ h => h)
          have c3 : X.val.cell? ⟨w.heap.size + 3, 0, none⟩ = some (.bool false) := cell_of hX3.b3 rfl
          have f3 := frozen_of (o := 0) hX3.b3
          have z := (Array.getElem?_eq_some_iff.1 hX3.b3).1
          have HX3 := Lib.hid hX3; clear hX3 e0 e1 eT d0 d1 d2 d3 d4 HBK
          gi_wp2_with fail
          refine ⟨(X.2.mono (fun _ _ h => h.elim)).setCell _ _ (fun _ => .inl rfl), rfl, HX3.out.below.setCell (by simp <;> omega) _, by simp [World.setCell]; omega, HB.out.2, ?_⟩
          exact heap_set (o := 0) _ HX3.out.b3
        · have qz : (Go.bits .and .i64 ((brk l u wt x : Nat) : Int) (m : Int) == 0) = false := by rw [hand, beqD]; simpa using hb
          have HB := Lib.hid hb; clear hb hand
          generalize hbx : brk l u wt x = bx at *
          have HBX := Lib.hid hbx; clear hbx
          gi_wp2_with fail
          refine region_ext_round (by kernel_rfl) (by kernel_rfl) (by kernel_rfl) (fun ⟨_, _, h⟩ => h) ?_
          repeat (go_big_quiet_step ((go_at_call 48; with_reducible exact call_ext (HBK.out _))))
          refine wpQuiet_nil ?_
          rintro W' ⟨X, rfl⟩
          clear e0 e1 eT d0 d1 d2 d3 d4 HBK
          gi_wp2_with fail
          refine ⟨X.2.mono (fun _ _ h => h.elim), ⟨H.out.1.fr X.2 (fun _ _ h => h), block_ext H.out.2.2.1 X⟩, fun y hy => ?_⟩
          obtain ⟨hi, hxe⟩ := List.getElem?_eq_some_iff.1 H.out.2.2.2.1
          rw [List.take_succ_eq_append_getElem hi, List.mem_append] at hy
          rcases hy with hy | hy
          · exact H.out.2.1 y hy
          · rw [List.mem_singleton.1 hy, hxe, HBX.out]
            exact HB.out
      case hdone =>
        rintro D W ⟨⟨h1, h5⟩, h2⟩ hz hDm
        have q1 := HZ1.out.1
        have q2 := HZ1.out.2
        have hok : packsHit l u wt m = true := by
          unfold packsHit
          rw [List.all_eq_true]
          intro x hx
          simpa using h2 x (show x ∈ (packs l wt).take (packs l wt).length by rw [List.take_length]; exact hx)
        have c3 : W.cell? ⟨w.heap.size + 3, 0, none⟩ = some (.bool false) := cell_of h1.b3 rfl
        have f3 := frozen_of (o := 0) h1.b3
        have z := (Array.getElem?_eq_some_iff.1 h1.b3).1
        have H := Lib.hid (And.intro h1 (And.intro hok hDm)); clear h1 h2 h5 hok hDm
        go_wp2_with fail
        have hb3 := heap_set (o := 0) (.bool true) H.out.1.b3
        have hDm2 := heap_set_ne (p := ⟨w.heap.size + 1 + 1 + 1, 0, none⟩) (.bool true) (by show wr.heap.size + 3 ≠ w.heap.size + 1 + 1 + 1; omega) H.out.2.2
        have hbl := H.out.1.below.setCell (p := ⟨w.heap.size + 1 + 1 + 1, 0, none⟩) (by simp <;> omega) (.bool true)
        refine leave_mark (v := .bool true) hDm2 (fun W' hf hz => ?_)
        have g3 := cell_of (o := 0) ((hf.block _ (Array.getElem?_eq_some_iff.1 hb3).1 (by omega)).trans hb3) rfl
        exact ⟨by simp [results, Tryd.results28, go_sem, g3], by rw [H.out.2.1], hbl.trans (hf.below (fun k hk => by omega) hbl.size)⟩
      case hstop =>
        rintro cd i x D W hx ⟨rfl, h1, h2, h3, h4⟩ hz hDm
        have q1 := HZ1.out.1
        have q2 := HZ1.out.2
        go_wp2
        refine leave_mark (v := .bool false) hDm (fun W' hf hz => ?_)
        have g3 := cell_of (o := 0) ((hf.block _ (Array.getElem?_eq_some_iff.1 h4).1 (by omega)).trans h4) rfl
        exact ⟨by simp [results, Tryd.results28, go_sem, g3], by rw [h3], h1.trans (hf.below (fun k hk => by omega) h1.size)⟩

theorem Forbids_any (A : Option Addr) (c : Nat) (l : List Cl) (UA : Option Addr) (uc : Nat) (u : List Int) (wt : Wt) (WA : Option Addr) (wn : Nat) (PA : Option Addr) (pc : Nat) (p : List Int) (w : World) (hA : Args w A c l UA uc u wt WA wn) (hp : (Kd.int .i64).C w PA p.length p) (hpc : p.length ≤ pc) :
    Calls Tryd.prog 28 #[.slice A l.length c, .slice UA u.length uc, wtv wt WA wn, .slice PA p.length pc] w fun e w' => e = .returned (.bool (forbB l u wt p)) ∧ Below w.heap.size w w' := by
  cases hg : givenB l u wt with
  | false => exact Forbids_no A c l UA uc u wt WA wn PA pc p w hA hp hpc (.inl hg)
  | true =>
    cases hr : rising p with
    | false => exact Forbids_no A c l UA uc u wt WA wn PA pc p w hA hp hpc (.inr (.inl ⟨hg, hr⟩))
    | true =>
      cases hc : coreOk l p with
      | false => exact Forbids_no A c l UA uc u wt WA wn PA pc p w hA hp hpc (.inr (.inr ⟨hg, hr, hc⟩))
      | true => exact Forbids_yes A c l UA uc u wt WA wn PA pc p w hA hp hpc hg hr hc
end Go.Proofs.YtnabgijdbcdpmaaDoor
