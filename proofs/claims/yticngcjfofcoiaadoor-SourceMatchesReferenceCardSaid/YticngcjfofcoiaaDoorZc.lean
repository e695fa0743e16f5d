/- Plain facts of made sources: they are valid, and chosen ones assert; what the laws say of the contracts' answers. -/
import Derived.Test.YticngcjfofcoiaaDoorSn
import Derived.Test.YticngcjfofcoiaaDoorRows
import Derived.WalkKit
import Derived.ProofKit
import Derived.OpenShut
import Derived.LaidMore
import Derived.ChangeOld
import Derived.Carry
import Derived.Below
import Derived.Stop.Joined
namespace Go.Proofs.YticngcjfofcoiaaDoor
open Go.RowKit Go.Rg Go.Proofs.YticngcjfofcoiaaDoorW.PrintWords
set_option linter.unusedVariables false
set_option linter.unusedSimpArgs false
theorem asrt_asc {l : List Src} {xs : List Int} (h : asrt l xs = true) : xs.Pairwise (· < ·) := by
 have step : ∀ i, i + 1 < xs.length → rd xs (i : Int) < rd xs ((i + 1 : Nat) : Int) := fun i hi => by
  have h1 := List.all_eq_true.1 h (i + 1) (List.mem_range.2 hi)
  unfold okAt at h1
  rw [Bool.and_eq_true, Bool.or_eq_true] at h1
  rcases h1.2 with h2 | h2
  ·simp at h2
  ·simpa using h2
 have all : ∀ j i, i < j → j < xs.length → rd xs (i : Int) < rd xs (j : Int) := fun j => by
  induction j with
  |zero => intro i hi _; omega
  |succ j ih =>
   intro i hi hj
   rcases Nat.lt_or_ge i j with h1 | h1
   ·exact Int.lt_trans (ih i h1 (by omega)) (step j hj)
   ·obtain rfl : i = j := by omega
    exact step i hj
 refine List.pairwise_iff_getElem.2 fun i j hi hj hij => ?_
 have := all j i hij hj
 rw [rd_at hi, rd_at hj] at this
 exact this
structure Sound (l m : List Src) : Prop where
 asc : l.Pairwise fun s t => s.id < t.id
 each : ∀ s ∈ l, (0 ≤ s.id ∧ s.id < 12) ∧ (s.kind = 1 ∨ s.kind = 2) ∧ s.frm.length ≤ 3 ∧ s.frm.Pairwise (· < ·) ∧ (∀ y ∈ s.frm, ∃ t ∈ m, t.id = y) ∧ s.id ∉ s.frm
theorem made_mem {l : List Src} {n : Nat} (hm : MadeL n l) {s : Src} (hs : s ∈ l) : ∃ i, l[i]? = some s ∧ MadeS n i s := by
 obtain ⟨i, hi, e⟩ := List.getElem_of_mem hs
 have : l[i]? = some s := by rw [List.getElem?_eq_getElem hi, e]
 exact ⟨i, this, hm i s this⟩
theorem made_short {l : List Src} {n : Nat} (hm : MadeL n l) : ∀ s ∈ l, s.frm.length ≤ 1000 := fun s hs => by
 obtain ⟨i, _, h⟩ := made_mem hm hs
 have := h.len
 omega
theorem given_valid {l : List Src} {xs : List Int} (h : givenB l xs = true) : validS l = true := by
 unfold givenB at h
 rw [Bool.and_eq_true] at h
 exact h.1
theorem given_asrt {l : List Src} {xs : List Int} (h : givenB l xs = true) : asrt l xs = true := by
 unfold givenB at h
 rw [Bool.and_eq_true] at h
 exact h.2
theorem given_err {l : List Src} {xs : List Int} (h : givenB l xs = true) : errS l xs = 0 := by unfold errS; rw [if_pos h]
theorem sd_bit (xs : List Int) (i : Nat) : (sdL xs).testBit i = true ↔ ∃ y ∈ xs, y.toNat = i := by
 unfold sdL
 rw [orL_bit]
 simp
theorem web_fit {l : List Src} (hv : validS l = true) (xs : List Int) (wo : Nat) : Flow.Fit (webOf l xs wo) := (valid_nx hv).fit (sdL xs) (ogL l) wo
theorem sub_zero (l : List Src) (xs : List Int) (wo : Nat) : Flow.sub (webOf l xs wo) (webOf l xs wo).org (bitsOf 0) = webOf l xs wo := by
 unfold Flow.sub webOf netOf bitsOf
 congr 1
 funext i
 simp
theorem sameB_refl (n : Int) (w : List (List Int)) (c : List Int) : sameB n w c n w c = true := by simp [sameB]
end Go.Proofs.YticngcjfofcoiaaDoor
/- What the laws of sources say of plain lists: circles, certificates, copies. -/
namespace Go.Proofs.YticngcjfofcoiaaDoor
open Go.RowKit Go.Rg Go.Proofs.YticngcjfofcoiaaDoorW.PrintWords
set_option linter.unusedVariables false
set_option linter.unusedSimpArgs false
theorem E_iff {l : List Src} {xs : List Int} {wo x y : Nat} : (webOf l xs wo).E x y = true ↔ ∃ s ∈ l, y = s.id.toNat ∧ ∃ z ∈ s.frm, z.toNat = x := by
 show (nxL l x).contains y = true ↔ _
 rw [List.contains_iff_mem, nxL_mem]
theorem org_iff {l : List Src} {xs : List Int} {wo x : Nat} : (webOf l xs wo).org x = true ↔ ∃ s ∈ l, s.frm.length = 0 ∧ s.id.toNat = x := ogL_bit l x
end Go.Proofs.YticngcjfofcoiaaDoor
/- The head of a law on sources: what lies after Made and Chosen; supports that lie. -/
namespace Go.Proofs.YticngcjfofcoiaaDoor
open Go.RowKit Go.Rg Go.Proofs.YticngcjfofcoiaaDoorW.PrintWords
set_option linter.unusedVariables false
set_option linter.unusedSimpArgs false
set_option maxRecDepth 100000
structure SrcAt (A : Option Addr) (c : Nat) (l : List Src) (W : World) : Prop where
 rl : Kd.C kS W A l.length l
 cl : l.length ≤ c
 short : ∀ s ∈ l, s.frm.length ≤ 1000
theorem SrcAt.next {A : Option Addr} {c : Nat} {l : List Src} {W W' : World} (h : SrcAt A c l W) (hb : Below W.heap.size W W') : SrcAt A c l W' := ⟨Kd.C_below h.rl hb, h.cl, h.short⟩
structure IntAt (B : Option Addr) (d : Nat) (xs : List Int) (W : World) : Prop where
 rx : (Kd.int .i64).C W B xs.length xs
 cx : xs.length ≤ d
theorem IntAt.next {A : Option Addr} {c : Nat} {l : List Int} {W W' : World} (h : IntAt A c l W) (hb : Below W.heap.size W W') : IntAt A c l W' := ⟨Kd.C_below h.rx hb, h.cx⟩
structure HX (w : World) (A : Option Addr) (c : Nat) (l : List Src) (B : Option Addr) (d : Nat) (xs : List Int) (W : World) : Prop where
 below : Below w.heap.size w W
 tab : Tab W
 src : SrcAt A c l W
 int : IntAt B d xs W
theorem HX.next {w : World} {A : Option Addr} {c : Nat} {l : List Src} {B : Option Addr} {d : Nat} {xs : List Int} {W W' : World} (h : HX w A c l B d xs W) (hb : Below W.heap.size W W') : HX w A c l B d xs W' :=
 ⟨h.below.trans (hb.mono h.below.size), h.tab.next hb h.tab.pos, h.src.next hb, h.int.next hb⟩
theorem made_call (XA : Option Addr) (xc : Nat) (x : List (Int × Int × Int)) (w : World) (hx : Kd.C k3 w XA x.length x) :
  Calls Tryd.prog 11 #[.slice XA x.length xc] w fun e w' => ∃ (A : Option Addr) (c : Nat) (l : List Src), e = .returned (.slice A l.length c) ∧ Hid (SrcAt A c l w' ∧ MadeL l.length l ∧ l.length ≤ 10 ∧ Below w.heap.size w w') := by
 refine (made_any XA xc x w hx).mono ?_
 rintro e w' ⟨v, l, rfl, hR, hm, hl, hb⟩
 obtain ⟨A, c, rfl, hc, hC⟩ := Kd.R_reads hR
 exact ⟨A, c, l, rfl, Lib.hid ⟨⟨hC, hc, made_short hm⟩, hm, hl, hb⟩⟩
theorem chosen_call (n : Nat) (hn : n ≤ 12) (m : Int) (w : World) :
  Calls Tryd.prog 12 #[.int .i64 n, .int .i64 m] w fun e w' => ∃ (B : Option Addr) (d : Nat) (xs : List Int), e = .returned (.slice B xs.length d) ∧ Hid (IntAt B d xs w' ∧ ChosenL n xs ∧ xs.length ≤ n ∧ Below w.heap.size w w') := by
 refine (chosen_any n hn m w).mono ?_
 rintro e w' ⟨v, l, rfl, hR, hm, hl, hb⟩
 obtain ⟨A, c, rfl, hc, hC⟩ := Kd.R_reads hR
 exact ⟨A, c, l, rfl, Lib.hid ⟨⟨hC, hc⟩, hm, hl, hb⟩⟩
structure SupIs (l : List Src) (xs : List Int) (wo n : Nat) (WA : Option Addr) (wc : Nat) (CA : Option Addr) (cc : Nat) (W : World) : Prop where
 num : n = cntS l xs wo
 rows : kW.C W WA n (toI (waysS l xs wo))
 cut : (Kd.int .i64).C W CA n ((cutS l xs wo).map Int.ofNat)
 le : n ≤ cc
theorem SupIs.next {l : List Src} {xs : List Int} {wo n : Nat} {WA : Option Addr} {wc : Nat} {CA : Option Addr} {cc : Nat} {W W' : World} (h : SupIs l xs wo n WA wc CA cc W) (hb : Below W.heap.size W W') : SupIs l xs wo n WA wc CA cc W' := ⟨h.num, Kd.C_below h.rows hb, Kd.C_below h.cut hb, h.le⟩
theorem toI_len (p : List (List Nat)) : (toI p).length = p.length := by simp [toI]
theorem SupIs.len1 {l : List Src} {xs : List Int} {wo n : Nat} {WA : Option Addr} {wc : Nat} {CA : Option Addr} {cc : Nat} {W : World} (h : SupIs l xs wo n WA wc CA cc W) : (toI (waysS l xs wo)).length = n := h.rows.1
theorem SupIs.len2 {l : List Src} {xs : List Int} {wo n : Nat} {WA : Option Addr} {wc : Nat} {CA : Option Addr} {cc : Nat} {W : World} (h : SupIs l xs wo n WA wc CA cc W) : ((cutS l xs wo).map Int.ofNat).length = n := h.cut.1
structure BlkAt (b : Nat) (o : Obj) (W : World) : Prop where
 at_ : W.heap[b]? = some o
theorem BlkAt.next {b : Nat} {o : Obj} {W W' : World} (h : BlkAt b o W) (hb : Below W.heap.size W W') : BlkAt b o W' := ⟨(hb.block _ (Array.getElem?_eq_some_iff.1 h.at_).1).trans h.at_⟩
end Go.Proofs.YticngcjfofcoiaaDoor
/- What the rows' premises give the walks: the laid table, rows of three numbers. -/
namespace Go.Proofs.YticngcjfofcoiaaDoor
open Go.ChangeShapes Go.WideShapes Go.ChangeAt Go.RowKit Go.Proofs.YticngcjfofcoiaaDoorW.PrintWords
set_option linter.unusedVariables false
set_option linter.unusedSimpArgs false
set_option maxRecDepth 100000
def laid1 : List (String × DataW Unit) := [("math/bits.deBruijn32tab", Rows.laid_math_bits_deBruijn32tab)]
theorem own : ownKnob Tryd.prog.godebug = none := by kernel_rfl
theorem laidOut : laidOutB Tryd.prog = true := by kernel_rfl
theorem gTab : Tryd.prog.globalNamed "math/bits.deBruijn32tab" = some 0 := by kernel_rfl
theorem tTab : (Tryd.prog.globals[0]?).map (·.type) = some 103 := by kernel_rfl
theorem cells103 : Tryd.prog.cellsOf 103 = 32 := by kernel_rfl
theorem cells56 : Tryd.prog.cellsOf 56 = 3 := by kernel_rfl
theorem cells5 : Tryd.prog.cellsOf 5 = 1 := by kernel_rfl
theorem cells3 : Tryd.prog.cellsOf 3 = 1 := by kernel_rfl
theorem door_met (os : Os) (args : Array Value) : laidMetH Tryd.prog laid1 ((World.doorLaid Tryd.prog 600 os).forCall (fun _ _ => 0) ⟨#[], args, []⟩).memory :=
 laidMetH_of_parts3 (fuel := 8) (laidMet_of_run' 8 (by kernel_rfl) (by kernel_rfl)) (by kernel_rfl) (by kernel_rfl)
theorem laid_list : (Rows.laid_math_bits_deBruijn32tab : DataW Unit) = .agg (tabL.map fun (n : Nat) => .lit (.int .u8 (n : Int))) := rfl
theorem of_laid {W : World} (h : laidMetH Tryd.prog laid1 W) : Tab W := by
 have h1 : laidMet Tryd.prog laid1 W := h
 obtain ⟨ps, ⟨g, t, cs, fuel, p, q, hg, ht, hv, hd, _, _⟩, _, _⟩ := h1
 obtain rfl := Option.some.inj (gTab.symm.trans hg)
 obtain rfl := Option.some.inj (tTab.symm.trans ht)
 obtain ⟨xs, n, rfl, hx, hcl, hxl, hel⟩ := DataW.trod_array Tryd.underlying103 hd
 rw [cells103] at hcl
 have hx1 := (Prod.mk.inj hx).1
 rw [laid_list] at hx1
 have hx2 := DataW.agg.inj hx1
 have hl32 : tabL.length = 32 := rfl
 have hcs : cs = tabv := by
  have : cs.toList = tabL.map fun (n : Nat) => Value.int .u8 (n : Int) := by
   refine List.ext_getElem (by rw [hcl, List.length_map, hl32]) fun i h1 h2 => ?_
   have hi : i < 32 := by omega
   have g := hel i hi
   erw [cells5] at g
   rw [Nat.mul_one, List.drop_eq_getElem_cons h1, List.take_succ_cons, List.take_zero, List.getElem?_eq_getElem (by omega)] at g
   obtain ⟨n, e1, e2, _⟩ := DataW.trod_int Tryd.underlying5 g
   have e3 : (xs.map (·.1))[i]? = some (.lit (.int .u8 n)) := by
    rw [List.getElem?_map, List.getElem?_eq_getElem (by omega), e2]; rfl
   rw [← hx2, List.getElem?_map, List.getElem?_eq_getElem (by omega)] at e3
   have e4 := (Lit.int.inj (DataW.lit.inj (Option.some.inj e3))).2
   have e5 : cs.toList[i] = .int .u8 n := by simpa using e1
   rw [e5, List.getElem_map, ← e4]
  have h2 : cs = cs.toList.toArray := by simp
  rw [h2, this]
  rfl
 subst hcs
 unfold World.var? at hv
 rw [gTab, Option.bind_some] at hv
 split at hv
 ·rename_i cs' t' fz' hh
  cases hv
  exact ⟨⟨t', fz'⟩, hh⟩
 ·cases hv
theorem open_row22 {H : Type} {enc : TypeId × Value → H} {W : World} {base : Nat} {sp : Nat → Bool} {held : Bool} {r : Reach} {b0 : Nat} {v : Value} {d : DataW H} {p : List MemPlace} (hv : Value.okWide Tryd.prog W r b0 22 v) (h : DataW.Trod enc Tryd.prog W base sp held 22 v d p) :
  ∃ A c x, v = .slice A (x : List (Int × Int × Int)).length c ∧ x.length ≤ c ∧ Kd.C k3 W A x.length x := by
 obtain ⟨A, len, cap, rfl⟩ := okWide_slice Tryd.underlying22 hv
 obtain ⟨fuel, hf⟩ := h
 rcases DataW.trod_slice Tryd.underlying22 hf with ⟨hcs, _⟩ | ⟨a, l, c, elems, rest, n, _, hcs, _, _, hl, hm, hlen, hel, _, _⟩
 ·simp [Value.cells] at hcs
  obtain ⟨rfl, rfl, rfl⟩ := hcs
  exact ⟨none, 0, [], rfl, Nat.le_refl _, ⟨rfl, by decide, fun h => absurd h (Nat.lt_irrefl _)⟩⟩
 ·simp [Value.cells] at hcs
  obtain ⟨rfl, rfl, rfl⟩ := hcs
  have each : ∀ i, i < len → ∃ t : Int × Int × Int, ∀ (j : Nat) (u : Value), [Value.int .i64 t.1, .int .i64 t.2.1, .int .i64 t.2.2][j]? = some u → W.cell? (a.add (i * 3 + j)) = some u := fun i hi => by
   have h1 := hel i hi
   rw [cells56, List.getElem?_eq_getElem (by omega), Option.bind_eq_some_iff] at h1
   obtain ⟨cs, hcs, ht⟩ := h1
   obtain ⟨_, hcl, hcc⟩ := World.cells?_some hcs
   obtain ⟨ys, m, _, _, _, hyl, hye⟩ := DataW.trod_array Tryd.underlying56 ht
   match cs, hcl, hcc, hye with
   |[c0, c1, c2], _, hcc, hye =>
    have one : ∀ (j : Nat) (u : Value), j < 3 → [c0, c1, c2][j]? = some u → DataW.trod enc Tryd.prog W base sp held m 3 [u] = ys[j]? → ∃ x, u = .int .i64 x := by
     intro j u hj hu ht
     rw [List.getElem?_eq_getElem (by omega)] at ht
     obtain ⟨x, e, _, hw⟩ := DataW.trod_int Tryd.underlying3 ht
     simp at e
     exact ⟨x, e⟩
    obtain ⟨x0, rfl⟩ := one 0 c0 (by decide) rfl (by have g := hye 0 (by decide); erw [cells3] at g; exact g)
    obtain ⟨x1, rfl⟩ := one 1 c1 (by decide) rfl (by have g := hye 1 (by decide); erw [cells3] at g; exact g)
    obtain ⟨x2, rfl⟩ := one 2 c2 (by decide) rfl (by have g := hye 2 (by decide); erw [cells3] at g; exact g)
    have plain : ∀ j, (a.add (i * 3)).add j = a.add (i * 3 + j) := fun j => by
     unfold Addr.add
     by_cases h1 : i * 3 = 0
     ·simp [h1]
     ·by_cases h2 : j = 0
      ·simp [h1, h2]
      ·rw [if_neg h1, if_neg h2, if_neg (by omega)]
       simp [Nat.add_assoc]
    refine ⟨(x0, x1, x2), fun j u hj => ?_⟩
    rw [← plain]
    match j with
    |0 => obtain rfl := Option.some.inj hj; exact hcc 0 (by decide)
    |1 => obtain rfl := Option.some.inj hj; exact hcc 1 (by decide)
    |2 => obtain rfl := Option.some.inj hj; exact hcc 2 (by decide)
    |(k + 3) => simp at hj
  have hch : ∃ f : Nat → Int × Int × Int, ∀ i, i < len → ∀ (j : Nat) (u : Value), [Value.int .i64 (f i).1, .int .i64 (f i).2.1, .int .i64 (f i).2.2][j]? = some u → W.cell? (a.add (i * 3 + j)) = some u := by
   refine ⟨fun i => if h : i < len then Classical.choose (each i h) else (0, 0, 0), fun i hi => ?_⟩
   simp only [hi, dite_true]
   exact Classical.choose_spec (each i hi)
  obtain ⟨f, hf2⟩ := hch
  have hlx : ((List.range len).map f).length = len := by simp
  refine ⟨some a, cap, (List.range len).map f, by rw [hlx], by omega, ⟨rfl, by rw [hlx]; unfold maxLen at hm; omega, fun _ => ⟨a, rfl, fun j q hj => ?_⟩⟩⟩
  have hjl : j < len := by have := (List.getElem?_eq_some_iff.1 hj).1; omega
  have hq : f j = q := by
   rw [List.getElem?_map, List.getElem?_range hjl] at hj
   exact Option.some.inj hj
  have hc := hf2 j hjl
  rw [hq] at hc
  exact ⟨[.int .i64 q.1, .int .i64 q.2.1, .int .i64 q.2.2], rfl, ⟨[.int .i64 q.1], [.int .i64 q.2.1, .int .i64 q.2.2], rfl, rfl, ⟨[.int .i64 q.2.1], [.int .i64 q.2.2], rfl, rfl, rfl⟩⟩, fun i u hi => hc i u hi⟩
end Go.Proofs.YticngcjfofcoiaaDoor
/- What the laws of sources say of plain lists: a silenced source, one more that asserts, copies. -/
namespace Go.Proofs.YticngcjfofcoiaaDoor
open Go.RowKit Go.Rg Go.Proofs.YticngcjfofcoiaaDoorW.PrintWords
set_option linter.unusedVariables false
set_option linter.unusedSimpArgs false
theorem count_mem (K : Nat) : ∀ (xs : List Nat), Flow.count K (fun i => xs.contains i) ≤ xs.length
 |[] => by
  have : Flow.count K (fun i => ([] : List Nat).contains i) = 0 := by
   unfold Flow.count
   exact Flow.sum_none fun i _ => by simp
  rw [this]; simp
 |x :: xs => by
  have h1 := count_mem K xs
  have h2 := Flow.count_or (K := K) (D := fun i => xs.contains i) (x := x)
  have e : (fun i => (x :: xs).contains i) = Flow.or2 (fun i => xs.contains i) (Flow.one x) := funext fun i => by
   unfold Flow.or2 Flow.one
   rw [Bool.eq_iff_iff]
   simp [Bool.or_comm, or_comm]
  rw [e, List.length_cons]
  omega
theorem sd_contains (xs : List Int) : (fun i => (sdL xs).testBit i) = fun i => (xs.map Int.toNat).contains i := funext fun i => by
 rw [Bool.eq_iff_iff, sd_bit, List.contains_iff_mem, List.mem_map]
theorem sd_count (xs : List Int) : Flow.count 12 (fun i => (sdL xs).testBit i) ≤ xs.length := by
 have := count_mem 12 (xs.map Int.toNat)
 rw [List.length_map] at this
 rw [sd_contains]
 exact this
end Go.Proofs.YticngcjfofcoiaaDoor
/- What lies in SourceMonotone: the sources, the numbers, a row of truth values. -/
namespace Go.Proofs.YticngcjfofcoiaaDoor
open Go.RowKit Go.Rg Go.Proofs.YticngcjfofcoiaaDoorW.PrintWords
set_option linter.unusedVariables false
set_option linter.unusedSimpArgs false
set_option maxRecDepth 100000
def BoolAt (g : Nat) (S : Nat → Bool) (W : World) : Prop := ∀ i, i < 12 → W.cell? ⟨g, i, none⟩ = some (.bool (S i)) ∧ W.frozen? ⟨g, i, none⟩ = false
theorem BoolAt.next {g : Nat} {S : Nat → Bool} {W W' : World} (h : BoolAt g S W) (hb : Below W.heap.size W W') : BoolAt g S W' := fun i hi =>
 ⟨pw_cell_below hb (h i hi).1, by rw [hb.frozen (World.block_lt_of_cell? W _ (h i hi).1)]; exact (h i hi).2⟩
theorem BoolAt.put {g : Nat} {S : Nat → Bool} {W : World} (h : BoolAt g S W) {x : Nat} (hx : x < 12) : BoolAt g (setS S x) (W.setCell ⟨g, x, none⟩ (.bool true)) := fun i hi => by
 refine ⟨?_, by rw [World.frozen?_setCell]; exact (h i hi).2⟩
 by_cases e : i = x
 ·subst e
  rw [cs_same (h i hi).1]
  simp [setS]
 ·rw [cs_other (ad_ne (by omega)), (h i hi).1]
  simp [setS, e]
structure MNX (w : World) (g : Nat) (A : Option Addr) (c : Nat) (l : List Src) (B : Option Addr) (d : Nat) (xs : List Int) (S : Nat → Bool) (W : World) : Prop where
 below : Below w.heap.size w W
 tab : Tab W
 src : kS.R 35 W w.heap.size (fun k => k < g) (.slice A l.length c) l
 int : (Kd.int .i64).R 3 W w.heap.size (fun k => g < k) (.slice B xs.length d) xs
 bools : BoolAt g S W
 lo : w.heap.size ≤ g
 pos : 0 < w.heap.size
theorem MNX.next {w : World} {g : Nat} {A : Option Addr} {c : Nat} {l : List Src} {B : Option Addr} {d : Nat} {xs : List Int} {S : Nat → Bool} {W W' : World} (h : MNX w g A c l B d xs S W) (hb : Below W.heap.size W W') : MNX w g A c l B d xs S W' :=
 ⟨h.below.trans (hb.mono h.below.size), h.tab.next hb h.tab.pos, Kd.R_below h.src hb, Kd.R_below h.int hb, h.bools.next hb, h.lo, h.pos⟩
theorem MNX.put {w : World} {g : Nat} {A : Option Addr} {c : Nat} {l : List Src} {B : Option Addr} {d : Nat} {xs : List Int} {S : Nat → Bool} {W : World} (h : MNX w g A c l B d xs S W) {x : Nat} (hx : x < 12) : MNX w g A c l B d xs (setS S x) (W.setCell ⟨g, x, none⟩ (.bool true)) := by
 have hlo := h.lo
 have hpos := h.pos
 refine ⟨h.below.setCell (p := ⟨g, x, none⟩) h.lo _, ?_, Kd.R_far h.src (p := ⟨g, x, none⟩) (fun k hk => by show k ≠ g; omega) _, Kd.R_far h.int (p := ⟨g, x, none⟩) (fun k hk => by show k ≠ g; omega) _, h.bools.put hx, h.lo, h.pos⟩
 obtain ⟨t, ht⟩ := h.tab
 exact ⟨t, heap_set_ne (p := ⟨g, x, none⟩) _ (by show 0 ≠ g; omega) ht⟩
theorem MNX.size {w : World} {g : Nat} {A : Option Addr} {c : Nat} {l : List Src} {B : Option Addr} {d : Nat} {xs : List Int} {S : Nat → Bool} {W : World} (h : MNX w g A c l B d xs S W) : g < W.heap.size := World.block_lt_of_cell? W _ (h.bools 0 (by omega)).1
theorem IntAt.take {B : Option Addr} {d : Nat} {xs : List Int} {W : World} (h : IntAt B d xs W) {i : Nat} (hi : i ≤ xs.length) : IntAt B d (xs.take i) W := ⟨Kd.C_take h.rx hi, by have := h.cx; rw [List.length_take]; omega⟩
def Marked (l : List Src) (xs : List Int) (S : Nat → Bool) : Prop := ∀ y ∈ xs, ∀ o ∈ orgL l y, S o = true
theorem Marked.more {l : List Src} {xs : List Int} {S : Nat → Bool} (h : Marked l xs S) (x : Nat) : Marked l xs (setS S x) := fun y hy o ho => by
 unfold setS
 rw [h y hy o ho, Bool.or_true]
end Go.Proofs.YticngcjfofcoiaaDoor
/- What SourceCopies needs: rows of sources that are appended, the integer that picks one. -/
namespace Go.Proofs.YticngcjfofcoiaaDoor
open Go.RowKit Go.Rg Go.Proofs.YticngcjfofcoiaaDoorW.PrintWords
set_option linter.unusedVariables false
set_option linter.unusedSimpArgs false
set_option maxRecDepth 100000
structure SrcRow (base : Nat) (A : Option Addr) (c : Nat) (l : List Src) (W : World) : Prop where
 r : kS.R 35 W base (fun _ => True) (.slice A l.length c) l
theorem SrcRow.next {base : Nat} {A : Option Addr} {c : Nat} {l : List Src} {W W' : World} (h : SrcRow base A c l W) (hb : Below W.heap.size W W') : SrcRow base A c l W' := ⟨Kd.R_below h.r hb⟩
theorem R_rows {α : Type} {d : Kd α} {e base : Nat} {ok : Nat → Prop} {W : World} {A : Option Addr} {n c : Nat} {xs : List α} (h : d.R e W base ok (.slice A n c) xs) : ReadsRow (d.M W base ok) d.sz W A n xs := by
 obtain ⟨A', c', e', _, hr⟩ := OwnRow.reads h.2
 cases e'
 exact hr.imp_ (Below.refl _ _) (fun _ _ hp => d.M_mono (fun k hk => hk.1) hp)
theorem SrcRow.rows {base : Nat} {A : Option Addr} {c : Nat} {l : List Src} {W : World} (h : SrcRow base A c l W) : ReadsRow (kS.M W base fun k => k < W.heap.size) kS.sz W A l.length l := by
 have h1 := Kd.R_mono (Kd.R_bound h.r) (ok' := fun k => k < W.heap.size) (fun k hk => hk.2.2.1)
 exact R_rows h1
theorem pickV_bd {a n : Int} (hn : 0 < n) : 0 ≤ pickV a n ∧ pickV a n < n := by
 unfold pickV
 split
 ·exact ⟨Int.tmod_nonneg _ (by omega), Int.tmod_lt_of_pos _ hn⟩
 ·exact ⟨Int.tmod_nonneg _ (by omega), Int.tmod_lt_of_pos _ hn⟩
theorem lit_bd {a : Int} (h : (Lit.int .i64 a).wf = true) : -9223372036854775808 ≤ a ∧ a ≤ 9223372036854775807 := by
 have h2 := h
 simp [Lit.wf, show IntKind.i64.min = -9223372036854775808 from rfl, show IntKind.i64.max = 9223372036854775807 from rfl] at h2
 omega
theorem pick_call (a : Int) (n : Nat) (ha : (Lit.int .i64 a).wf = true) (hn : 0 < n) (w : World) : Calls Tryd.prog 31 #[.int .i64 a, .int .i64 n] w fun e w' => ∃ q : Nat, q < n ∧ e = .returned (.int .i64 q) ∧ w' = w := by
 refine (pickL_any a n (lit_bd ha).1 (lit_bd ha).2 (by omega) w).mono ?_
 rintro e w' ⟨rfl, rfl⟩
 have := pickV_bd (a := a) (n := n) (by omega)
 obtain ⟨q, hq⟩ := Int.eq_ofNat_of_zero_le this.1
 exact ⟨q, by omega, by rw [hq], rfl⟩
end Go.Proofs.YticngcjfofcoiaaDoor
/- Rows of slices that are shared. -/
namespace Go.Proofs.YticngcjfofcoiaaDoor
open Go.RowKit Go.Rg Go.Proofs.YticngcjfofcoiaaDoorW.PrintWords
set_option linter.unusedVariables false
set_option linter.unusedSimpArgs false
abbrev Hd := Option Addr × Nat × Nat
def hdv (h : Hd) : Value := .slice h.1 h.2.1 h.2.2
abbrev kh : Kd Hd := Kd.scalar hdv (fun _ => rfl)
def One (W : World) (h : Hd) (x : List Int) : Prop := h.2.1 = x.length ∧ x.length ≤ h.2.2 ∧ (Kd.int .i64).C W h.1 x.length x
def Hds (W : World) : List Hd → List (List Int) → Prop
 |[], [] => True
 |h :: hs, x :: xs => One W h x ∧ Hds W hs xs
 |[], _ :: _ => False
 |_ :: _, [] => False
theorem Hds.below {W W' : World} (hb : Below W.heap.size W W') : ∀ {hs : List Hd} {xs : List (List Int)}, Hds W hs xs → Hds W' hs xs
 |[], [], _ => trivial
 |h :: hs, x :: xs, ⟨h1, h2⟩ => ⟨⟨h1.1, h1.2.1, Kd.C_below h1.2.2 hb⟩, Hds.below hb h2⟩
theorem Hds.len {W : World} : ∀ {hs : List Hd} {xs : List (List Int)}, Hds W hs xs → hs.length = xs.length
 |[], [], _ => rfl
 |h :: hs, x :: xs, ⟨_, h2⟩ => by simp [Hds.len h2]
theorem Hds.snoc {W : World} {y : Hd} {z : List Int} (hz : One W y z) : ∀ {hs : List Hd} {xs : List (List Int)}, Hds W hs xs → Hds W (hs ++ [y]) (xs ++ [z])
 |[], [], _ => ⟨hz, trivial⟩
 |h :: hs, x :: xs, ⟨h1, h2⟩ => ⟨h1, Hds.snoc hz h2⟩
theorem Hds.get {W : World} : ∀ {hs : List Hd} {xs : List (List Int)} {i : Nat}, Hds W hs xs → (h1 : i < hs.length) → (h2 : i < xs.length) → One W hs[i] xs[i]
 |y :: hs, x :: xs, 0, h, _, _ => h.1
 |y :: hs, x :: xs, i + 1, h, h1, h2 => Hds.get (i := i) h.2 (by simpa using h1) (by simpa using h2)
theorem C_heads {W : World} {A : Option Addr} {hs : List Hd} {xs : List (List Int)} (h : kh.C W A hs.length hs) (hx : Hds W hs xs) : (Kd.slice 3 (Kd.int .i64)).C W A xs.length xs := by
 have hl := hx.len
 refine ⟨rfl, by rw [← hl]; exact h.2.1, fun h0 => ?_⟩
 obtain ⟨ad, e, hc⟩ := h.2.2 (by omega)
 refine ⟨ad, e, fun j p hj => ?_⟩
 obtain ⟨hj1, rfl⟩ := List.getElem?_eq_some_iff.1 hj
 obtain ⟨cs, hlen, hcs, hget⟩ := hc j hs[j] (List.getElem?_eq_getElem (by omega))
 have ho := hx.get (i := j) (by omega) hj1
 refine ⟨cs, hlen, ⟨hs[j].1, hs[j].2.2, ?_, ho.2.1, ho.2.2⟩, hget⟩
 rw [show cs = [hdv hs[j]] from hcs]
 show [Value.slice _ _ _] = _
 rw [ho.1]
theorem onehead {W : World} {g : Nat} {e : TypeId} {y : Hd} (h : W.heap[g]? = some (.cells #[hdv y] e (0, 0))) : kh.C W (some ⟨g, 0, none⟩) 1 [y] := by
 refine ⟨rfl, by decide, fun _ => ⟨_, rfl, fun j p hj => ⟨[hdv p], rfl, rfl, fun i u hi => ?_⟩⟩⟩
 obtain ⟨hjl, hp⟩ := List.getElem?_eq_some_iff.1 hj
 have hj0 : j = 0 := by simpa using hjl
 subst hj0
 cases i with
 |zero =>
  obtain rfl : hdv p = u := by simpa using hi
  rw [add_plain]
  refine cell_of h ?_
  simp at hp
  simp [hp]
 |succ i => simp at hi
theorem One.take {W : World} {A : Option Addr} {n c : Nat} {x : List Int} (h : One W (A, n, c) x) (m : Nat) : One W (A, min x.length m, c) (x.take m) := by
 refine ⟨by simp [Nat.min_comm], ?_, ?_⟩
 ·rw [List.length_take]; have := h.2.1; show _ ≤ c; have : x.length ≤ c := this; omega
 ·have h1 := Kd.C_take h.2.2 (m := min x.length m) (by omega)
  have e2 : (x.take m).length = min x.length m := by rw [List.length_take, Nat.min_comm]
  have e : x.take (min x.length m) = x.take m := by
   rcases Nat.le_total x.length m with hh | hh
   ·rw [Nat.min_eq_left hh, List.take_length, List.take_of_length_le hh]
   ·rw [Nat.min_eq_right hh]
  rw [e] at h1
  show (Kd.int .i64).C W A (x.take m).length (x.take m)
  exact h1
theorem Hds.take {W : World} : ∀ {hs : List Hd} {xs : List (List Int)} (k : Nat), Hds W hs xs → Hds W (hs.take k) (xs.take k)
 |[], [], _, _ => by simp; trivial
 |h :: hs, x :: xs, 0, _ => trivial
 |h :: hs, x :: xs, k + 1, ⟨h1, h2⟩ => ⟨h1, Hds.take k h2⟩
theorem Hds.drop {W : World} : ∀ {hs : List Hd} {xs : List (List Int)} (k : Nat), Hds W hs xs → Hds W (hs.drop k) (xs.drop k)
 |[], [], _, _ => by simp; trivial
 |h :: hs, x :: xs, 0, h0 => h0
 |h :: hs, x :: xs, k + 1, ⟨h1, h2⟩ => Hds.drop k h2
theorem Hds.append {W : World} {ks : List Hd} {ys : List (List Int)} (hk : Hds W ks ys) : ∀ {hs : List Hd} {xs : List (List Int)}, Hds W hs xs → Hds W (hs ++ ks) (xs ++ ys)
 |[], [], _ => hk
 |h :: hs, x :: xs, ⟨h1, h2⟩ => ⟨h1, Hds.append hk h2⟩
end Go.Proofs.YticngcjfofcoiaaDoor
/- What SourceCertified says of plain lists: Check accepts the ways and the cut; what it accepts has the least cut's number. -/
namespace Go.Proofs.YticngcjfofcoiaaDoor
open Go.RowKit Go.Rg Go.Proofs.YticngcjfofcoiaaDoorW.PrintWords
set_option linter.unusedVariables false
set_option linter.unusedSimpArgs false
theorem chn_iff {E : Nat → Nat → Bool} : ∀ {p : List Nat}, Flow.Chn E p ↔ ∀ i (h : i + 1 < p.length), E (p[i]'(by omega)) p[i + 1] = true
 |[] => ⟨fun _ i h => by simp at h, fun _ => trivial⟩
 |[x] => ⟨fun _ i h => by simp at h, fun _ => trivial⟩
 |x :: y :: r => by
  have ih := chn_iff (E := E) (p := y :: r)
  constructor
  ·rintro ⟨h1, h2⟩ i h
   cases i with
   |zero => exact h1
   |succ i => exact (ih.1 h2) i (by simpa using h)
  ·intro h
   exact ⟨h 0 (by simp), ih.2 fun i hi => h (i + 1) (by simpa using hi)⟩
theorem last_get {p : List Nat} {x : Nat} (h : p.getLast? = some x) : ∃ hp : 0 < p.length, p[p.length - 1]'(by omega) = x := by
 rw [List.getLast?_eq_getElem?] at h
 obtain ⟨h1, h2⟩ := List.getElem?_eq_some_iff.1 h
 exact ⟨by omega, h2⟩
end Go.Proofs.YticngcjfofcoiaaDoor
