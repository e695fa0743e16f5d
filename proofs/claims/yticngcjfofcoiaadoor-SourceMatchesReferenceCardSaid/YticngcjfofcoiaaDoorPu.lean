/- The contract of flow's inner function: a search by room, with what it takes. -/
import Derived.Test.YticngcjfofcoiaaDoorSx
import Derived.Test.YticngcjfofcoiaaDoorFl
namespace Go.Proofs.YticngcjfofcoiaaDoor
open Go.RowKit Go.Rg Go.Proofs.YticngcjfofcoiaaDoorW.PrintWords
set_option linter.unusedVariables false
set_option linter.unusedSimpArgs false
structure PX (SB LB NB PB : Nat) (S : Nat → Bool) (R : Nat → Nat → Int) (W : World) : Prop where
 hs : ∀ i, i < 26 → W.cell? ⟨SB, i, none⟩ = some (.bool (S i)) ∧ W.frozen? ⟨SB, i, none⟩ = false
 hn : ∀ a b, a < 26 → b < 26 → W.cell? ⟨NB, a * 26 + b, none⟩ = some (.int .i64 (R a b)) ∧ W.frozen? ⟨NB, a * 26 + b, none⟩ = false
 hl : W.cell? ⟨LB, 0, none⟩ = some (.pointer (some ⟨NB, 0, none⟩))
 hp : W.cell? ⟨PB, 0, none⟩ = some (.func (.func 75) #[] #[.pointer (some ⟨SB, 0, none⟩), .pointer (some ⟨LB, 0, none⟩), .pointer (some ⟨PB, 0, none⟩)])
 ne : SB ≠ NB ∧ LB ≠ SB ∧ LB ≠ NB ∧ PB ≠ SB ∧ PB ≠ NB
theorem cs_same {W : World} {p : Addr} {u : Value} (h : W.cell? p = some u) (v : Value) : (W.setCell p v).cell? p = some v := World.cell?_setCell_same' W p v (by rw [h]; rfl)
theorem cs_other {W : World} {p q : Addr} (h : p ≠ q) (v : Value) : (W.setCell p v).cell? q = W.cell? q := by
 first | exact World.cell?_setCell_other h | exact World.cell?_setCell_other W h | exact World.cell?_setCell_other W p q v h
theorem ad_ne {b c o d : Nat} (h : b ≠ c ∨ o ≠ d) : (⟨b, o, none⟩ : Addr) ≠ ⟨c, d, none⟩ := fun e => by
 have e1 : b = c := congrArg Addr.block e
 have e2 : o = d := congrArg Addr.off e
 omega
def setS (S : Nat → Bool) (x i : Nat) : Bool := decide (i = x) || S i
def setR (R : Nat → Nat → Int) (a b : Nat) (v : Int) (x y : Nat) : Int := if x = a ∧ y = b then v else R x y
theorem PX.see {SB LB NB PB : Nat} {S : Nat → Bool} {R : Nat → Nat → Int} {W : World} (h : PX SB LB NB PB S R W) {x : Nat} (hx : x < 26) : PX SB LB NB PB (setS S x) R (W.setCell ⟨SB, x, none⟩ (.bool true)) := by
 obtain ⟨n1, n2, n3, n4, n5⟩ := h.ne
 refine ⟨fun i hi => ⟨?_, by rw [World.frozen?_setCell]; exact (h.hs i hi).2⟩, fun a b ha hb => ⟨?_, by rw [World.frozen?_setCell]; exact (h.hn a b ha hb).2⟩, ?_, ?_, h.ne⟩
 ·by_cases e : i = x
  ·subst e
   rw [cs_same (h.hs i hi).1]
   simp [setS]
  ·rw [cs_other (ad_ne (by omega)), (h.hs i hi).1]
   simp [setS, e]
 ·rw [cs_other (ad_ne (by omega))]; exact (h.hn a b ha hb).1
 ·rw [cs_other (ad_ne (by omega))]; exact h.hl
 ·rw [cs_other (ad_ne (by omega))]; exact h.hp
theorem PX.put {SB LB NB PB : Nat} {S : Nat → Bool} {R : Nat → Nat → Int} {W : World} (h : PX SB LB NB PB S R W) {x y : Nat} (hx : x < 26) (hy : y < 26) (v : Int) : PX SB LB NB PB S (setR R x y v) (W.setCell ⟨NB, x * 26 + y, none⟩ (.int .i64 v)) := by
 obtain ⟨n1, n2, n3, n4, n5⟩ := h.ne
 refine ⟨fun i hi => ⟨?_, by rw [World.frozen?_setCell]; exact (h.hs i hi).2⟩, fun a b ha hb => ⟨?_, by rw [World.frozen?_setCell]; exact (h.hn a b ha hb).2⟩, ?_, ?_, h.ne⟩
 ·rw [cs_other (ad_ne (by omega))]; exact (h.hs i hi).1
 ·unfold setR
  by_cases e : a = x ∧ b = y
  ·rw [if_pos e]
   obtain ⟨rfl, rfl⟩ := e
   exact cs_same (h.hn a b ha hb).1 _
  ·rw [if_neg e, cs_other (ad_ne (by omega)), (h.hn a b ha hb).1]
 ·rw [cs_other (ad_ne (by omega))]; exact h.hl
 ·rw [cs_other (ad_ne (by omega))]; exact h.hp
theorem PX.fr {SB LB NB PB : Nat} {S : Nat → Bool} {R : Nat → Nat → Int} {W W' : World} (h : PX SB LB NB PB S R W) (hf : Fr (fun _ => False) W W') : PX SB LB NB PB S R W' := by
 refine ⟨fun i hi => ⟨hf.cell (h.hs i hi).1 (fun h => h), ?_⟩, fun a b ha hb => ⟨hf.cell (h.hn a b ha hb).1 (fun h => h), ?_⟩, hf.cell h.hl (fun h => h), hf.cell h.hp (fun h => h), h.ne⟩
 ·rw [hf.frozen (World.block_lt_of_cell? W _ (h.hs i hi).1) (fun h => h)]; exact (h.hs i hi).2
 ·rw [hf.frozen (World.block_lt_of_cell? W _ (h.hn a b ha hb).1) (fun h => h)]; exact (h.hn a b ha hb).2
def rowV (R : Nat → Nat → Int) (a : Nat) : List Value := (List.range 26).map fun b => .int .i64 (R a b)
theorem rowV_len (R : Nat → Nat → Int) (a : Nat) : (rowV R a).length = 26 := by simp [rowV]
theorem rowV_get (R : Nat → Nat → Int) (a b : Nat) (hb : b < 26) : (rowV R a)[b]? = some (.int .i64 (R a b)) := by
 unfold rowV
 rw [List.getElem?_map, List.getElem?_range hb]; rfl
theorem PX.range {SB LB NB PB : Nat} {S : Nat → Bool} {R : Nat → Nat → Int} {W : World} (h : PX SB LB NB PB S R W) {a : Nat} (ha : a < 26) : W.rangeAt NB (a * 26) (rowV R a) := fun j v hj => by
 have hj26 : j < 26 := by have := (List.getElem?_eq_some_iff.1 hj).1; rwa [rowV_len] at this
 rw [rowV_get R a j hj26] at hj
 cases hj
 exact (h.hn a j ha hj26).1
theorem PX.row {SB LB NB PB : Nat} {S : Nat → Bool} {R : Nat → Nat → Int} {W : World} (h : PX SB LB NB PB S R W) {a : Nat} (ha : a < 26) : (Instr.loadAt 102 (.pointer (some ⟨NB, a * 26, none⟩))).run Tryd.prog W = .ok (.agg (rowV R a).toArray) W :=
 run_loadAt_mid W NB (a * 26) 102 (rowV R a) _ (h.range ha) Tryd.underlying102 rfl (by rw [rowV_len]; kernel_rfl)
theorem row_index (R : Nat → Nat → Int) (a b : Nat) (hb : b < 26) (W : World) : (Instr.index 102 (.agg (rowV R a).toArray) (.int .i64 b)).run Tryd.prog W = .ok (.int .i64 (R a b)) W := by
 have h1 := rowV_get R a b hb
 have h2 : (b : Int) < 26 := by omega
 simp [Instr.index, go_sem, Tryd.underlying102, h1, h2, hb]
def PuPost (SB LB NB PB : Nat) (S : Nat → Bool) (R : Nat → Nat → Int) (at_ : Nat) (W : World) (e : Ending) (W' : World) : Prop :=
 (∃ S' r, e = .returned (.bool true) ∧ PX SB LB NB PB S' (Flow.takeP R (at_ :: r)) W' ∧ Fr (fun k => k = SB ∨ k = NB) W W' ∧ (at_ :: r).getLast? = some 25 ∧ (at_ :: r).Nodup ∧ (∀ x ∈ at_ :: r, x < 26 ∧ S x = false) ∧ ∀ a b, Flow.consec (at_ :: r) a b = true → 0 < R a b) ∨
 (∃ S', e = .returned (.bool false) ∧ PX SB LB NB PB S' R W' ∧ Fr (fun k => k = SB ∨ k = NB) W W' ∧ (∀ i, S i = true → S' i = true) ∧ S' at_ = true ∧ S' 25 = false ∧ ∀ x, S' x = true → S x = false → ∀ y, y < 26 → 0 < R x y → S' y = true)
theorem take_nil (R : Nat → Nat → Int) (a : Nat) : Flow.takeP R [a] = R := by
 funext x y
 simp [Flow.takeP, Flow.consec]
theorem unseen_lt {S S' : Nat → Bool} {x : Nat} (hx : x < 26) (h0 : S x = false) (h1 : S' x = true) (hm : ∀ i, S i = true → S' i = true) : ((List.range 26).filter fun i => !S' i).length + 1 ≤ ((List.range 26).filter fun i => !S i).length := by
 have e1 := Flow.filter_count 26 (fun i => !S' i)
 have e2 := Flow.filter_count 26 (fun i => !S i)
 have e3 := Flow.count_less (K := 26) (D := fun i => !S i) hx (by rw [h0]; rfl)
 have e4 : Flow.count 26 (fun i => !S' i) ≤ Flow.count 26 (Flow.less (fun i => !S i) x) := Flow.sum_le fun i _ => by
  show (if (!S' i) = true then (1 : Int) else 0) ≤ if ((!S i) && decide (i ≠ x)) = true then 1 else 0
  by_cases hi : i = x
  ·subst hi; simp [h1]
  ·have := hm i
   cases hs : S i <;> cases hs' : S' i <;> simp [hi]
   rw [hs, hs'] at this
   simp at this
 omega
theorem meas_up1 {k N : Nat} (h : k < N) : N - (intOf (Value.int IntKind.i64 ((k : Int) + 1))).toNat < N - (intOf (Value.int IntKind.i64 (k : Int))).toNat := by
 simp only [intOf]
 omega
theorem take_bd {R : Nat → Nat → Int} (q : List Nat) (a b : Nat) : R a b - 1 ≤ Flow.takeP R q a b ∧ Flow.takeP R q a b ≤ R a b + 1 := by
 unfold Flow.takeP
 split <;> split <;> omega
theorem take_two {R : Nat → Nat → Int} {a k : Nat} {r : List Nat} (hn : (a :: k :: r).Nodup) : Flow.takeP R (a :: k :: r) = setR (setR (Flow.takeP R (k :: r)) a k (Flow.takeP R (k :: r) a k - 1)) k a (Flow.takeP R (k :: r) k a + 1) := by
 have hn' := List.nodup_cons.1 hn
 have hak : a ≠ k := fun e => hn'.1 (by rw [e]; simp)
 have n1 : ∀ x, Flow.consec (k :: r) a x = true → False := fun x h => hn'.1 (Flow.consec_mem h).1
 have n2 : ∀ x, Flow.consec (k :: r) x a = true → False := fun x h => hn'.1 (Flow.consec_mem h).2
 funext x y
 have hc : ∀ x y, Flow.consec (a :: k :: r) x y = ((decide (x = a) && decide (y = k)) || Flow.consec (k :: r) x y) := fun _ _ => rfl
 unfold setR Flow.takeP
 simp only [hc, Bool.or_eq_true, Bool.and_eq_true, decide_eq_true_eq]
 by_cases h1 : x = k ∧ y = a
 ·obtain ⟨rfl, rfl⟩ := h1
  have e1 : ¬ (x = y ∧ y = x) := fun h => hak h.2
  have e2 : ¬ Flow.consec (x :: r) x y = true := fun h => n2 _ h
  have e3 : ¬ Flow.consec (x :: r) y x = true := fun h => n1 _ h
  simp [e1, e2, e3]
 ·by_cases h2 : x = a ∧ y = k
  ·obtain ⟨rfl, rfl⟩ := h2
   have e1 : ¬ (y = x ∧ x = y) := fun h => hak h.2
   have e2 : ¬ Flow.consec (y :: r) x y = true := fun h => n1 _ h
   have e3 : ¬ Flow.consec (y :: r) y x = true := fun h => n2 _ h
   simp [e1, e2, e3, hak]
  ·have h3 : ¬ (y = a ∧ x = k) := fun h => h1 ⟨h.2, h.1⟩
   simp [h1, h2, h3]
set_option maxRecDepth 100000 in
set_option maxHeartbeats 4000000 in
theorem push_step (SB LB NB PB : Nat) (R : Nat → Nat → Int) (hR : ∀ a b, a < 26 → b < 26 → 0 ≤ R a b ∧ R a b ≤ 1000) (m : Nat)
  (ih : ∀ (S : Nat → Bool) (at_ : Nat) (W : World), at_ < 26 → S at_ = false → S 25 = false → PX SB LB NB PB S R W → ((List.range 26).filter fun i => !S i).length ≤ m → Calls Tryd.prog 75 #[.int .i64 at_, .pointer (some ⟨SB, 0, none⟩), .pointer (some ⟨LB, 0, none⟩), .pointer (some ⟨PB, 0, none⟩)] W (PuPost SB LB NB PB S R at_ W))
  (S : Nat → Bool) (at_ : Nat) (W : World) (hat : at_ < 26) (hS : S at_ = false) (h25 : S 25 = false) (hX : PX SB LB NB PB S R W) (hm : ((List.range 26).filter fun i => !S i).length ≤ m + 1) :
  Calls Tryd.prog 75 #[.int .i64 at_, .pointer (some ⟨SB, 0, none⟩), .pointer (some ⟨LB, 0, none⟩), .pointer (some ⟨PB, 0, none⟩)] W (PuPost SB LB NB PB S R at_ W) := by
 have IH := Lib.hid ih; clear ih
 have HX := Lib.hid hX; clear hX
 have HR := Lib.hid hR; clear hR
 have HM := Lib.hid (And.intro hm (And.intro hS h25)); clear hm hS h25
 by_cases he : at_ = 25
 ·have heq : ((at_ : Int) == 25) = true := by subst he; rfl
  go_enter Tryd.func75, Tryd.ntmps75
  go_wp2_with fail
  go_ret
  subst he
  exact .inl ⟨S, [], rfl, by rw [take_nil]; exact HX.out, Fr.refl _ _, by simp, by simp, fun x hx => (by rw [show x = 25 by simpa using hx]; exact ⟨hat, HM.out.2.1⟩), fun a b h => (by simp [Flow.consec] at h)⟩
 ·have heq : ((at_ : Int) == 25) = false := by simp; omega
  have hatI : (at_ : Int) < 26 := by omega
  have hX1 := HX.out.see hat
  have cS := (HX.out.hs at_ hat).1
  have fS := (HX.out.hs at_ hat).2
  have hrow := hX1.range hat
  have cL := hX1.hl
  have HX1 := Lib.hid hX1; clear hX1
  have hsz : (Tryd.prog.info? 102).map (·.size) = some (rowV R at_).length := by rw [rowV_len]; kernel_rfl
  go_enter Tryd.func75, Tryd.ntmps75
  go_wp2_with (refine wpList_load_mid rfl 102 (.tmp 15) rfl NB (at_ * 26) rfl (rowV R at_) _ hrow Tryd.underlying102 rfl hsz ?_)
  have HB0 := Lib.hid (show Fr (fun k => k = SB ∨ k = NB) W (W.setCell ⟨SB, at_, none⟩ (.bool true)) from (Fr.refl _ _).setCell _ _ (fun _ => .inl rfl))
  clear hrow cL cS fS
  generalize W.setCell ⟨SB, at_, none⟩ (.bool true) = W1 at *
  go_loopw [17] (fun kv wr => ∃ k : Nat, k ≤ 26 ∧ kv = .int .i64 k ∧ ∃ S' : Nat → Bool, Hid (PX SB LB NB PB S' R wr ∧ Fr (fun k => k = SB ∨ k = NB) W wr ∧ (∀ i, S i = true → S' i = true) ∧ S' at_ = true ∧ S' 25 = false ∧ (∀ x, S' x = true → S x = false → x ≠ at_ → ∀ y, y < 26 → 0 < R x y → S' y = true) ∧ ∀ y, y < k → 0 < R at_ y → S' y = true)) (fun kv wr => 26 - (intOf kv).toNat)
  case atStart =>
   refine ⟨0, by omega, rfl, setS S at_, Lib.hid ⟨HX1.out, HB0.out, fun i h => by simp [setS, h], by simp [setS], ?_, fun x h1 h2 h3 => ?_, fun y h => absurd h (Nat.not_lt_zero _)⟩⟩
   ·have : ¬ (25 = at_) := fun h => he h.symm
    simp [setS, this, HM.out.2.2]
   ·simp [setS, h2, h3] at h1
  case round =>
   obtain ⟨k, hk, rfl, S', HI⟩ := hrel
   by_cases hk26 : k < 26
   ·have hkI : (k : Int) < 26 := by omega
    have hidx := row_index R at_ k hk26 wr
    have hrm := HR.out at_ k hat hk26
    obtain ⟨rm, hrmv⟩ : ∃ rm, R at_ k = rm := ⟨_, rfl⟩
    rw [hrmv] at hidx hrm
    have HRM := Lib.hid hrmv; clear hrmv
    have hwk : wrap64 ((k : Int) + 1) = (k : Int) + 1 := wrap_in (by omega) (by omega)
    cases hpos : decide (0 < rm) with
    |false =>
     have HN := Lib.hid (show ∀ y, y < k + 1 → 0 < R at_ y → S' y = true from fun y hy h => by
      by_cases e : y = k
      ·subst e
       rw [HRM.out] at h
       simp at hpos
       omega
      ·exact HI.out.2.2.2.2.2.2 y (by omega) h)
     go_wp2_with fail
     go_roundw
     case rel => exact ⟨k + 1, by omega, by go_num, S', Lib.hid ⟨HI.out.1, HI.out.2.1, HI.out.2.2.1, HI.out.2.2.2.1, HI.out.2.2.2.2.1, HI.out.2.2.2.2.2.1, HN.out⟩⟩
     case measure => exact meas_up1 hk26
    |true =>
     have cS := (HI.out.1.hs k hk26).1
     cases hsk : S' k with
     |true =>
      rw [hsk] at cS
      have HN := Lib.hid (show ∀ y, y < k + 1 → 0 < R at_ y → S' y = true from fun y hy h => by
       by_cases e : y = k
       ·subst e; exact hsk
       ·exact HI.out.2.2.2.2.2.2 y (by omega) h)
      clear hsk
      go_wp2_with fail
      go_roundw
      case rel => exact ⟨k + 1, by omega, by go_num, S', Lib.hid ⟨HI.out.1, HI.out.2.1, HI.out.2.2.1, HI.out.2.2.2.1, HI.out.2.2.2.2.1, HI.out.2.2.2.2.2.1, HN.out⟩⟩
      case measure => exact meas_up1 hk26
     |false =>
      rw [hsk] at cS
      have cP := HI.out.1.hp
      have hcnt := unseen_lt hat HM.out.2.1 HI.out.2.2.2.1 HI.out.2.2.1
      have hC := IH.out S' k wr hk26 hsk HI.out.2.2.2.2.1 HI.out.1 (by have := HM.out.1; omega)
      have HC := Lib.hid (And.intro hC hsk); clear hC hsk hcnt
      go_wp2_with fail
      refine HC.out.1.mono ?_
      rintro e w1 (⟨S2, r, rfl, p1, p2, p3, p4, p5, p6⟩ | ⟨S2, rfl, p1, p2, p3, p4, p5, p6⟩)
      ·have hnd : (at_ :: k :: r).Nodup := List.nodup_cons.2 ⟨fun hm => by
        have h3 := (p5 at_ hm).2
        rw [HI.out.2.2.2.1] at h3
        exact absurd h3 (by simp), p4⟩
       have hak : at_ ≠ k := fun e => (List.nodup_cons.1 hnd).1 (by rw [e]; simp)
       have b1 := take_bd (R := R) (k :: r) at_ k
       have b2 := take_bd (R := R) (k :: r) k at_
       have hr1 := HR.out at_ k hat hk26
       have hr2 := HR.out k at_ hk26 hat
       have ht2 := take_two (R := R) hnd
       have HRET := Lib.hid (show (at_ :: k :: r).getLast? = some 25 ∧ (at_ :: k :: r).Nodup ∧ (∀ x ∈ at_ :: k :: r, x < 26 ∧ S x = false) ∧ ∀ a b, Flow.consec (at_ :: k :: r) a b = true → 0 < R a b from by
        refine ⟨by rw [List.getLast?_cons_cons]; exact p3, hnd, fun x hx => ?_, fun a b h => ?_⟩
        ·rcases List.mem_cons.1 hx with rfl | hx
         ·exact ⟨hat, HM.out.2.1⟩
         ·refine ⟨(p5 x hx).1, ?_⟩
          rw [← Bool.not_eq_true]
          intro hs
          have := HI.out.2.2.1 x hs
          rw [(p5 x hx).2] at this
          cases this
        ·have h' : ((decide (a = at_) && decide (b = k)) || Flow.consec (k :: r) a b) = true := h
         simp only [Bool.or_eq_true, Bool.and_eq_true, decide_eq_true_eq] at h'
         rcases h' with ⟨rfl, rfl⟩ | h'
         ·rw [HRM.out]
          simpa using hpos
         ·exact p6 a b h')
       have HT2 := Lib.hid ht2; clear ht2 p3 p4 p5 p6 HC
       obtain ⟨R1, hR1⟩ : ∃ R1, Flow.takeP R (k :: r) = R1 := ⟨_, rfl⟩
       rw [hR1] at p1 b1 b2 HT2
       clear hR1
       have HF1 := Lib.hid (HI.out.2.1.trans p2); clear p2
       obtain ⟨v, hv⟩ : ∃ v, R1 at_ k = v := ⟨_, rfl⟩
       obtain ⟨u, hu⟩ : ∃ u, R1 k at_ = u := ⟨_, rfl⟩
       rw [hv] at b1
       rw [hu] at b2
       rw [hv, hu] at HT2
       have hwv : wrap64 (v - 1) = v - 1 := wrap_in (by omega) (by omega)
       have hwu : wrap64 (u + 1) = u + 1 := wrap_in (by omega) (by omega)
       have q1 := (p1.hn at_ k hat hk26).1
       rw [hv] at q1
       have eN := cell_ext q1
       have eL := cell_ext p1.hl
       clear q1
       have HP1 := Lib.hid p1; clear p1
       clear hidx cS cP
       go_wp2_with fail
       refine region_late [] [0, 1, 2, 3, 4, 5, 6, 7, 8, 9, 10] [11] (by kernel_rfl) (by kernel_rfl) (fun c a d v w h => by rcases h.2 with ⟨_, _, h, _⟩ | ⟨_, h, _⟩ <;> cases h) ?_
       simp only [pick_cons, pick_nil, nthO_succ, nthO_zero]
       refine wpQuiet_nil ?_
       repeat (go_big_quiet_step (fail))
       refine wpQuiet_nil ?_
       rintro W' ⟨X, rfl⟩
       clear eN eL
       have hX1 := HP1.out.fr X.2
       have g1 := (hX1.hn at_ k hat hk26).1
       have f1 := (hX1.hn at_ k hat hk26).2
       have hX2 := hX1.put hat hk26 (v - 1)
       have HX2 := Lib.hid (And.intro hX2 ((HF1.out.trans (X.2.mono fun _ _ h => h.elim)).setCell ⟨NB, at_ * 26 + k, none⟩ (.int .i64 (v - 1)) (fun _ => .inr rfl))); clear hX2 hX1 HP1 HF1
       go_wp2_with fail
       generalize X.val.setCell ⟨NB, at_ * 26 + k, none⟩ (.int .i64 (v - 1)) = W2 at *
       clear g1 f1 hwv
       have h2 : setR R1 at_ k (v - 1) k at_ = u := by
        unfold setR
        rw [if_neg (fun h => hak h.2), hu]
       have q1 := (HX2.out.1.hn k at_ hk26 hat).1
       rw [h2] at q1
       have eN := cell_ext q1
       have eL := cell_ext HX2.out.1.hl
       clear q1 h2
       refine region_late [] [0, 1, 2, 3, 4, 5, 6, 7, 8, 9, 10] [11] (by kernel_rfl) (by kernel_rfl) (fun c a d v w h => by rcases h.2 with ⟨_, _, h, _⟩ | ⟨_, h, _⟩ <;> cases h) ?_
       simp only [pick_cons, pick_nil, nthO_succ, nthO_zero]
       refine wpQuiet_nil ?_
       repeat (go_big_quiet_step (fail))
       refine wpQuiet_nil ?_
       rintro W' ⟨X2, rfl⟩
       clear eN eL
       have hX1 := HX2.out.1.fr X2.2
       have g1 := (hX1.hn k at_ hk26 hat).1
       have f1 := (hX1.hn k at_ hk26 hat).2
       have hX3 := hX1.put hk26 hat (u + 1)
       have HX3 := Lib.hid (And.intro hX3 ((HX2.out.2.trans (X2.2.mono fun _ _ h => h.elim)).setCell ⟨NB, k * 26 + at_, none⟩ (.int .i64 (u + 1)) (fun _ => .inr rfl))); clear hX3 hX1 HX2
       go_wp2_with fail
       go_ret
       exact .inl ⟨S2, k :: r, rfl, by rw [HT2.out]; exact HX3.out.1, HX3.out.2, HRET.out.1, HRET.out.2.1, HRET.out.2.2.1, HRET.out.2.2.2⟩
      ·have HN := Lib.hid (show PX SB LB NB PB S2 R w1 ∧ Fr (fun k => k = SB ∨ k = NB) W w1 ∧ (∀ i, S i = true → S2 i = true) ∧ S2 at_ = true ∧ S2 25 = false ∧ (∀ x, S2 x = true → S x = false → x ≠ at_ → ∀ y, y < 26 → 0 < R x y → S2 y = true) ∧ ∀ y, y < k + 1 → 0 < R at_ y → S2 y = true from by
        refine ⟨p1, HI.out.2.1.trans p2, fun i h => p3 i (HI.out.2.2.1 i h), p3 _ HI.out.2.2.2.1, p5, fun x h1 h2 h3 y hy h => ?_, fun y hy h => ?_⟩
        ·cases hx : S' x with
         |true => exact p3 y (HI.out.2.2.2.2.2.1 x hx h2 h3 y hy h)
         |false => exact p6 x h1 hx y hy h
        ·by_cases e : y = k
         ·subst e; exact p4
         ·exact p3 y (HI.out.2.2.2.2.2.2 y (by omega) h))
       clear p1 p2 p3 p4 p5 p6
       go_wp2_with fail
       go_roundw
       case rel => exact ⟨k + 1, by omega, by go_num, S2, Lib.hid HN.out⟩
       case measure => exact meas_up1 hk26
   ·obtain rfl : k = 26 := by omega
    have HN := Lib.hid (show PuPost SB LB NB PB S R at_ W (.returned (.bool false)) wr from .inr ⟨S', rfl, HI.out.1, HI.out.2.1, HI.out.2.2.1, HI.out.2.2.2.1, HI.out.2.2.2.2.1, fun x h1 h2 y hy h => by
     by_cases e : x = at_
     ·subst e; exact HI.out.2.2.2.2.2.2 y hy h
     ·exact HI.out.2.2.2.2.2.1 x h1 h2 e y hy h⟩)
    go_wp2_with fail
    go_ret
    exact HN.out
theorem push_any (SB LB NB PB : Nat) (R : Nat → Nat → Int) (hR : ∀ a b, a < 26 → b < 26 → 0 ≤ R a b ∧ R a b ≤ 1000) : ∀ (m : Nat) (S : Nat → Bool) (at_ : Nat) (W : World), at_ < 26 → S at_ = false → S 25 = false → PX SB LB NB PB S R W → ((List.range 26).filter fun i => !S i).length ≤ m → Calls Tryd.prog 75 #[.int .i64 at_, .pointer (some ⟨SB, 0, none⟩), .pointer (some ⟨LB, 0, none⟩), .pointer (some ⟨PB, 0, none⟩)] W (PuPost SB LB NB PB S R at_ W)
 |0, S, at_, W, hat, hS, h25, hX, hm => by
  exfalso
  have : at_ ∈ (List.range 26).filter fun i => !S i := List.mem_filter.2 ⟨List.mem_range.2 hat, by rw [hS]; rfl⟩
  have h0 : (List.range 26).filter (fun i => !S i) = [] := List.eq_nil_of_length_eq_zero (by omega)
  rw [h0] at this
  cases this
 |m + 1, S, at_, W, hat, hS, h25, hX, hm => push_step SB LB NB PB R hR m (push_any SB LB NB PB R hR m) S at_ W hat hS h25 hX hm
end Go.Proofs.YticngcjfofcoiaaDoor
