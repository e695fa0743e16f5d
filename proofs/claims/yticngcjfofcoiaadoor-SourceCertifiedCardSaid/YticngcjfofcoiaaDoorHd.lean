/- The head of a law on sources: what lies after Made and Chosen; supports that lie. -/
import Derived.Test.YticngcjfofcoiaaDoorSn
import Derived.Test.YticngcjfofcoiaaDoorMq
namespace Go.Proofs.YticngcjfofcoiaaDoor
open Go.RowKit Go.Rg Go.Proofs.YticngcjfofcoiaaDoorW.PrintWords
set_option linter.unusedVariables false
set_option linter.unusedSimpArgs false
set_option maxRecDepth 100000

/-- Sources that lie, and a list of numbers of some. -/
structure SrcAt (A : Option Addr) (c : Nat) (l : List Src) (W : World) : Prop where
  rl : Kd.C kS W A l.length l
  cl : l.length ≤ c
  short : ∀ s ∈ l, s.frm.length ≤ 1000
theorem SrcAt.next {A : Option Addr} {c : Nat} {l : List Src} {W W' : World} (h : SrcAt A c l W) (hb : Below W.heap.size W W') : SrcAt A c l W' := ⟨Kd.C_below h.rl hb, h.cl, h.short⟩
structure IntAt (B : Option Addr) (d : Nat) (xs : List Int) (W : World) : Prop where
  rx : (Kd.int .i64).C W B xs.length xs
  cx : xs.length ≤ d
theorem IntAt.next {A : Option Addr} {c : Nat} {l : List Int} {W W' : World} (h : IntAt A c l W) (hb : Below W.heap.size W W') : IntAt A c l W' := ⟨Kd.C_below h.rx hb, h.cx⟩
/-- What lies behind Made and Chosen. -/
structure HX (w : World) (A : Option Addr) (c : Nat) (l : List Src) (B : Option Addr) (d : Nat) (xs : List Int) (W : World) : Prop where
  below : Below w.heap.size w W
  tab : Tab W
  src : SrcAt A c l W
  int : IntAt B d xs W
theorem HX.next {w : World} {A : Option Addr} {c : Nat} {l : List Src} {B : Option Addr} {d : Nat} {xs : List Int} {W W' : World} (h : HX w A c l B d xs W) (hb : Below W.heap.size W W') : HX w A c l B d xs W' :=
  ⟨h.below.trans (hb.mono h.below.size), h.tab.next hb h.tab.pos, h.src.next hb, h.int.next hb⟩
theorem made_call (XA : Option Addr) (xc : Nat) (x : List (Int × Int × Int)) (w : World) (hx : Kd.C k3 w XA x.length x) :
    Calls Tryd.prog 11 #[.slice XA x.length xc] w fun e w' => ∃ (A : Option Addr) (c : Nat) (l : List Src), e = .returned (.slice A l.length c) ∧ Hid (SrcAt A c l w' ∧ MadeL l.length l ∧ l.length ≤ 10 ∧ Below w.heap.size w w') := by
  refine (made_any XA xc x w hx).mono ?_
  rintro e w' ⟨v, l, rfl, hR, hm, hl, hb⟩
  obtain ⟨A, c, rfl, hc, hC⟩ := Kd.R_reads hR
  exact ⟨A, c, l, rfl, Lib.hid ⟨⟨hC, hc, made_short hm⟩, hm, hl, hb⟩⟩
theorem chosen_call (n : Nat) (hn : n ≤ 12) (m : Int) (w : World) :
    Calls Tryd.prog 12 #[.int .i64 n, .int .i64 m] w fun e w' => ∃ (B : Option Addr) (d : Nat) (xs : List Int), e = .returned (.slice B xs.length d) ∧ Hid (IntAt B d xs w' ∧ ChosenL n xs ∧ xs.length ≤ n ∧ Below w.heap.size w w') := by
  refine (chosen_any n hn m w).mono ?_
  rintro e w' ⟨v, l, rfl, hR, hm, hl, hb⟩
  obtain ⟨A, c, rfl, hc, hC⟩ := Kd.R_reads hR
  exact ⟨A, c, l, rfl, Lib.hid ⟨⟨hC, hc⟩, hm, hl, hb⟩⟩
theorem silenced_call {A : Option Addr} {c : Nat} {l : List Src} (id : Int) {w : World} (h : SrcAt A c l w) (hm : MadeL l.length l) (hl : l.length ≤ 10) :
    Calls Tryd.prog 17 #[.slice A l.length c, .int .i64 id] w fun e w' => ∃ (B : Option Addr) (d : Nat) (m : List Src), e = .returned (.slice B m.length d) ∧ Hid (m = silL l id ∧ SrcAt B d m w' ∧ Below w.heap.size w w') := by
  refine (silenced_any A c l id w h.rl h.short (made_id hm) (by omega)).mono ?_
  rintro e w' ⟨v, rfl, hR, hb⟩
  obtain ⟨B, d, rfl, hd, hC⟩ := Kd.R_reads hR
  exact ⟨B, d, _, rfl, Lib.hid ⟨rfl, ⟨hC, hd, sil_short hm hl id⟩, hb⟩⟩
/-- A support that was answered, as its rows lie. -/
structure SupIs (l : List Src) (xs : List Int) (wo n : Nat) (WA : Option Addr) (wc : Nat) (CA : Option Addr) (cc : Nat) (W : World) : Prop where
  num : n = cntS l xs wo
  rows : kW.C W WA n (toI (waysS l xs wo))
  cut : (Kd.int .i64).C W CA n ((cutS l xs wo).map Int.ofNat)
  le : n ≤ cc
theorem SupIs.next {l : List Src} {xs : List Int} {wo n : Nat} {WA : Option Addr} {wc : Nat} {CA : Option Addr} {cc : Nat} {W W' : World} (h : SupIs l xs wo n WA wc CA cc W) (hb : Below W.heap.size W W') : SupIs l xs wo n WA wc CA cc W' := ⟨h.num, Kd.C_below h.rows hb, Kd.C_below h.cut hb, h.le⟩
theorem toI_len (p : List (List Nat)) : (toI p).length = p.length := by simp [toI]
theorem SupIs.len1 {l : List Src} {xs : List Int} {wo n : Nat} {WA : Option Addr} {wc : Nat} {CA : Option Addr} {cc : Nat} {W : World} (h : SupIs l xs wo n WA wc CA cc W) : (toI (waysS l xs wo)).length = n := h.rows.1
theorem SupIs.len2 {l : List Src} {xs : List Int} {wo n : Nat} {WA : Option Addr} {wc : Nat} {CA : Option Addr} {cc : Nat} {W : World} (h : SupIs l xs wo n WA wc CA cc W) : ((cutS l xs wo).map Int.ofNat).length = n := h.cut.1
theorem sup_given {l : List Src} {xs : List Int} {wo : Nat} {w w' : World} {e : Ending} (hg : givenB l xs = true) (h : SupPost l xs wo w e w') : ∃ (n : Nat) (WA : Option Addr) (wc : Nat) (CA : Option Addr) (cc : Nat), e = .returned (.tuple #[.agg #[.int .i64 n, .slice WA n wc, .slice CA n cc], .int .i64 0]) ∧ Hid (SupIs l xs wo n WA wc CA cc w' ∧ Below w.heap.size w w') := by
  obtain ⟨WA, wc, CA, cc, rfl, h1, h2, h3, hb⟩ := sup_open h
  have hn := given_len (wo := wo) hg
  have e1 : (toI (waysS l xs wo)).length = cntS l xs wo := by rw [toI_len]; exact hn.1
  have e2 : ((cutS l xs wo).map Int.ofNat).length = cntS l xs wo := by rw [List.length_map]; exact hn.2
  rw [e1] at h1
  rw [e2] at h2 h3
  rw [e1, e2, given_err hg]
  exact ⟨_, WA, wc, CA, cc, rfl, Lib.hid ⟨⟨rfl, h1, h2, h3⟩, hb⟩⟩
theorem sup_call {A : Option Addr} {c : Nat} {l : List Src} {B : Option Addr} {d : Nat} {xs : List Int} {w : World} (hs : SrcAt A c l w) (hi : IntAt B d xs w) (hT : Tab w) (hg : givenB l xs = true) :
    Calls Tryd.prog 13 #[.slice A l.length c, .slice B xs.length d] w fun e w' => ∃ (n : Nat) (WA : Option Addr) (wc : Nat) (CA : Option Addr) (cc : Nat), e = .returned (.tuple #[.agg #[.int .i64 n, .slice WA n wc, .slice CA n cc], .int .i64 0]) ∧ Hid (SupIs l xs 0 n WA wc CA cc w' ∧ Below w.heap.size w w') :=
  (Support_any A c l B d xs w hs.rl hs.short hi.rx hT).mono fun e w' h => sup_given hg h
theorem named_call {A : Option Addr} {c : Nat} {l : List Src} {B : Option Addr} {d : Nat} {xs : List Int} {w : World} (hs : SrcAt A c l w) (hi : IntAt B d xs w) (hT : Tab w) (hg : givenB l xs = true) :
    Calls Tryd.prog 14 #[.slice A l.length c, .slice B xs.length d] w fun e w' => ∃ (n : Nat) (WA : Option Addr) (wc : Nat) (CA : Option Addr) (cc : Nat), e = .returned (.tuple #[.agg #[.int .i64 n, .slice WA n wc, .slice CA n cc], .int .i64 0]) ∧ Hid (SupIs l xs (woL l) n WA wc CA cc w' ∧ Below w.heap.size w w') :=
  (Named_any A c l B d xs w hs.rl hs.short hi.rx hT).mono fun e w' h => sup_given hg h
theorem same_call {l m : List Src} {xs ys : List Int} {wo wp n1 n2 : Nat} {WA : Option Addr} {wc : Nat} {CA : Option Addr} {cc : Nat} {WB : Option Addr} {wd : Nat} {CB : Option Addr} {cd : Nat} {w : World} (h1 : SupIs l xs wo n1 WA wc CA cc w) (h2 : SupIs m ys wp n2 WB wd CB cd w) (hs : cntS m ys wp = cntS l xs wo ∧ waysS m ys wp = waysS l xs wo ∧ cutS m ys wp = cutS l xs wo) :
    Calls Tryd.prog 16 #[.agg #[.int .i64 n1, .slice WA n1 wc, .slice CA n1 cc], .agg #[.int .i64 n2, .slice WB n2 wd, .slice CB n2 cd]] w fun e w' => e = .returned (.bool true) ∧ Below w.heap.size w w' := by
  obtain ⟨a1, a2, a3, a4⟩ := h1
  obtain ⟨b1, b2, b3, b4⟩ := h2
  rw [hs.1] at b1
  rw [hs.2.1] at b2
  rw [hs.2.2] at b3
  have he : n2 = n1 := by rw [b1, a1]
  subst he
  have e1 := a2.1
  have e2 := a3.1
  have := same_any n2 n2 WA WB wc wd (toI (waysS l xs wo)) (toI (waysS l xs wo)) CA CB cc cd ((cutS l xs wo).map Int.ofNat) ((cutS l xs wo).map Int.ofNat) w (by rw [e1]; exact a2) (by rw [e1]; exact b2) (by rw [e2]; exact a3) (by rw [e2]; exact b3) (by rw [e2]; exact a4) (by rw [e2]; exact b4)
  rw [e1, e2, sameB_refl] at this
  exact this
/-- A support in its box. -/
theorem box_new {W : World} {b : Nat} (n : Nat) (WA : Option Addr) (wc : Nat) (CA : Option Addr) (cc : Nat) (hb : W.heap.size = b) :
    Below W.heap.size W (W.alloc (.cells #[.int .i64 n, .slice WA n wc, .slice CA n cc] 30)) ∧ (W.alloc (.cells #[.int .i64 n, .slice WA n wc, .slice CA n cc] 30)).heap[b]? = some (.cells #[.int .i64 n, .slice WA n wc, .slice CA n cc] 30) :=
  ⟨(Below.refl _ _).alloc (Nat.le_refl _) _, heap_new hb⟩
/-- A block that lies. -/
structure BlkAt (b : Nat) (o : Obj) (W : World) : Prop where
  at_ : W.heap[b]? = some o
theorem BlkAt.next {b : Nat} {o : Obj} {W W' : World} (h : BlkAt b o W) (hb : Below W.heap.size W W') : BlkAt b o W' := ⟨(hb.block _ (Array.getElem?_eq_some_iff.1 h.at_).1).trans h.at_⟩
end Go.Proofs.YticngcjfofcoiaaDoor
