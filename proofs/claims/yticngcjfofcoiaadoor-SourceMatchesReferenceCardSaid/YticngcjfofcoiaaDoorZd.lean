/- The walk of SourceCertified. -/
import Derived.Test.YticngcjfofcoiaaDoorTh
namespace Go.Proofs.YticngcjfofcoiaaDoor
open Go.RowKit Go.Rg Go.Proofs.YticngcjfofcoiaaDoorW.PrintWords
set_option linter.unusedVariables false
set_option linter.unusedSimpArgs false
set_option maxRecDepth 100000
theorem SupIs.odd {l : List Src} {xs : List Int} {n : Nat} {WA : Option Addr} {wc : Nat} {CA : Option Addr} {cc : Nat} {w : World} (hw : n ≤ wc) (h : SupIs l xs 0 n WA wc CA cc w) : OddAt WA wc (toI (waysS l xs 0)) CA cc ((cutS l xs 0).map Int.ofNat) w := by
 have e1 := h.len1
 have e2 := h.len2
 exact ⟨by rw [e1]; exact h.rows, by rw [e2]; exact h.cut, by omega, by rw [e2]; exact h.le⟩
end Go.Proofs.YticngcjfofcoiaaDoor
/- The program and the reference, joined. -/
namespace Go.Proofs.YticngcjfofcoiaaDoor
open Go.RowKit Go.Rg Go.Proofs.YticngcjfofcoiaaDoorW.PrintWords
set_option linter.unusedVariables false
set_option linter.unusedSimpArgs false
structure BwAt (a b : World) : Prop where
 below : Below a.heap.size a b
theorem BwAt.next {a b c : World} (h : BwAt a b) (hb : Below b.heap.size b c) : BwAt a c := ⟨h.below.trans (hb.mono h.below.size)⟩
structure MRX (w : World) (XA : Option Addr) (x : List (Int × Int × Int)) (YA : Option Addr) (y : List Src) (ZA : Option Addr) (zc : Nat) (z : List Int) (b : Nat) (n0 : Int) (WO : Option Addr) (wo : Nat) (ws : List (List Int)) (CO : Option Addr) (co : Nat) (cs : List Int) (W : World) : Prop where
 below : Below w.heap.size w W
 tab : Tab W
 xr : Kd.C k3 W XA x.length x
 yr : Kd.C kS W YA y.length y
 zr : IntAt ZA zc z W
 odd : OddAt WO wo ws CO co cs W
 box : W.heap[b]? = some (.cells #[.int .i64 n0, .slice WO ws.length wo, .slice CO cs.length co] 30)
theorem MRX.next {w : World} {XA : Option Addr} {x : List (Int × Int × Int)} {YA : Option Addr} {y : List Src} {ZA : Option Addr} {zc : Nat} {z : List Int} {b : Nat} {n0 : Int} {WO : Option Addr} {wo : Nat} {ws : List (List Int)} {CO : Option Addr} {co : Nat} {cs : List Int} {W W' : World} (h : MRX w XA x YA y ZA zc z b n0 WO wo ws CO co cs W) (hb : Below W.heap.size W W') : MRX w XA x YA y ZA zc z b n0 WO wo ws CO co cs W' :=
 ⟨h.below.trans (hb.mono h.below.size), h.tab.next hb h.tab.pos, Kd.C_below h.xr hb, Kd.C_below h.yr hb, h.zr.next hb, h.odd.next hb, (hb.block _ (Array.getElem?_eq_some_iff.1 h.box).1).trans h.box⟩
theorem IntAt.take4 {B : Option Addr} {d : Nat} {xs : List Int} {W : World} (h : IntAt B d xs W) : IntAt B d (xs.take 4) W := by
 have h1 := Kd.C_take h.rx (m := min xs.length 4) (by omega)
 have e : xs.take (min xs.length 4) = xs.take 4 := by
  rcases Nat.le_total xs.length 4 with hh | hh
  ·rw [Nat.min_eq_left hh, List.take_length, List.take_of_length_le hh]
  ·rw [Nat.min_eq_right hh]
 have e2 : (xs.take 4).length = min xs.length 4 := by rw [List.length_take, Nat.min_comm]
 have hcx := h.cx
 rw [e] at h1
 exact ⟨h1, by rw [e2]; omega⟩
def BoolP (q : Bool) (w : World) (e : Ending) (w' : World) : Prop := e = .returned (.bool q) ∧ Below w.heap.size w w'
theorem both_valid (l : List Src) : ∃ q : Bool, ∀ (A : Option Addr) (c : Nat) (W : World), SrcAt A c l W → Calls Tryd.prog 20 #[.slice A l.length c] W (BoolP q W) ∧ Calls Tryd.prog 21 #[.slice A l.length c] W (BoolP q W) :=
 ⟨validS l, fun A c W h => ⟨valid_any A c l W h.rl h.short, rvalid_any A c l W h.rl h.short⟩⟩
theorem both_same (a b : List Src) : ∃ q : Bool, ∀ (A : Option Addr) (c : Nat) (B : Option Addr) (d : Nat) (W : World), SrcAt A c a W → SrcAt B d b W → Calls Tryd.prog 22 #[.slice A a.length c, .slice B b.length d] W (BoolP q W) ∧ Calls Tryd.prog 23 #[.slice A a.length c, .slice B b.length d] W (BoolP q W) :=
 ⟨decide (a = b), fun A c B d W h1 h2 => ⟨Same_any A B c d a b W h1.rl h2.rl, rsame_any A B c d a b W h1.rl h2.rl⟩⟩
def FndN (i k : Int) (f : List Int) (ok : Bool) (w : World) (e : Ending) (w' : World) : Prop := ∃ (FA : Option Addr) (fc : Nat), e = .returned (.tuple #[.agg #[.int .i64 i, .int .i64 k, .slice FA f.length fc], .bool ok]) ∧ Hid (IntAt FA fc f w' ∧ Below w.heap.size w w')
theorem fnd_n {l : List Src} {x : Int} {w w' : World} {e : Ending} (h : FindPost l x w e w') : FndN ((fndS l x).getD s0).id ((fndS l x).getD s0).kind ((fndS l x).getD s0).frm (fndS l x).isSome w e w' := by
 obtain ⟨v, rfl, hR, hb⟩ := h
 obtain ⟨A, c, rfl, hc, hC⟩ := Kd.R_reads hR
 exact ⟨A, c, rfl, Lib.hid ⟨⟨hC, hc⟩, hb⟩⟩
theorem both_find (l : List Src) (x : Int) : ∃ (i k : Int) (f : List Int) (ok : Bool), ∀ (A : Option Addr) (c : Nat) (W : World), SrcAt A c l W → Calls Tryd.prog 15 #[.slice A l.length c, .int .i64 x] W (FndN i k f ok W) ∧ Calls Tryd.prog 24 #[.slice A l.length c, .int .i64 x] W (FndN i k f ok W) :=
 ⟨_, _, _, _, fun A c W h => ⟨(find_any A c l x W h.rl h.short).mono fun _ _ h => fnd_n h, (rfind_any A c l x W h).mono fun _ _ h => fnd_n h⟩⟩
def SupN (n : Int) (ws : List (List Int)) (cs : List Int) (er : Int) (w : World) (e : Ending) (w' : World) : Prop := ∃ (WA : Option Addr) (wc : Nat) (CA : Option Addr) (cc : Nat), e = .returned (.tuple #[.agg #[.int .i64 n, .slice WA ws.length wc, .slice CA cs.length cc], .int .i64 er]) ∧ Hid (OddAt WA wc ws CA cc cs w' ∧ Below w.heap.size w w')
theorem sup_n {l : List Src} {xs : List Int} {wo : Nat} {w w' : World} {e : Ending} (h : SupPost l xs wo w e w') : SupN (cntS l xs wo : Nat) (toI (waysS l xs wo)) ((cutS l xs wo).map Int.ofNat) (errS l xs) w e w' := by
 obtain ⟨wv, cv, rfl, h1, h2, hb⟩ := h
 obtain ⟨WA, wc, rfl, hwc, hw⟩ := Kd.R_reads h1
 obtain ⟨CA, cc, rfl, hl, hc⟩ := Kd.R_reads h2
 exact ⟨WA, wc, CA, cc, rfl, Lib.hid ⟨⟨hw, hc, hwc, hl⟩, hb⟩⟩
theorem both_sup (l : List Src) (xs : List Int) : ∃ (n : Int) (ws : List (List Int)) (cs : List Int) (er : Int), ∀ (A : Option Addr) (c : Nat) (B : Option Addr) (d : Nat) (W : World), SrcAt A c l W → IntAt B d xs W → Tab W → Calls Tryd.prog 13 #[.slice A l.length c, .slice B xs.length d] W (SupN n ws cs er W) ∧ Calls Tryd.prog 26 #[.slice A l.length c, .slice B xs.length d] W (SupN n ws cs er W) :=
 ⟨_, _, _, _, fun A c B d W h1 h2 hT => ⟨(Support_any A c l B d xs W h1.rl h1.short h2.rx hT).mono fun _ _ h => sup_n h, (rSupport_any A c l B d xs W h1 h2).mono fun _ _ h => sup_n h⟩⟩
theorem both_named (l : List Src) (xs : List Int) : ∃ (n : Int) (ws : List (List Int)) (cs : List Int) (er : Int), ∀ (A : Option Addr) (c : Nat) (B : Option Addr) (d : Nat) (W : World), SrcAt A c l W → IntAt B d xs W → Tab W → Calls Tryd.prog 14 #[.slice A l.length c, .slice B xs.length d] W (SupN n ws cs er W) ∧ Calls Tryd.prog 27 #[.slice A l.length c, .slice B xs.length d] W (SupN n ws cs er W) :=
 ⟨_, _, _, _, fun A c B d W h1 h2 hT => ⟨(Named_any A c l B d xs W h1.rl h1.short h2.rx hT).mono fun _ _ h => sup_n h, (rNamed_any A c l B d xs W h1 h2).mono fun _ _ h => sup_n h⟩⟩
theorem same_odd {n : Int} {WA : Option Addr} {wc : Nat} {CA : Option Addr} {cc : Nat} {WB : Option Addr} {wd : Nat} {CB : Option Addr} {cd : Nat} {ws : List (List Int)} {cs : List Int} {W : World} (h1 : OddAt WA wc ws CA cc cs W) (h2 : OddAt WB wd ws CB cd cs W) : Calls Tryd.prog 16 #[.agg #[.int .i64 n, .slice WA ws.length wc, .slice CA cs.length cc], .agg #[.int .i64 n, .slice WB ws.length wd, .slice CB cs.length cd]] W (BoolP true W) := by
 have h := same_any n n WA WB wc wd ws ws CA CB cc cd cs cs W h1.rows h2.rows h1.cut h2.cut h1.lc h2.lc
 rw [sameB_refl] at h
 exact h
theorem same_ints {A : Option Addr} {c : Nat} {B : Option Addr} {d : Nat} {xs : List Int} {W : World} (h1 : IntAt A c xs W) (h2 : IntAt B d xs W) : Calls Tryd.prog 25 #[.slice A xs.length c, .slice B xs.length d] W (BoolP true W) := by
 have h := ints_any A c xs B d xs W h1.rx h1.cx h2.rx h2.cx
 rw [decide_eq_true rfl] at h
 exact h
def OrgN (os : List Int) (er : Int) (w : World) (e : Ending) (w' : World) : Prop := ∃ (A : Option Addr) (c : Nat), e = .returned (.tuple #[.slice A os.length c, .int .i64 er]) ∧ Hid (IntAt A c os w' ∧ Below w.heap.size w w')
theorem org_n {l : List Src} {x : Int} {w w' : World} {e : Ending} (h : OrgPost l x w e w') : OrgN ((orgL l x).map Int.ofNat) (orgE l x) w e w' := by
 obtain ⟨v, rfl, hR, hb⟩ := h
 obtain ⟨A, c, rfl, hc, hC⟩ := Kd.R_reads hR
 exact ⟨A, c, rfl, Lib.hid ⟨⟨hC, hc⟩, hb⟩⟩
theorem both_org (l : List Src) (x : Int) : ∃ (os : List Int) (er : Int), ∀ (A : Option Addr) (c : Nat) (W : World), SrcAt A c l W → Tab W → Calls Tryd.prog 18 #[.slice A l.length c, .int .i64 x] W (OrgN os er W) ∧ Calls Tryd.prog 32 #[.slice A l.length c, .int .i64 x] W (OrgN os er W) :=
 ⟨_, _, fun A c W h hT => ⟨(org_any A c l x W h hT).mono fun _ _ h => org_n h, (rorigins_any A c l x W h).mono fun _ _ h => org_n h⟩⟩
theorem both_check (l : List Src) (xs : List Int) (n : Int) (ws : List (List Int)) (cs : List Int) : ∃ q : Bool, ∀ (A : Option Addr) (c : Nat) (B : Option Addr) (d : Nat) (WA : Option Addr) (wc : Nat) (CA : Option Addr) (cc : Nat) (W : World), SrcAt A c l W → IntAt B d xs W → Tab W → OddAt WA wc ws CA cc cs W →
  Calls Tryd.prog 29 #[.slice A l.length c, .slice B xs.length d, .agg #[.int .i64 n, .slice WA ws.length wc, .slice CA cs.length cc]] W (BoolP q W) ∧ Calls Tryd.prog 30 #[.slice A l.length c, .slice B xs.length d, .agg #[.int .i64 n, .slice WA ws.length wc, .slice CA cs.length cc]] W (BoolP q W) :=
 ⟨checkB l xs n ws cs, fun A c B d WA wc CA cc W h1 h2 hT ho => ⟨check_any A c l B d xs n WA wc ws CA cc cs W h1.rl h1.short h2.rx ho.rows ho.cut hT, rcheck_any A c l B d xs n WA wc ws CA cc cs W h1 h2 ho.rows ho.cut⟩⟩
end Go.Proofs.YticngcjfofcoiaaDoor
