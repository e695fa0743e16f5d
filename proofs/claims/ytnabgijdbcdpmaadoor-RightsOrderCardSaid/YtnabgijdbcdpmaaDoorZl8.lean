/- Rights: the law RightsOrder answers true at every input, as the given card states it, rights.kinds being tied to the program's text; no further condition. -/
import Derived.Test.YtnabgijdbcdpmaaDoorZf
import Derived.Test.YtnabgijdbcdpmaaDoorRows
import Derived.Test.YtnabgijdbcdpmaaDoorTie
import Derived.Test.YtnabgijdbcdpmaaDoorCards
import Derived.SevenTiedAt
namespace Go.Proofs.YtnabgijdbcdpmaaDoor
open Go.RowKit Go.Rg Go.Proofs.YtnabgijdbcdpmaaDoor.PRightsMatchesReference Go.Proofs.YtnabgijdbcdpmaaDoorW.PrintWords
set_option linter.unusedVariables false
set_option linter.unusedSimpArgs false

/-- An own row is nil or a block's head. -/
theorem R_shape {α : Type} {d : Kd α} {e base : Nat} {ok : Nat → Prop} {w : World} {v : Value} {xs : List α} (h : d.R e w base ok v xs) : (v = .slice none 0 0 ∧ xs = []) ∨ ∃ g cap, v = .slice (some ⟨g, 0, none⟩) xs.length cap ∧ xs.length ≤ cap := by
  obtain ⟨_, inner, ho, hr⟩ := h
  rcases ho.2 with ⟨rfl, h0⟩ | ⟨g, cap, cur, rfl, _, _, hc, _⟩
  · exact .inl ⟨rfl, List.eq_nil_of_length_eq_zero h0⟩
  · exact .inr ⟨g, cap, rfl, hc⟩

/-- The smaller want under way, as it lies. -/
structure WY (w0 : World) (VB : Nat) (wt : Wt) (v : Value) (ns : List (List Int)) (W : World) : Prop where
  below : Below w0.heap.size w0 W
  lt : w0.heap.size ≤ VB
  vb : W.heap[VB]? = some (.cells #[.int .i64 wt.te, .int .i64 wt.cl, .int .i64 wt.at_, .int .i64 wt.us, v] 29 (0, 0))
  row : (Kd.slice 3 (Kd.int .i64)).R 23 W (VB + 1) (fun k => VB + 1 ≤ k) v ns
theorem WY.next {w0 W W' : World} {VB : Nat} {wt : Wt} {v : Value} {ns : List (List Int)} (h : WY w0 VB wt v ns W) (hb : Below W.heap.size W W') : WY w0 VB wt v ns W' :=
  ⟨h.below.trans (hb.mono h.below.size), h.lt, (hb.block _ (Array.getElem?_eq_some_iff.1 h.vb).1).trans h.vb, Kd.R_below h.row hb⟩
/-- One work alone to choose from, for each. -/
def ones (p : List Int) : List (List Int) := p.map fun x => [x]
theorem ones_want {l : List Cl} {u : List Int} {wt : Wt} {p : List Int} (hg : givenB l u wt = true) (hp : pickOk wt.needs p) :
    givenB l u { wt with needs := ones p } = true ∧ (solve1 l u { wt with needs := ones p } ≠ [] → solve1 l u wt ≠ []) := by
  have hw := (givenB_iff.1 hg).2.2.2
  have hn := (vldW_iff.1 hw).2
  obtain ⟨h1, h2⟩ := hp.2 (fun n hn' e => by
    have := needOk_iff.1 (hn n hn')
    rw [e] at this
    simp at this)
  refine fewer_needs hg ?_ (by unfold ones; rw [List.length_map]; exact h1) (fun i hi hi' k hk => ?_)
  · have hb := (vldW_iff.1 hw).1
    refine vldW_iff.2 ⟨?_, fun n hn' => ?_⟩
    · simp only [ones, List.length_map]
      rw [h1]
      exact hb
    · obtain ⟨x, hx, rfl⟩ := List.mem_map.1 hn'
      obtain ⟨i, hi, rfl⟩ := List.mem_iff_getElem.1 hx
      have hm := h2 i hi (by omega)
      have hk := needOk_iff.1 (hn _ (List.getElem_mem (show i < wt.needs.length by omega)))
      obtain ⟨j, hj, e⟩ := List.mem_iff_getElem.1 hm
      have := hk.2.2.1 j hj
      rw [e] at this
      refine needOk_iff.2 ⟨by simp, by simp, fun i' hi' => ?_, fun i' hi' => by simp at hi'⟩
      have e0 : i' = 0 := by simp at hi'; exact hi'
      subst e0
      exact this
  · unfold ones at hi hk
    rw [List.getElem_map, List.mem_singleton] at hk
    rw [List.length_map] at hi
    rw [hk]
    exact h2 i hi hi'

theorem order_put {w0 W : World} {VB : Nat} {wt : Wt} {v : Value} {A : Option Addr} {n c : Nat} {ns : List (List Int)} (hR : (Kd.slice 3 (Kd.int .i64)).R 23 W (VB + 1) (fun k => VB + 1 ≤ k) (.slice A n c) ns) (hV : W.heap[VB]? = some (.cells #[.int .i64 wt.te, .int .i64 wt.cl, .int .i64 wt.at_, .int .i64 wt.us, v] 29 (0, 0))) (hB : Below w0.heap.size w0 W) (hl : w0.heap.size ≤ VB) :
    WY w0 VB wt (.slice A n c) ns (W.setCell ⟨VB, 4, none⟩ (.slice A n c)) :=
  ⟨hB.setCell (p := ⟨VB, 4, none⟩) hl _, hl, heap_set (o := 4) _ hV, Kd.R_far hR (fun k hk => by show k ≠ VB; omega) _⟩

/-- The clauses, turned, as they lie; the temporaries besides. -/
def Turned (l : List Cl) (k : Nat) (w5 : World) (F : Value → Value → Value → Value → Value → Value → Value → Value → Value → Value → Array Value) (a : Act) (W : World) : Prop :=
  ∃ (OA : Option Addr) (oc : Nat) (y46 y47 y48 y49 y50 y51 y52 y53 y54 : Value), a = { tmps := F (.slice OA l.length oc) y46 y47 y48 y49 y50 y51 y52 y53 y54, defers := [] } ∧ Below w5.heap.size w5 W ∧ Kd.C k40 W OA (l.drop k ++ l.take k).length (l.drop k ++ l.take k) ∧ l.length ≤ oc

set_option maxRecDepth 100000 in
set_option maxHeartbeats 16000000 in
theorem order_law (XA : Option Addr) (xn xc : Nat) (n : Int) (NA : Option Addr) (nc : Nat) (ns : List Int) (SA : Option Addr) (sc : Nat) (ss : List Int) (tn : Int) (htn : rng tn) (FA : Option Addr) (fc : Nat) (fs : List Int) (w : World) (hK : Kinds w) (hx : X5 w XA xn) (hn : rng n) (hN : (Kd.int .i64).C w NA ns.length ns) (hNr : ∀ x ∈ ns, rng x) (hS : (Kd.int .i64).C w SA ss.length ss) (hSr : ∀ x ∈ ss, rng x) (hF : (Kd.int .i64).C w FA fs.length fs) (hFr : ∀ x ∈ fs, rng x) :
    Calls Tryd.prog 8 #[.slice XA xn xc, .int .i64 n, .slice NA ns.length nc, .slice SA ss.length sc, .int .i64 tn, .slice FA fs.length fc] w fun e w' => e = .returned (.bool true) ∧ Below w.heap.size w w' := by
  have HF := Lib.hid (And.intro hF hFr); clear hF hFr
  have HN := Lib.hid (And.intro hN (And.intro hNr hn)); clear hN hNr hn
  have HS := Lib.hid (And.intro hS hSr); clear hS hSr
  have HX := Lib.hid hx; clear hx
  have HK := Lib.hid hK; clear hK
  go_enter Tryd.func8, Tryd.ntmps8
  go_wp2_with fail
  refine (sane_any _ HK.out).mono ?_
  rintro e w1 ⟨rfl, hb1⟩
  have HB1 := Lib.hid hb1; clear hb1
  go_wp2_with fail
  refine (Made_any XA xc xn _ (HX.out.below HB1.out)).mono ?_
  rintro e w2 ⟨v, l, rfl, hR, hv, hll, hb2⟩
  have hsh := R_shape hR
  obtain ⟨LA, lc, rfl, hlc, hRC⟩ := Kd.R_reads hR
  have HB2 := Lib.hid (And.intro (HB1.out.trans (hb2.mono HB1.out.size)) (And.intro hRC hv)); clear hb2 hR hRC hv HB1 hll
  go_wp2_with fail
  refine (MadeWant_any n NA nc ns _ (Kd.C_below HN.out.1 HB2.out.1) HN.out.2.2 HN.out.2.1).mono ?_
  rintro e w3 ⟨wt, WA, wn, rfl, hW, hvw, hus, hb3⟩
  have HB3 := Lib.hid (And.intro (HB2.out.1.trans (hb3.mono HB2.out.1.size)) (And.intro (Kd.C_below HB2.out.2.1 hb3) (And.intro HB2.out.2.2 (And.intro hW (And.intro hvw hus))))); clear hb3 HB2 hW hvw hus
  unfold wtv
  go_wp2_with fail
  have hA3 := (Below.refl w3.heap.size w3).alloc (Nat.le_refl _) (.cells (wtc wt WA wn) 29)
  have hk3 := heap_new (o := .cells (wtc wt WA wn) 29) (W := w3) rfl
  have HA3 := Lib.hid (And.intro (HB3.out.1.trans (hA3.mono HB3.out.1.size)) (And.intro (Kd.C_below HB3.out.2.1 hA3) (And.intro (Kd.C_below HB3.out.2.2.2.1 hA3) hk3))); clear hA3 hk3
  unfold wtc at HA3
  generalize hWB : w3.heap.size = WB at *
  generalize w3.alloc (.cells #[.int .i64 wt.te, .int .i64 wt.cl, .int .i64 wt.at_, .int .i64 wt.us, .slice WA wt.needs.length wn] 29) = W3 at *
  refine (MadeUsed_any SA sc ss W3 (Kd.C_below HS.out.1 HA3.out.1) HS.out.2).mono ?_
  rintro e w4 ⟨v, u, rfl, hU, hu12, huo, hsm, hb4⟩
  obtain ⟨UA, uc, rfl, huc, hUC⟩ := Kd.R_reads hU
  have hL : LX w LA lc l UA uc u wt WA wn WB w4 := ⟨HA3.out.1.trans (hb4.mono HA3.out.1.size), ⟨HK.out.next (HA3.out.1.trans (hb4.mono HA3.out.1.size)), Kd.C_below HA3.out.2.1 hb4, hUC, Kd.C_below HA3.out.2.2.1 hb4⟩, (hb4.block WB (Array.getElem?_eq_some_iff.1 HA3.out.2.2.2).1).trans HA3.out.2.2.2⟩
  have hg : givenB l u wt = true := givenB_iff.2 ⟨HB3.out.2.2.1, hu12, huo, HB3.out.2.2.2.2.1⟩
  have hG := And.intro hg (And.intro hu12 (And.intro hsm HB3.out.2.2.2.2.2))
  have HG := Lib.hid hG; clear hG hg hu12 huo hsm hb4 hUC HA3 HB3 hU hWB
  have HL := Lib.hid hL; clear hL
  have hll := max_len HL.out.args.rl
  have hl12 := (given_of HG.out.1).1
  have hP := pickL_any tn ((l.length : Int) + 1) htn.1 htn.2 (by omega) w4
  obtain ⟨hp0, hp1⟩ := pickV_bd (a := tn) (n := (l.length : Int) + 1) (by omega)
  generalize pickV tn ((l.length : Int) + 1) = kI at *
  obtain ⟨k, rfl⟩ := Int.eq_ofNat_of_zero_le hp0
  have hkl : k ≤ l.length := by omega
  have hklc : k ≤ lc := by omega
  have hwl : wrap64 ((l.length : Int) + 1) = (l.length : Int) + 1 := wrap_in (by omega) (by omega)
  have HP := Lib.hid hP; clear hP
  go_wp2_with fail
  refine HP.out.mono ?_
  rintro e w5 ⟨rfl, hb5⟩
  have HL5 := Lib.hid (HL.out.next hb5); clear HL HP hb5
  go_wp2_with fail
  have hTL : (l.drop k ++ l.take k).length = l.length := by rw [List.length_append, List.length_drop, List.length_take]; omega
  refine wp_then (Turned l k w5 (fun x18 y46 y47 y48 y49 y50 y51 y52 y53 y54 => #[.slice XA xn xc, .int .i64 n, .slice NA ns.length nc, .slice SA ss.length sc, .int .i64 tn, .slice FA fs.length fc, undef, undef, undef, undef, undef, undef, .bool false, .bool true, .slice LA l.length lc, .pointer (some ⟨WB, 0, none⟩), .slice UA u.length uc, .int .i64 (k : Nat), x18, undef, undef, undef, undef, undef, undef, undef, undef, undef, undef, undef, undef, .bool true, .bool true, .bool false, .slice XA xn xc, .slice LA l.length lc, .int .i64 n, .slice NA ns.length nc, .agg #[.int .i64 wt.te, .int .i64 wt.cl, .int .i64 wt.at_, .int .i64 wt.us, .slice WA wt.needs.length wn], .slice SA ss.length sc, .slice UA u.length uc, .int .i64 tn, .slice LA l.length lc, .int .i64 (l.length : Nat), .int .i64 ((l.length : Nat) + 1), .int .i64 (k : Nat), y46, y47, y48, y49, y50, y51, y52, y53, y54, undef, undef, undef, undef, undef, undef, undef, undef, undef, undef, undef, undef, undef, undef, undef, undef, undef, undef, undef, undef, undef, undef, undef, undef, undef, undef, undef, undef, undef, undef, undef, undef, undef, undef, undef, undef, undef, undef, undef, undef, undef, undef, undef, undef, undef, undef, undef, undef, undef, undef, undef, undef, undef, undef, undef, undef, undef, undef, undef, undef, undef, undef, undef, undef, undef, undef, undef, undef, undef, undef, undef, undef, undef, undef, undef, undef, undef, undef, undef, undef, undef, undef, undef, undef, undef, undef, undef, undef, undef, undef, undef, undef])) ?_ ?_
  · have own0 : ∀ X : Ext w5, Kd.R k40 40 (X.val.alloc (.cells #[] 40)) w5.heap.size (fun k => w5.heap.size ≤ k) (.slice (some ⟨X.val.heap.size, 0, none⟩) 0 0) [] := fun X => ⟨fun k hk => by have := X.2.size; simp [Value.ownBlock] at hk; omega, OwnRow.lit X.val w5.heap.size (inner := []) (Reps.none _ _) (X.2.size) (by simp)⟩
    have HO0 := Lib.hid own0; clear own0
    rcases hsh with ⟨hsv, hs0⟩ | ⟨g, cap, hsv, hsc⟩
    · simp only [Value.slice.injEq] at hsv
      obtain ⟨rfl, _, rfl⟩ := hsv
      subst hs0
      obtain rfl : k = 0 := by simpa using hkl
      refine region_late [1, 2, 3, 5, 6, 7] [] [0, 4, 8, 9] (by kernel_rfl) (by kernel_rfl) (fun c a d v w h => by cases h.2.1) ?_
      simp only [pick_cons, pick_nil, nthO_succ, nthO_zero]
      repeat (go_big_quiet_step (fail))
      refine wpQuiet_nil ?_
      refine wpQuiet_nil ?_
      rintro W' ⟨X, rfl⟩
      have hbX : Below w5.heap.size w5 X.val := X.2.below (fun _ _ h => h) (Nat.le_refl _)
      have hB := hbX.alloc hbX.size (.cells #[] 40)
      have hz : w5.heap.size ≤ (X.val.alloc (.cells #[] 40)).heap.size := by have := X.2.size; simp; omega
      have hC0 : ∀ W, Kd.C k40 W none 0 [] := fun W => ⟨rfl, by decide, fun h => absurd h (Nat.lt_irrefl _)⟩
      have HH := Lib.hid (And.intro (HO0.out X) (And.intro hC0 (And.intro hB hz))); clear hC0 hB hz HO0
      go_wp2_with (first
        | (at_builtin; refine Kd.R_append_rows k40 (w0 := w5) (Rr := k40.K _) w5.heap.size rfl (.tmp 46) (.tmp 49) 24 40 (.agg #[.int .i64 0, .int .i64 0, .int .i64 0, .int .i64 0, .int .i64 0, .int .i64 0, .int .i64 0, .int .i64 0]) 64 rfl Tryd.underlying24 info40 rfl (by decide) (by decide) _ [] [] none 0 _ (fun k => w5.heap.size ≤ k) (fun _ => False) rfl rfl HH.out.1 (HH.out.2.1 _) (fun x cs h => by rw [k40_open h]; exact k40_mkM _ _ _ x) (fun _ h => h.elim) (fun k hk => Nat.le_trans HH.out.2.2.2 hk) HH.out.2.2.1 HH.out.2.2.2 (by simp) ?_; intro v1 w7 h1 h2 h3 h4; rw [List.nil_append] at h1; have HJ := Lib.hid (And.intro h1 (And.intro h2 HH.out.2.1)); clear h1 h2 h3 h4 HH)
        | (at_builtin; refine Kd.R_append_rows k40 (w0 := w5) (Rr := k40.K _) w5.heap.size rfl (.tmp 50) (.tmp 53) 24 40 (.agg #[.int .i64 0, .int .i64 0, .int .i64 0, .int .i64 0, .int .i64 0, .int .i64 0, .int .i64 0, .int .i64 0]) 64 rfl Tryd.underlying24 info40 rfl (by decide) (by decide) _ [] [] none 0 _ (fun k => w5.heap.size ≤ k) (fun _ => False) rfl rfl HJ.out.1 (HJ.out.2.2 _) (fun x cs h => by rw [k40_open h]; exact k40_mkM _ _ _ x) (fun _ h => h.elim) (fun k hk => Nat.le_trans HJ.out.2.1.size hk) HJ.out.2.1 HJ.out.2.1.size (by simp) ?_; intro v2 w8 h1 h2 h3 h4; obtain ⟨OA, oc, e8, ho8, hC8⟩ := Kd.R_reads h1; subst e8; have HK := Lib.hid (And.intro h2 (And.intro hC8 ho8)); clear h1 h2 h3 h4 hC8 ho8))
      all_goals exact ⟨_, _, _, _, _, _, _, _, _, _, _, rfl, HK.out.1, HK.out.2.1, HK.out.2.2⟩
    · simp only [Value.slice.injEq] at hsv
      obtain ⟨rfl, _, rfl⟩ := hsv
      refine region_late [1, 2, 3, 5, 6, 7] [] [0, 4, 8, 9] (by kernel_rfl) (by kernel_rfl) (fun c a d v w h => by cases h.2.1) ?_
      simp only [pick_cons, pick_nil, nthO_succ, nthO_zero]
      repeat (go_big_quiet_step (fail))
      refine wpQuiet_nil ?_
      refine wpQuiet_nil ?_
      rintro W' ⟨X, rfl⟩
      have hbX : Below w5.heap.size w5 X.val := X.2.below (fun _ _ h => h) (Nat.le_refl _)
      have hB := hbX.alloc hbX.size (.cells #[] 40)
      have hz : w5.heap.size ≤ (X.val.alloc (.cells #[] 40)).heap.size := by have := X.2.size; simp; omega
      have hC1 : Kd.C k40 (X.val.alloc (.cells #[] 40)) (if lc = k then some ⟨g, 0, none⟩ else some ⟨g, k * 8, none⟩) (l.length - k) (l.drop k) := by
        have := Kd.C_drop (c := lc) (Kd.C_below HL5.out.args.rl hB) hkl hsc
        rw [List.length_drop] at this
        have e : (Option.map (fun x => Addr.add x (k * k40.sz)) (some ⟨g, 0, none⟩)) = some ⟨g, k * 8, none⟩ := by
          show some (Addr.add ⟨g, 0, none⟩ (k * 8)) = _
          rw [add_plain]
        rw [e] at this
        exact this
      have hC2 : Kd.C k40 w5 (some ⟨g, 0, none⟩) k (l.take k) := by
        have := Kd.C_take HL5.out.args.rl hkl
        rwa [List.length_take, Nat.min_eq_left hkl] at this
      have HH := Lib.hid (And.intro (HO0.out X) (And.intro hC1 (And.intro hB (And.intro hz hC2)))); clear hC1 hC2 hB hz HO0
      have hld : (l.drop k).length = l.length - k := List.length_drop
      go_wp2_with (first
        | (at_builtin; refine Kd.R_append_rows k40 (w0 := w5) (Rr := k40.K _) w5.heap.size rfl (.tmp 46) (.tmp 49) 24 40 (.agg #[.int .i64 0, .int .i64 0, .int .i64 0, .int .i64 0, .int .i64 0, .int .i64 0, .int .i64 0, .int .i64 0]) 64 rfl Tryd.underlying24 info40 rfl (by decide) (by decide) _ [] (l.drop k) (if lc = k then some ⟨g, 0, none⟩ else some ⟨g, k * 8, none⟩) (l.length - k) (lc - k) (fun k => w5.heap.size ≤ k) (fun _ => False) rfl rfl HH.out.1 HH.out.2.1 (fun x cs h => by rw [k40_open h]; exact k40_mkM _ _ _ x) (fun _ h => h.elim) (fun k hk => Nat.le_trans HH.out.2.2.2.1 hk) HH.out.2.2.1 HH.out.2.2.2.1 (by simp only [List.length_nil]; omega) ?_; intro v1 w7 h1 h2 h3 h4; rw [List.nil_append] at h1; have HJ := Lib.hid (And.intro h1 (And.intro h2 (Kd.C_below HH.out.2.2.2.2 h2))); clear h1 h2 h3 h4 HH)
        | (at_builtin; refine Kd.R_append_rows k40 (w0 := w5) (Rr := k40.K _) w5.heap.size rfl (.tmp 50) (.tmp 53) 24 40 (.agg #[.int .i64 0, .int .i64 0, .int .i64 0, .int .i64 0, .int .i64 0, .int .i64 0, .int .i64 0, .int .i64 0]) 64 rfl Tryd.underlying24 info40 rfl (by decide) (by decide) _ (l.drop k) (l.take k) (some ⟨g, 0, none⟩) k lc (fun k => w5.heap.size ≤ k) (fun _ => False) rfl rfl HJ.out.1 HJ.out.2.2 (fun x cs h => by rw [k40_open h]; exact k40_mkM _ _ _ x) (fun _ h => h.elim) (fun k hk => Nat.le_trans HJ.out.2.1.size hk) HJ.out.2.1 HJ.out.2.1.size (by omega) ?_; intro v2 w8 h1 h2 h3 h4; obtain ⟨OA, oc, e8, ho8, hC8⟩ := Kd.R_reads h1; rw [hTL] at e8 ho8; subst e8; have HK := Lib.hid (And.intro h2 (And.intro hC8 ho8)); clear h1 h2 h3 h4 hC8 ho8))
      all_goals exact ⟨_, _, _, _, _, _, _, _, _, _, _, rfl, HK.out.1, HK.out.2.1, HK.out.2.2⟩
  rintro a W6 ⟨OA, oc, y46, y47, y48, y49, y50, y51, y52, y53, y54, rfl, hb6, hOC, hoc⟩
  have hal := alike_turn HG.out.1 k
  have hln := len_turn HG.out.1 k
  have HL6 := Lib.hid (HL5.out.next hb6); clear hb6
  generalize l.drop k ++ l.take k = other at *
  have HO := Lib.hid (And.intro hOC (And.intro hTL (And.intro hal hln))); clear hOC hTL hal hln hsh HL5 hklc hwl
  have c0 := HL6.out.c0
  have c1 := HL6.out.c1
  have c2 := HL6.out.c2
  have c3 := HL6.out.c3
  have c4 := HL6.out.c4
  go_wp2_with fail
  have hSo := Solve_any LA lc l UA uc u wt WA wn W6 HL6.out.args
  unfold wtv at hSo
  refine hSo.mono ?_
  clear hSo c0 c1 c2 c3 c4
  rintro e w7 ⟨v1, v2, rfl, hP, hQ, hb7⟩
  have hE : solveE l u wt = 0 := by unfold solveE; rw [if_pos HG.out.1]
  rw [hE]
  clear hE
  obtain ⟨PA, pc, rfl, hpc, hPC⟩ := Kd.R_reads hP
  obtain ⟨QA, qc, rfl, hqc, hQC⟩ := Kd.R_reads hQ
  have HL7 := Lib.hid (HL6.out.next hb7)
  have HO7 := Lib.hid (Kd.C_below HO.out.1 hb7)
  have HP7 := Lib.hid (And.intro hPC (And.intro hpc hQC)); clear hPC hpc hqc hP hQ hQC hb7 HL6
  have c0 := HL7.out.c0
  have c1 := HL7.out.c1
  have c2 := HL7.out.c2
  have c3 := HL7.out.c3
  have c4 := HL7.out.c4
  go_wp2_with fail
  have hSo := Solve_any OA oc other UA uc u wt WA wn w7 ⟨HL7.out.args.kinds, HO7.out, HL7.out.args.ru, HL7.out.args.rw⟩
  rw [HO.out.2.1] at hSo
  unfold wtv at hSo
  refine hSo.mono ?_
  clear hSo c0 c1 c2 c3 c4
  rintro e w8 ⟨v3, v4, rfl, hP, hQ, hb8⟩
  have hE : solveE other u wt = 0 := by unfold solveE; rw [if_pos HO.out.2.2.1.g']
  rw [hE]
  rw [← HO.out.2.2.1.solve1] at hP
  clear hE
  obtain ⟨RA, rc, rfl, hrc, hRC⟩ := Kd.R_reads hP
  obtain ⟨TA, tc, rfl, htc, hTC⟩ := Kd.R_reads hQ
  rw [← HO.out.2.2.2]
  have HL8 := Lib.hid (HL7.out.next hb8)
  have HO8 := Lib.hid (Kd.C_below HO7.out hb8)
  have HP8 := Lib.hid (And.intro (Kd.C_below HP7.out.1 hb8) (And.intro HP7.out.2.1 (And.intro hRC hrc)))
  have hqm := max_len HP7.out.2.2
  clear hRC hrc htc hP hQ hTC hb8 HL7 HO7
  have hpm := max_len HP8.out.1
  have hsp := solve1_spec HG.out.1
  generalize hpe : solve1 l u wt = p at *
  have HPE := Lib.hid hpe
  clear hpe
  generalize (solve2 l u wt).length = ql at *
  have c0 := HL8.out.c0
  have c1 := HL8.out.c1
  have c2 := HL8.out.c2
  have c3 := HL8.out.c3
  have c4 := HL8.out.c4
  go_wp2_with fail
  have hFi := first_any wt WA wn FA fc fs w8 HL8.out.args.rw (Kd.C_below HF.out.1 HL8.out.below) HF.out.2 (by have := (given_of HG.out.1).2.2.2.2; omega)
  unfold wtv at hFi
  refine hFi.mono ?_
  clear hFi c0 c1 c2 c3 c4
  rintro e w9 ⟨v, o, rfl, hV, hok, hb9⟩
  obtain ⟨VA, vc, rfl, hvc, hVC⟩ := Kd.R_reads hV
  have HL9 := Lib.hid (HL8.out.next hb9)
  have HO9 := Lib.hid (Kd.C_below HO8.out hb9)
  have HP9 := Lib.hid (And.intro (Kd.C_below HP8.out.1 hb9) (And.intro HP8.out.2.1 (And.intro (Kd.C_below HP8.out.2.2.1 hb9) HP8.out.2.2.2)))
  have HV9 := Lib.hid (And.intro hVC (And.intro hvc hok))
  have hom := max_len hVC
  clear hVC hvc hV hok hb9 HL8 HO8 HP8
  have hI : ∀ x : Ext w9, Calls Tryd.prog 22 #[.slice PA p.length pc, .slice RA p.length rc] x.val fun e w' => e = .returned (.bool true) ∧ Below x.val.heap.size x.val w' := fun x => by
    have hx := x.2.below (fun _ _ h => h) (Nat.le_refl _)
    have := ints_any PA pc p RA rc p x.val (Kd.C_below HP9.out.1 hx) HP9.out.2.1 (Kd.C_below HP9.out.2.2.1 hx) HP9.out.2.2.2
    simpa using this
  have hL1 : ∀ x : Ext w9, _ := fun x => Lawful_any LA lc l UA uc u wt WA wn VA vc o x.val (HL9.out.args.next (x.2.below (fun _ _ h => h) (Nat.le_refl _))) (Kd.C_below HV9.out.1 (x.2.below (fun _ _ h => h) (Nat.le_refl _))) HV9.out.2.1
  have hL2 : ∀ x : Ext w9, Calls Tryd.prog 26 #[.slice OA l.length oc, .slice UA u.length uc, wtv wt WA wn, .slice VA o.length vc] x.val fun e w' => e = .returned (.bool (lawB l u wt o)) ∧ Below x.val.heap.size x.val w' := fun x => by
    have hx := x.2.below (fun _ _ h => h) (Nat.le_refl _)
    have := Lawful_any OA oc other UA uc u wt WA wn VA vc o x.val ⟨HL9.out.args.kinds.next hx, Kd.C_below HO9.out hx, Kd.C_below HL9.out.args.ru hx, Kd.C_below HL9.out.args.rw hx⟩ (Kd.C_below HV9.out.1 hx) HV9.out.2.1
    rw [HO.out.2.1, ← HO.out.2.2.1.law o] at this
    exact this
  unfold wtv at hL1 hL2
  generalize lawB l u wt o = lw at *
  have HI := Lib.hid hI; clear hI
  have HL1 := Lib.hid hL1; clear hL1
  have HL2 := Lib.hid hL2; clear hL2
  have HSP := Lib.hid hsp; clear hsp
  have e0 := cell_ext HL9.out.c0
  have e1 := cell_ext HL9.out.c1
  have e2 := cell_ext HL9.out.c2
  have e3 := cell_ext HL9.out.c3
  have e4 := cell_ext HL9.out.c4
  go_wp2_with fail
  cases lw
  all_goals
    refine region_ext (by kernel_rfl) (by kernel_rfl) ?_
    repeat (go_big_quiet_step (first | (go_at_call 22; with_reducible exact call_ext (HI.out _)) | (go_at_call 26; with_reducible exact call_ext (HL1.out _)) | (go_at_call 26; with_reducible exact call_ext (HL2.out _))))
    refine wpQuiet_nil ?_
    rintro W' ⟨X, rfl⟩
    have hX := X.2.below (fun _ _ h => h) (Nat.le_refl _)
    have HLX := Lib.hid (HL9.out.next hX)
    have HVX := Lib.hid (And.intro (Kd.C_below HV9.out.1 hX) HV9.out.2)
    clear e0 e1 e2 e3 e4 HI HL1 HL2
    have e0 := HLX.out.c0
    have e1 := HLX.out.c1
    have e2 := HLX.out.c2
    have e3 := HLX.out.c3
    have e4 := HLX.out.c4
    go_wp2_with fail
    have hA10 := (Below.refl X.val.heap.size X.val).alloc (Nat.le_refl _) (.cells #[.int .i64 wt.te, .int .i64 wt.cl, .int .i64 wt.at_, .int .i64 wt.us, .slice none 0 0] 29)
    have hY0 : WY X.val X.val.heap.size wt (.slice none 0 0) (ones []) (X.val.alloc (.cells #[.int .i64 wt.te, .int .i64 wt.cl, .int .i64 wt.at_, .int .i64 wt.us, .slice none 0 0] 29)) := ⟨hA10, Nat.le_refl _, heap_new rfl, Kd.R_nil _ _ _ _ _⟩
    have HY0 := Lib.hid hY0; clear hY0 hA10 e0 e1 e2 e3 e4 hX
    obtain ⟨w10, hw10⟩ : ∃ w10, w10 = X.val := ⟨_, rfl⟩
    rw [← hw10] at HY0 HLX HVX ⊢
    clear hw10
    generalize w10.alloc (.cells #[.int .i64 wt.te, .int .i64 wt.cl, .int .i64 wt.at_, .int .i64 wt.us, .slice none 0 0] 29) = W11 at *
    generalize hVB : w10.heap.size = VB at *
    have HOL := Lib.hid (show o.length ≤ 4 by have := HVX.out.2.2.1; have := (given_of HG.out.1).2.2.2.2; omega)
    go_loopw [27] (fun iv wr => ∃ i : Nat, iv = .int .i64 i ∧ i ≤ o.length ∧ Hid (∃ v, WY w10 VB wt v (ones (o.take i)) wr)) (fun iv wr => o.length - (intOf iv).toNat)
    case atStart => exact ⟨0, rfl, Nat.zero_le _, Lib.hid ⟨_, HY0.out⟩⟩
    case round =>
      obtain ⟨i, rfl, hi, HI⟩ := hrel
      obtain ⟨v, hWY⟩ := HI.out
      have HWY := Lib.hid hWY; clear hWY HI
      by_cases hlt : i < o.length
      · have hltI : (i : Int) < (o.length : Int) := by omega
        obtain ⟨vd, e, hx⟩ := Kd.at_int (Kd.C_below HVX.out.1 (by rw [hVB]; have := HWY.out.below; rwa [hVB] at this)) (i : Int) (by omega) hltI
        cases e
        simp only [Int.toNat_natCast] at hx
        rw [rd_get hlt] at hx
        have hon : ones (o.take i) ++ [[o[i]]] = ones (o.take (i + 1)) := by unfold ones; rw [List.take_succ_eq_append_getElem hlt, List.map_append]; rfl
        generalize o[i] = x at *
        have HON := Lib.hid hon; clear hon
        have HLN := Lib.hid (show (ones (o.take i)).length ≤ 4 by unfold ones; rw [List.length_map, List.length_take]; have := HOL.out; omega)
        go_wp2_with fail
        refine region_freeS (fun _ => True) [0, 2, 3, 4] #[true, false, true, true, true, false, false, false, false, false, false] 7 (by kernel_rfl) (by kernel_rfl) (fun c a d v w h => by cases h.2.1) ?_
        simp only [pick_cons, pick_nil, nthO_succ, nthO_zero]
        repeat (go_big_quiet_step (fail))
        refine wpQuiet_nil ?_
        have HF := Lib.hid (show Fr (fun _ => True) wr wr.drew from (Fr.refl _ _).drew)
        have hbd : Below wr.heap.size wr wr.drew := below_drew (Below.refl _ _)
        have HWD := Lib.hid (HWY.out.next hbd)
        have hxD := pw_cell_below hbd hx
        clear hx hbd
        obtain ⟨W0, hW0⟩ : ∃ W0, wr.drew = W0 := ⟨_, rfl⟩
        rw [hW0] at HF HWD hxD ⊢
        clear hW0
        have d40 : W0.cell? ⟨VB, 4, none⟩ = some v := cell_of HWD.out.vb rfl
        have hY1 := HWD.out.next ((Below.refl W0.heap.size W0).alloc (Nat.le_refl _) (.cells #[.int .i64 x] 3))
        have hY2 := hY1.next ((Below.refl (W0.alloc (.cells #[.int .i64 x] 3)).heap.size (W0.alloc (.cells #[.int .i64 x] 3))).alloc (Nat.le_refl _) (.cells #[.slice (some ⟨W0.heap.size, 0, none⟩) 1 1] 23))
        have d41 : (W0.alloc (.cells #[.int .i64 x] 3)).cell? ⟨VB, 4, none⟩ = some v := cell_of hY1.vb rfl
        have d42 : ((W0.alloc (.cells #[.int .i64 x] 3)).alloc (.cells #[.slice (some ⟨W0.heap.size, 0, none⟩) 1 1] 23)).cell? ⟨VB, 4, none⟩ = some v := cell_of hY2.vb rfl
        have hz0 : (W0.alloc (.cells #[.int .i64 x] 3)).heap.size = W0.heap.size + 1 := by simp
        have hVlt := (Array.getElem?_eq_some_iff.1 HWD.out.vb).1
        have hn8 : (Kd.int .i64).R 3 ((W0.alloc (.cells #[.int .i64 x] 3)).alloc (.cells #[.slice (some ⟨W0.heap.size, 0, none⟩) 1 1] 23)) (VB + 1) (fun k => k = W0.heap.size) (.slice (some ⟨W0.heap.size, 0, none⟩) 1 1) [x] := Kd.R_alloc (Kd.R_of_own (own_lit W0 (VB + 1) 3 .i64 [x] (by omega) (by simp)) (fun k hk => by simp [Value.ownBlock] at hk; omega)) _
        have hrow : ReadsRow (fun (y : List Int) cs => cs = [.slice (some ⟨W0.heap.size, 0, none⟩) 1 1] ∧ y = [x]) 1 ((W0.alloc (.cells #[.int .i64 x] 3)).alloc (.cells #[.slice (some ⟨W0.heap.size, 0, none⟩) 1 1] 23)) (some ⟨W0.heap.size + 1, 0, none⟩) 1 [[x]] := by
          refine ⟨rfl, by decide, fun _ => ⟨_, rfl, fun j q hj => ?_⟩⟩
          cases j with
          | zero =>
            obtain rfl : [x] = q := by simpa using hj
            refine ⟨_, rfl, ⟨rfl, rfl⟩, fun i u hi => ?_⟩
            rw [add_plain, ← hz0]
            exact cell_new (by simpa using hi)
          | succ j => simp at hj
        have hvz : ∀ g, v.ownBlock = some g → g < W0.heap.size := Kd.R_lt HWD.out.row
        have hvne : some VB ≠ v.ownBlock := fun e => by have := HWD.out.row.1 VB e.symm; omega
        have H8 := Lib.hid (And.intro hY2 (And.intro hn8 (And.intro hrow (And.intro hvz (And.intro (show VB < ((W0.alloc (.cells #[.int .i64 x] 3)).alloc (.cells #[.slice (some ⟨W0.heap.size, 0, none⟩) 1 1] 23)).heap.size by simp; omega) (And.intro hvne hVlt)))))); clear hY1 hY2 hn8 hrow hvz hvne hVlt hz0
        refine any_stepS [1, 5] (by kernel_rfl) ?_
        simp only [List.forall_mem_cons, List.forall_mem_nil, nthO_succ, nthO_zero]
        refine ⟨?_, ?_, fun _ h => by cases h⟩
        · skip
          go_wp2_with fail
          refine ⟨⟨⟨_, HF.out⟩, rfl⟩, ?_⟩
          refine any_stepS [5] (by kernel_rfl) ?_
          simp only [List.forall_mem_cons, List.forall_mem_nil, nthO_succ, nthO_zero]
          refine ⟨?_, fun _ h => by cases h⟩
          go_wp2_with fail
          refine ⟨⟨⟨_, HF.out⟩, rfl⟩, ?_⟩
          refine any_stepS [6] (by kernel_rfl) ?_
          simp only [List.forall_mem_cons, List.forall_mem_nil, nthO_succ, nthO_zero]
          refine ⟨?_, fun _ h => by cases h⟩
          go_wp2_with fail
          refine ⟨⟨⟨_, (HF.out.alloc (.cells #[.int .i64 x] 3))⟩, rfl⟩, ?_⟩
          refine any_stepS [7] (by kernel_rfl) ?_
          simp only [List.forall_mem_cons, List.forall_mem_nil, nthO_succ, nthO_zero]
          refine ⟨?_, fun _ h => by cases h⟩
          go_wp2_with fail
          refine ⟨⟨⟨_, ((HF.out.alloc (.cells #[.int .i64 x] 3)).alloc (.cells #[.slice (some ⟨W0.heap.size, 0, none⟩) 1 1] 23))⟩, rfl⟩, ?_⟩
          refine any_stepS [8] (by kernel_rfl) ?_
          simp only [List.forall_mem_cons, List.forall_mem_nil, nthO_succ, nthO_zero]
          refine ⟨?_, fun _ h => by cases h⟩
          go_wp2_with (at_builtin; go_loud (refine Kd.R_append_rows (Kd.slice 3 (Kd.int .i64)) (w0 := ((W0.alloc (.cells #[.int .i64 x] 3)).alloc (.cells #[.slice (some ⟨W0.heap.size, 0, none⟩) 1 1] 23))) (Rr := fun (y : List Int) cs => cs = [.slice (some ⟨W0.heap.size, 0, none⟩) 1 1] ∧ y = [x]) (VB + 1) rfl (.tmp 115) (.tmp 121) 27 23 (.slice none 0 0) 24 rfl Tryd.underlying27 info23 rfl (by decide) (by decide) _ (ones (o.take i)) [[x]] _ 1 1 (fun k => VB + 1 ≤ k) (fun k => k = W0.heap.size) rfl rfl H8.out.1.row H8.out.2.2.1 (fun y cs h => ⟨_, h.1, by rw [h.2]; exact H8.out.2.1⟩) (fun k hk => ⟨by have := H8.out.2.2.2.2.2.2; omega, fun e => by have := H8.out.2.2.2.1 k e.symm; omega⟩) (fun k hk => by have := H8.out.2.2.2.2.1; omega) (Below.refl _ _) H8.out.2.2.2.2.1 (by have := HLN.out; omega) ?_; intro v1 w9 h1 h2 h3 h4; obtain ⟨A9, c9, e9, hc9, _⟩ := Kd.R_reads h1; subst e9))
          have hV9 := (h3.block VB H8.out.2.2.2.2.1 H8.out.2.2.2.2.2.1).trans H8.out.1.vb
          have hB9 : Below w10.heap.size w10 w9 := pw_below_grown H8.out.1.below _ (by have := H8.out.1.below.size; omega) h3 (fun g hg => by have := HWY.out.row.1 g hg; have := HWY.out.lt; omega)
          have hF9 : Fr (fun _ => True) wr w9 := Fr.grown ((HF.out.alloc (.cells #[.int .i64 x] 3)).alloc (.cells #[.slice (some ⟨W0.heap.size, 0, none⟩) 1 1] 23)) h3 (fun _ _ _ => trivial)
          have H9 := Lib.hid (And.intro h1 (And.intro hV9 (And.intro hB9 hF9))); clear h1 h2 h3 h4 hV9 hB9 hF9
          refine ⟨⟨⟨_, H9.out.2.2.2⟩, rfl⟩, ?_⟩
          refine any_stepS [9] (by kernel_rfl) ?_
          simp only [List.forall_mem_cons, List.forall_mem_nil, nthO_succ, nthO_zero]
          refine ⟨?_, fun _ h => by cases h⟩
          go_wp2_with fail
          refine ⟨⟨⟨_, H9.out.2.2.2⟩, rfl⟩, ?_⟩
          refine any_stepS [10] (by kernel_rfl) ?_
          simp only [List.forall_mem_cons, List.forall_mem_nil, nthO_succ, nthO_zero]
          refine ⟨?_, fun _ h => by cases h⟩
          have c4 : w9.cell? ⟨VB, 4, none⟩ = some v := cell_of H9.out.2.1 rfl
          have f4 : w9.frozen? ⟨VB, 4, none⟩ = false := frozen_of H9.out.2.1
          go_wp2_with fail
          refine ⟨⟨⟨_, H9.out.2.2.2.setCell _ _ (fun _ => trivial)⟩, rfl⟩, wpAnyH_done (by kernel_rfl) ?_ _⟩
          go_wp2_with fail
          go_roundw
          case rel => exact ⟨i + 1, by go_num, by omega, Lib.hid ⟨_, by have hY := order_put H9.out.1 H9.out.2.1 H9.out.2.2.1 HWY.out.lt; rw [show (ones (o.take i) ++ [[x]]).length = (ones (o.take i)).length + 1 by simp, HON.out] at hY; exact hY⟩⟩
          case measure => simp [intOf]; omega
        · skip
          go_wp2_with fail
          refine ⟨⟨⟨_, HF.out⟩, rfl⟩, ?_⟩
          refine any_stepS [1, 6] (by kernel_rfl) ?_
          simp only [List.forall_mem_cons, List.forall_mem_nil, nthO_succ, nthO_zero]
          refine ⟨?_, ?_, fun _ h => by cases h⟩
          · skip
            go_wp2_with fail
            refine ⟨⟨⟨_, HF.out⟩, rfl⟩, ?_⟩
            refine any_stepS [6] (by kernel_rfl) ?_
            simp only [List.forall_mem_cons, List.forall_mem_nil, nthO_succ, nthO_zero]
            refine ⟨?_, fun _ h => by cases h⟩
            go_wp2_with fail
            refine ⟨⟨⟨_, (HF.out.alloc (.cells #[.int .i64 x] 3))⟩, rfl⟩, ?_⟩
            refine any_stepS [7] (by kernel_rfl) ?_
            simp only [List.forall_mem_cons, List.forall_mem_nil, nthO_succ, nthO_zero]
            refine ⟨?_, fun _ h => by cases h⟩
            go_wp2_with fail
            refine ⟨⟨⟨_, ((HF.out.alloc (.cells #[.int .i64 x] 3)).alloc (.cells #[.slice (some ⟨W0.heap.size, 0, none⟩) 1 1] 23))⟩, rfl⟩, ?_⟩
            refine any_stepS [8] (by kernel_rfl) ?_
            simp only [List.forall_mem_cons, List.forall_mem_nil, nthO_succ, nthO_zero]
            refine ⟨?_, fun _ h => by cases h⟩
            go_wp2_with (at_builtin; go_loud (refine Kd.R_append_rows (Kd.slice 3 (Kd.int .i64)) (w0 := ((W0.alloc (.cells #[.int .i64 x] 3)).alloc (.cells #[.slice (some ⟨W0.heap.size, 0, none⟩) 1 1] 23))) (Rr := fun (y : List Int) cs => cs = [.slice (some ⟨W0.heap.size, 0, none⟩) 1 1] ∧ y = [x]) (VB + 1) rfl (.tmp 115) (.tmp 121) 27 23 (.slice none 0 0) 24 rfl Tryd.underlying27 info23 rfl (by decide) (by decide) _ (ones (o.take i)) [[x]] _ 1 1 (fun k => VB + 1 ≤ k) (fun k => k = W0.heap.size) rfl rfl H8.out.1.row H8.out.2.2.1 (fun y cs h => ⟨_, h.1, by rw [h.2]; exact H8.out.2.1⟩) (fun k hk => ⟨by have := H8.out.2.2.2.2.2.2; omega, fun e => by have := H8.out.2.2.2.1 k e.symm; omega⟩) (fun k hk => by have := H8.out.2.2.2.2.1; omega) (Below.refl _ _) H8.out.2.2.2.2.1 (by have := HLN.out; omega) ?_; intro v1 w9 h1 h2 h3 h4; obtain ⟨A9, c9, e9, hc9, _⟩ := Kd.R_reads h1; subst e9))
            have hV9 := (h3.block VB H8.out.2.2.2.2.1 H8.out.2.2.2.2.2.1).trans H8.out.1.vb
            have hB9 : Below w10.heap.size w10 w9 := pw_below_grown H8.out.1.below _ (by have := H8.out.1.below.size; omega) h3 (fun g hg => by have := HWY.out.row.1 g hg; have := HWY.out.lt; omega)
            have hF9 : Fr (fun _ => True) wr w9 := Fr.grown ((HF.out.alloc (.cells #[.int .i64 x] 3)).alloc (.cells #[.slice (some ⟨W0.heap.size, 0, none⟩) 1 1] 23)) h3 (fun _ _ _ => trivial)
            have H9 := Lib.hid (And.intro h1 (And.intro hV9 (And.intro hB9 hF9))); clear h1 h2 h3 h4 hV9 hB9 hF9
            refine ⟨⟨⟨_, H9.out.2.2.2⟩, rfl⟩, ?_⟩
            refine any_stepS [9] (by kernel_rfl) ?_
            simp only [List.forall_mem_cons, List.forall_mem_nil, nthO_succ, nthO_zero]
            refine ⟨?_, fun _ h => by cases h⟩
            go_wp2_with fail
            refine ⟨⟨⟨_, H9.out.2.2.2⟩, rfl⟩, ?_⟩
            refine any_stepS [10] (by kernel_rfl) ?_
            simp only [List.forall_mem_cons, List.forall_mem_nil, nthO_succ, nthO_zero]
            refine ⟨?_, fun _ h => by cases h⟩
            have c4 : w9.cell? ⟨VB, 4, none⟩ = some v := cell_of H9.out.2.1 rfl
            have f4 : w9.frozen? ⟨VB, 4, none⟩ = false := frozen_of H9.out.2.1
            go_wp2_with fail
            refine ⟨⟨⟨_, H9.out.2.2.2.setCell _ _ (fun _ => trivial)⟩, rfl⟩, wpAnyH_done (by kernel_rfl) ?_ _⟩
            go_wp2_with fail
            go_roundw
            case rel => exact ⟨i + 1, by go_num, by omega, Lib.hid ⟨_, by have hY := order_put H9.out.1 H9.out.2.1 H9.out.2.2.1 HWY.out.lt; rw [show (ones (o.take i) ++ [[x]]).length = (ones (o.take i)).length + 1 by simp, HON.out] at hY; exact hY⟩⟩
            case measure => simp [intOf]; omega
          · skip
            go_wp2_with fail
            refine ⟨⟨⟨_, (HF.out.alloc (.cells #[.int .i64 x] 3))⟩, rfl⟩, ?_⟩
            refine any_stepS [1, 7] (by kernel_rfl) ?_
            simp only [List.forall_mem_cons, List.forall_mem_nil, nthO_succ, nthO_zero]
            refine ⟨?_, ?_, fun _ h => by cases h⟩
            · skip
              go_wp2_with fail
              refine ⟨⟨⟨_, (HF.out.alloc (.cells #[.int .i64 x] 3))⟩, rfl⟩, ?_⟩
              refine any_stepS [7] (by kernel_rfl) ?_
              simp only [List.forall_mem_cons, List.forall_mem_nil, nthO_succ, nthO_zero]
              refine ⟨?_, fun _ h => by cases h⟩
              go_wp2_with fail
              refine ⟨⟨⟨_, ((HF.out.alloc (.cells #[.int .i64 x] 3)).alloc (.cells #[.slice (some ⟨W0.heap.size, 0, none⟩) 1 1] 23))⟩, rfl⟩, ?_⟩
              refine any_stepS [8] (by kernel_rfl) ?_
              simp only [List.forall_mem_cons, List.forall_mem_nil, nthO_succ, nthO_zero]
              refine ⟨?_, fun _ h => by cases h⟩
              go_wp2_with (at_builtin; go_loud (refine Kd.R_append_rows (Kd.slice 3 (Kd.int .i64)) (w0 := ((W0.alloc (.cells #[.int .i64 x] 3)).alloc (.cells #[.slice (some ⟨W0.heap.size, 0, none⟩) 1 1] 23))) (Rr := fun (y : List Int) cs => cs = [.slice (some ⟨W0.heap.size, 0, none⟩) 1 1] ∧ y = [x]) (VB + 1) rfl (.tmp 115) (.tmp 121) 27 23 (.slice none 0 0) 24 rfl Tryd.underlying27 info23 rfl (by decide) (by decide) _ (ones (o.take i)) [[x]] _ 1 1 (fun k => VB + 1 ≤ k) (fun k => k = W0.heap.size) rfl rfl H8.out.1.row H8.out.2.2.1 (fun y cs h => ⟨_, h.1, by rw [h.2]; exact H8.out.2.1⟩) (fun k hk => ⟨by have := H8.out.2.2.2.2.2.2; omega, fun e => by have := H8.out.2.2.2.1 k e.symm; omega⟩) (fun k hk => by have := H8.out.2.2.2.2.1; omega) (Below.refl _ _) H8.out.2.2.2.2.1 (by have := HLN.out; omega) ?_; intro v1 w9 h1 h2 h3 h4; obtain ⟨A9, c9, e9, hc9, _⟩ := Kd.R_reads h1; subst e9))
              have hV9 := (h3.block VB H8.out.2.2.2.2.1 H8.out.2.2.2.2.2.1).trans H8.out.1.vb
              have hB9 : Below w10.heap.size w10 w9 := pw_below_grown H8.out.1.below _ (by have := H8.out.1.below.size; omega) h3 (fun g hg => by have := HWY.out.row.1 g hg; have := HWY.out.lt; omega)
              have hF9 : Fr (fun _ => True) wr w9 := Fr.grown ((HF.out.alloc (.cells #[.int .i64 x] 3)).alloc (.cells #[.slice (some ⟨W0.heap.size, 0, none⟩) 1 1] 23)) h3 (fun _ _ _ => trivial)
              have H9 := Lib.hid (And.intro h1 (And.intro hV9 (And.intro hB9 hF9))); clear h1 h2 h3 h4 hV9 hB9 hF9
              refine ⟨⟨⟨_, H9.out.2.2.2⟩, rfl⟩, ?_⟩
              refine any_stepS [9] (by kernel_rfl) ?_
              simp only [List.forall_mem_cons, List.forall_mem_nil, nthO_succ, nthO_zero]
              refine ⟨?_, fun _ h => by cases h⟩
              go_wp2_with fail
              refine ⟨⟨⟨_, H9.out.2.2.2⟩, rfl⟩, ?_⟩
              refine any_stepS [10] (by kernel_rfl) ?_
              simp only [List.forall_mem_cons, List.forall_mem_nil, nthO_succ, nthO_zero]
              refine ⟨?_, fun _ h => by cases h⟩
              have c4 : w9.cell? ⟨VB, 4, none⟩ = some v := cell_of H9.out.2.1 rfl
              have f4 : w9.frozen? ⟨VB, 4, none⟩ = false := frozen_of H9.out.2.1
              go_wp2_with fail
              refine ⟨⟨⟨_, H9.out.2.2.2.setCell _ _ (fun _ => trivial)⟩, rfl⟩, wpAnyH_done (by kernel_rfl) ?_ _⟩
              go_wp2_with fail
              go_roundw
              case rel => exact ⟨i + 1, by go_num, by omega, Lib.hid ⟨_, by have hY := order_put H9.out.1 H9.out.2.1 H9.out.2.2.1 HWY.out.lt; rw [show (ones (o.take i) ++ [[x]]).length = (ones (o.take i)).length + 1 by simp, HON.out] at hY; exact hY⟩⟩
              case measure => simp [intOf]; omega
            · skip
              go_wp2_with fail
              refine ⟨⟨⟨_, ((HF.out.alloc (.cells #[.int .i64 x] 3)).alloc (.cells #[.slice (some ⟨W0.heap.size, 0, none⟩) 1 1] 23))⟩, rfl⟩, ?_⟩
              refine any_stepS [1] (by kernel_rfl) ?_
              simp only [List.forall_mem_cons, List.forall_mem_nil, nthO_succ, nthO_zero]
              refine ⟨?_, fun _ h => by cases h⟩
              go_wp2_with fail
              refine ⟨⟨⟨_, ((HF.out.alloc (.cells #[.int .i64 x] 3)).alloc (.cells #[.slice (some ⟨W0.heap.size, 0, none⟩) 1 1] 23))⟩, rfl⟩, ?_⟩
              refine any_stepS [8] (by kernel_rfl) ?_
              simp only [List.forall_mem_cons, List.forall_mem_nil, nthO_succ, nthO_zero]
              refine ⟨?_, fun _ h => by cases h⟩
              go_wp2_with (at_builtin; go_loud (refine Kd.R_append_rows (Kd.slice 3 (Kd.int .i64)) (w0 := ((W0.alloc (.cells #[.int .i64 x] 3)).alloc (.cells #[.slice (some ⟨W0.heap.size, 0, none⟩) 1 1] 23))) (Rr := fun (y : List Int) cs => cs = [.slice (some ⟨W0.heap.size, 0, none⟩) 1 1] ∧ y = [x]) (VB + 1) rfl (.tmp 115) (.tmp 121) 27 23 (.slice none 0 0) 24 rfl Tryd.underlying27 info23 rfl (by decide) (by decide) _ (ones (o.take i)) [[x]] _ 1 1 (fun k => VB + 1 ≤ k) (fun k => k = W0.heap.size) rfl rfl H8.out.1.row H8.out.2.2.1 (fun y cs h => ⟨_, h.1, by rw [h.2]; exact H8.out.2.1⟩) (fun k hk => ⟨by have := H8.out.2.2.2.2.2.2; omega, fun e => by have := H8.out.2.2.2.1 k e.symm; omega⟩) (fun k hk => by have := H8.out.2.2.2.2.1; omega) (Below.refl _ _) H8.out.2.2.2.2.1 (by have := HLN.out; omega) ?_; intro v1 w9 h1 h2 h3 h4; obtain ⟨A9, c9, e9, hc9, _⟩ := Kd.R_reads h1; subst e9))
              have hV9 := (h3.block VB H8.out.2.2.2.2.1 H8.out.2.2.2.2.2.1).trans H8.out.1.vb
              have hB9 : Below w10.heap.size w10 w9 := pw_below_grown H8.out.1.below _ (by have := H8.out.1.below.size; omega) h3 (fun g hg => by have := HWY.out.row.1 g hg; have := HWY.out.lt; omega)
              have hF9 : Fr (fun _ => True) wr w9 := Fr.grown ((HF.out.alloc (.cells #[.int .i64 x] 3)).alloc (.cells #[.slice (some ⟨W0.heap.size, 0, none⟩) 1 1] 23)) h3 (fun _ _ _ => trivial)
              have H9 := Lib.hid (And.intro h1 (And.intro hV9 (And.intro hB9 hF9))); clear h1 h2 h3 h4 hV9 hB9 hF9
              refine ⟨⟨⟨_, H9.out.2.2.2⟩, rfl⟩, ?_⟩
              refine any_stepS [9] (by kernel_rfl) ?_
              simp only [List.forall_mem_cons, List.forall_mem_nil, nthO_succ, nthO_zero]
              refine ⟨?_, fun _ h => by cases h⟩
              go_wp2_with fail
              refine ⟨⟨⟨_, H9.out.2.2.2⟩, rfl⟩, ?_⟩
              refine any_stepS [10] (by kernel_rfl) ?_
              simp only [List.forall_mem_cons, List.forall_mem_nil, nthO_succ, nthO_zero]
              refine ⟨?_, fun _ h => by cases h⟩
              have c4 : w9.cell? ⟨VB, 4, none⟩ = some v := cell_of H9.out.2.1 rfl
              have f4 : w9.frozen? ⟨VB, 4, none⟩ = false := frozen_of H9.out.2.1
              go_wp2_with fail
              refine ⟨⟨⟨_, H9.out.2.2.2.setCell _ _ (fun _ => trivial)⟩, rfl⟩, wpAnyH_done (by kernel_rfl) ?_ _⟩
              go_wp2_with fail
              go_roundw
              case rel => exact ⟨i + 1, by go_num, by omega, Lib.hid ⟨_, by have hY := order_put H9.out.1 H9.out.2.1 H9.out.2.2.1 HWY.out.lt; rw [show (ones (o.take i) ++ [[x]]).length = (ones (o.take i)).length + 1 by simp, HON.out] at hY; exact hY⟩⟩
              case measure => simp [intOf]; omega
      · obtain rfl : i = o.length := by omega
        rw [List.take_length] at HWY
        have HLZ := Lib.hid (HLX.out.next (by rw [hVB]; have := HWY.out.below; rwa [hVB] at this))
        obtain ⟨NA2, nc2, rfl, hnc2, hNC2⟩ := Kd.R_reads HWY.out.row
        obtain ⟨hgo, hso⟩ := ones_want HG.out.1 HVX.out.2.2
        have HGO := Lib.hid (And.intro hgo (And.intro hso hNC2)); clear hgo hso hNC2
        have c0 : wr.cell? ⟨VB, 0, none⟩ = some (.int .i64 wt.te) := cell_of HWY.out.vb rfl
        have c1 : wr.cell? ⟨VB, 1, none⟩ = some (.int .i64 wt.cl) := cell_of HWY.out.vb rfl
        have c2 : wr.cell? ⟨VB, 2, none⟩ = some (.int .i64 wt.at_) := cell_of HWY.out.vb rfl
        have c3 : wr.cell? ⟨VB, 3, none⟩ = some (.int .i64 wt.us) := cell_of HWY.out.vb rfl
        have c4 : wr.cell? ⟨VB, 4, none⟩ = some (.slice NA2 (ones o).length nc2) := cell_of HWY.out.vb rfl
        go_wp2_with fail
        have hSo := Solve_any LA lc l UA uc u { wt with needs := ones o } NA2 nc2 wr ⟨HLZ.out.args.kinds, HLZ.out.args.rl, HLZ.out.args.ru, HGO.out.2.2⟩
        unfold wtv at hSo
        refine hSo.mono ?_
        clear hSo c0 c1 c2 c3 c4
        rintro e w12 ⟨z1, z2, rfl, hZ, hZ2, hb12⟩
        have hE : solveE l u { wt with needs := ones o } = 0 := by unfold solveE; rw [if_pos HGO.out.1]
        rw [hE]
        clear hE
        obtain ⟨ZA, zc, rfl, hzc, hZC⟩ := Kd.R_reads hZ
        have hzm := max_len hZC
        have HLZ2 := Lib.hid (HLZ.out.next hb12)
        have HZP := Lib.hid HGO.out.2.1
        clear hb12 hZ hZ2 hZC hzc HGO
        have hzp : solve1 l u { wt with needs := ones o } = [] ∨ (solve1 l u { wt with needs := ones o } ≠ [] ∧ p ≠ []) := by
          by_cases h : solve1 l u { wt with needs := ones o } = []
          · exact .inl h
          · exact .inr ⟨h, by rw [← HPE.out]; exact HZP.out h⟩
        generalize solve1 l u { wt with needs := ones o } = zl at *
        rcases hzp with rfl | ⟨hz1, hz2⟩
        · go_wp2_with fail
          go_ret
          exact ⟨rfl, HLZ2.out.below⟩
        · have hz3 : ((zl.length : Int) == 0) = false := by simpa using hz1
          have hz4 : 0 < p.length := List.length_pos_iff.2 hz2
          have hz5 : (0 : Int) < (p.length : Int) := by omega
          go_wp2_with fail
          go_ret
          exact ⟨rfl, HLZ2.out.below⟩
end Go.Proofs.YtnabgijdbcdpmaaDoor

namespace Go.Proofs.YtnabgijdbcdpmaaDoor.rightsOrder
open Go.ChangeShapes Go.WideShapes Go.ChangeAt Go.RowKit
set_option linter.unusedVariables false
set_option linter.unusedSimpArgs false
set_option maxRecDepth 100000 in
theorem lifted (os : Os) (started : os.Started) (H : Type) (enc : TypeId × Value → H) :
    ReturnsInHanded {} Tryd.checked os 8 .any (fun w args => (Rows.rightsOrderSpec.pre enc Tryd.prog Tryd.f8 [] false w args ∧ laidMetH Tryd.prog laid1 w) ∧ sizedMet enc Tryd.prog Tryd.f8 (OpenSpec.ofChange Rows.rightsOrderSpec) false w args)
      (Rows.rightsOrderSpec.post enc Tryd.prog Tryd.f8 false true false false) := by
  refine returnsInHanded_of_change_and (C := Tryd.checked) (X := fun w _ => laidMetH Tryd.prog laid1 w) (fun _ _ _ hh h => h.of_heap hh) own started (by kernel_rfl) Tryd.func8
    (ChangeSpec.witness_shaped (enc := enc) (C := Tryd.checked) (os := os) (X := fun w _ => laidMetH Tryd.prog laid1 w) false (World.doorLaid Tryd.prog 600 os) #[.slice none 0 0, .int .i64 0, .slice none 0 0, .slice none 0 0, .int .i64 0, .slice none 0 0] 8 rfl (World.shaped_of_RefB (by kernel_rfl) (by kernel_rfl)) (by kernel_rfl) (by kernel_rfl) (by kernel_rfl) (door_met os _)) ?_
  intro W base args ds gs before hval0 hW _ _ hL _
  have hval : ∀ (j : Nat) t v, Tryd.f8.params[j]? = some t → args[j]? = some v → Value.okWide Tryd.prog W .any base t v := hval0
  have hW' := hW
  obtain ⟨p, q, hA0, hV, rfl, hfz, hnd⟩ := hW
  have hA : DataW.TrodAll enc Tryd.prog W 0 (fun _ => true) true Tryd.f8.params.toList args.toList ds p := hA0
  rw [Tryd.params8] at hA hval
  obtain ⟨v0, vs0, d0, ds0, p0, q0, hargs, rfl, rfl, h0, r0⟩ := trodAll_cons hA
  obtain ⟨v1, vs1, d1, ds1, p1, q1, rfl, rfl, rfl, h1, r1⟩ := trodAll_cons r0
  obtain ⟨v2, vs2, d2, ds2, p2, q2, rfl, rfl, rfl, h2, r2⟩ := trodAll_cons r1
  obtain ⟨v3, vs3, d3, ds3, p3, q3, rfl, rfl, rfl, h3, r3⟩ := trodAll_cons r2
  obtain ⟨v4, vs4, d4, ds4, p4, q4, rfl, rfl, rfl, h4, r4⟩ := trodAll_cons r3
  obtain ⟨v5, vs5, d5, ds5, p5, q5, rfl, rfl, rfl, h5, r5⟩ := trodAll_cons r4
  obtain ⟨rfl, rfl, rfl⟩ := trodAll_nil r5
  obtain rfl : args = #[v0, v1, v2, v3, v4, v5] := by cases args; simp_all
  obtain ⟨rfl, rfl⟩ := trodVars_none hV
  have k0 := h0
  have lt0 : ∀ x ∈ p0, x.block < W.heap.size := by obtain ⟨m, hm⟩ := k0; exact DataW.trod_lt m _ _ _ hm
  obtain ⟨A0, n0, c0, rfl, hc0, hX0⟩ := open_row22 (hval 0 22 v0 rfl rfl) h0
  obtain ⟨a1, rfl, rfl, rfl, w1⟩ := open_int Tryd.underlying3 (hval 1 3 v1 rfl rfl) h1
  have k2 := h2
  have lt2 : ∀ x ∈ p2, x.block < W.heap.size := by obtain ⟨m, hm⟩ := k2; exact DataW.trod_lt m _ _ _ hm
  obtain ⟨A2, c2, x2, rfl, hc2, hC2, hg2⟩ := open_row23 (hval 2 23 v2 rfl rfl) h2
  have k3 := h3
  have lt3 : ∀ x ∈ p3, x.block < W.heap.size := by obtain ⟨m, hm⟩ := k3; exact DataW.trod_lt m _ _ _ hm
  obtain ⟨A3, c3, x3, rfl, hc3, hC3, hg3⟩ := open_row23 (hval 3 23 v3 rfl rfl) h3
  obtain ⟨a4, rfl, rfl, rfl, w4⟩ := open_int Tryd.underlying3 (hval 4 3 v4 rfl rfl) h4
  have k5 := h5
  have lt5 : ∀ x ∈ p5, x.block < W.heap.size := by obtain ⟨m, hm⟩ := k5; exact DataW.trod_lt m _ _ _ hm
  obtain ⟨A5, c5, x5, rfl, hc5, hC5, hg5⟩ := open_row23 (hval 5 23 v5 rfl rfl) h5
  clear hA0 hval0
  refine (order_law A0 n0 c0 a1 A2 c2 x2 A3 c3 x3 a4 (lit_rng w4) A5 c5 x5 W (of_laid hL) hX0 (lit_rng w1) hC2 hg2 hC3 hg3 hC5 hg5).mono fun e W' ⟨he, hg⟩ => ?_
  subst he
  exact ⟨_, rfl, _, _, _, [], _, [], hW', trodAll_mk1 (shut_bool Tryd.underlying4 _), (trodAll_cons_mk (Below.trod laidOut (by kernel_rfl) (of_decide_eq_true (by kernel_rfl)) k0 hg lt0) (trodAll_cons_mk (shut_int Tryd.underlying3 w1) (trodAll_cons_mk (Below.trod laidOut (by kernel_rfl) (of_decide_eq_true (by kernel_rfl)) k2 hg lt2) (trodAll_cons_mk (Below.trod laidOut (by kernel_rfl) (of_decide_eq_true (by kernel_rfl)) k3 hg lt3) (trodAll_cons_mk (shut_int Tryd.underlying3 w4) (trodAll_cons_mk (Below.trod laidOut (by kernel_rfl) (of_decide_eq_true (by kernel_rfl)) k5 hg lt5) trodAll_mk0)))))), rfl, hg.frame _, fun h => by cases h⟩

theorem over : Rows.rightsOrderRow.holds Tryd.pinned (OpenSpec.ofChange Rows.rightsOrderSpec) :=
  OpenClaim.holds_of_wide 8 Tryd.f8 rfl rfl rfl rfl rfl rfl rfl ⟨rfl, rfl, rfl, rfl, rfl⟩ rfl rfl rfl rfl rfl (by kernel_rfl) Tryd.func8 (by kernel_rfl)
    (of_decide_eq_true (by kernel_rfl)) (by unfold Func.isWrapper; first | (rw [if_pos (by decide +kernel)]; kernel_rfl) | (rw [if_neg (by decide +kernel)]; exact ⟨rfl, rfl⟩))
    (fun os started H enc _ => lifted os started H enc)
theorem said : Rows.RightsOrderSaid := over

/-- ████ THE STATEMENT ████ -/
theorem proved : Rows.RightsOrderCardSaid :=
  Claim7.holds_tied_plain_at .later [] [.funcs] true (true, "c882bbf18fe2638fa03ec3f0946baf73ba33234a0127255e741620561da83a79") false
    said (fun _ h => by cases h) (by kernel_rfl) (fun _ h => by cases h) rightsOrder_row_tie rfl ⟨rfl, rfl⟩ (by kernel_rfl) rfl
    (fun f fn hf hfn => by
      obtain rfl : f = 8 := Option.some.inj ((show Tryd.prog.funcNamed "newswire/newswirelaw29.RightsOrder" = some 8 by kernel_rfl).symm.trans hf) |>.symm
      obtain rfl : fn = Tryd.f8 := (Option.some.inj (Tryd.func8.symm.trans hfn)).symm
      exact ⟨by kernel_rfl, fun j t ht => by
        rw [Tryd.params8] at ht
        have hm : t ∈ [22, 3, 23, 23, 3, 23] := by simpa using Array.mem_of_getElem? ht
        have hall : ([22, 3, 23, 23, 3, 23].all fun u => !Tryd.prog.wantsStandIn u) = true := by kernel_rfl
        exact (show Tryd.prog.wantsStandIn t = false by simpa using List.all_eq_true.1 hall t hm)⟩)
    (by kernel_rfl)
#print axioms proved
end Go.Proofs.YtnabgijdbcdpmaaDoor.rightsOrder
