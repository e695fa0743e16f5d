/- Rights: the law RightsUses answers true at every input, as the given card states it, rights.kinds being tied to the program's text; no further condition. -/
import Derived.Test.YtnabgijdbcdpmaaDoorZf
import Derived.Test.YtnabgijdbcdpmaaDoorRows
import Derived.Test.YtnabgijdbcdpmaaDoorTie
import Derived.Test.YtnabgijdbcdpmaaDoorCards
import Derived.SevenTiedAt
namespace Go.Proofs.YtnabgijdbcdpmaaDoor
open Go.RowKit Go.Rg Go.Proofs.YtnabgijdbcdpmaaDoor.PRightsMatchesReference Go.Proofs.YtnabgijdbcdpmaaDoorW.PrintWords
set_option linter.unusedVariables false
set_option linter.unusedSimpArgs false

theorem offered_bd {l : List Cl} {wt : Wt} {k : Int} (h : offered l wt k = true) : 0 ≤ k ∧ k < 12 := by
  unfold offered at h
  obtain ⟨c, _, hc⟩ := List.any_eq_true.1 h
  simp only [Bool.and_eq_true, decide_eq_true_eq] at hc
  have ha := hc.2.2
  unfold applies at ha
  simp only [Bool.and_eq_true] at ha
  have := vld_bd ha.1
  omega
theorem law_pkg {l : List Cl} {u : List Int} {wt : Wt} {p : List Int} (h : lawB l u wt p = true) : p.Nodup ∧ ∀ i (hi : i < p.length), 0 ≤ p[i] ∧ p[i] < 12 := by
  have hp := (mem_packs l wt p).1 (lawB_iff.1 h).2.1
  exact ⟨isPk_nodup hp, fun i hi => offered_bd (isPk_mem hp p[i] (List.getElem_mem hi)).2⟩
theorem rd_set_ne {u : List Int} {j k x : Int} (hj : 0 ≤ j) (hk : 0 ≤ k) (h : j ≠ k) : rd (u.set j.toNat x) k = rd u k := by
  have : j.toNat ≠ k.toNat := by omega
  unfold rd
  simp [List.getD, List.getElem?_set, this]
theorem rd_set_eq {u : List Int} {j x : Int} (hj : 0 ≤ j) (h : j < u.length) : rd (u.set j.toNat x) j = x := by
  have : j.toNat < u.length := by omega
  unfold rd
  simp [List.getD, List.getElem?_set, this]
theorem Plus.start {u : List Int} {S : Int} (h : u.length = 12) : Plus u u [] S := ⟨h, fun k _ _ => by simp⟩
theorem Plus.step {u v p : List Int} {i : Nat} {S : Int} (h : Plus u v (p.take i) S) (hi : i < p.length) (hn : p.Nodup) (h0 : 0 ≤ p[i]) (h1 : p[i] < 12) : Plus u (v.set (p[i]).toNat (rd v p[i] + S)) (p.take (i + 1)) S := by
  refine ⟨by rw [List.length_set]; exact h.1, fun k k0 k1 => ?_⟩
  have hmm : k ∈ p.take (i + 1) ↔ k ∈ p.take i ∨ k = p[i] := by
    rw [List.take_succ_eq_append_getElem hi, List.mem_append, List.mem_singleton]
  have hni : p[i] ∉ p.take i := by
    intro hm
    obtain ⟨j, hj, e⟩ := List.mem_iff_getElem.1 hm
    rw [List.getElem_take] at e
    rw [List.length_take] at hj
    exact (List.pairwise_iff_getElem.1 hn) j i (by omega) hi (by omega) e
  have hk := h.2 k k0 k1
  by_cases e : p[i] = k
  · subst e
    rw [rd_set_eq h0 (by have := h.1; omega), hk, if_neg hni, if_pos (hmm.2 (.inr rfl))]
    omega
  · rw [rd_set_ne h0 k0 e, hk]
    have e2 : ¬ k = p[i] := fun h => e h.symm
    simp only [hmm, e2, or_false]
theorem Plus.comp {u v x p : List Int} {S T : Int} (h : Plus u v p S) (k : Plus v x p T) : Plus u x p (S + T) := by
  refine ⟨k.1, fun j j0 j1 => ?_⟩
  rw [k.2 j j0 j1, h.2 j j0 j1]
  split <;> omega
theorem small_bd {u : List Int} (h : usedOk u = true) (hs : small u) (h12 : u.length = 12) {k : Int} (h0 : 0 ≤ k) (h1 : k < 12) : 0 ≤ rd u k ∧ rd u k ≤ 24 := by
  obtain ⟨m, rfl⟩ := Int.eq_ofNat_of_zero_le h0
  have hm : m < u.length := by omega
  have := used_bd h h12 h0 (by omega)
  rw [rd_get hm] at this ⊢
  exact ⟨this.1, hs _ (List.getElem_mem hm)⟩
theorem Plus.bd {u v p : List Int} {S : Int} (h : Plus u v p S) (hu : usedOk u = true) (hs : small u) (h12 : u.length = 12) (h0 : 0 ≤ S) (h1 : S ≤ 900) {k : Int} (k0 : 0 ≤ k) (k1 : k < 12) : 0 ≤ rd v k ∧ rd v k ≤ 924 := by
  have := small_bd hu hs h12 k0 k1
  rw [h.2 k k0 k1]
  split <;> omega
theorem Plus.ok {u v p : List Int} {S : Int} (h : Plus u v p S) (hu : usedOk u = true) (hs : small u) (h12 : u.length = 12) (h0 : 0 ≤ S) (h1 : S ≤ 900) : usedOk v = true := by
  unfold usedOk
  rw [List.all_eq_true]
  intro x hx
  obtain ⟨j, hj, rfl⟩ := List.mem_iff_getElem.1 hx
  have := h.bd hu hs h12 h0 h1 (k := (j : Int)) (by omega) (by have := h.1; omega)
  rw [rd_get hj] at this
  simp only [inR, Bool.and_eq_true, decide_eq_true_eq]
  omega
theorem bears_bd {wt : Wt} {p : List Int} {c : Cl} {u : List Int} (hu : usedOk u = true) (hs : small u) (h12 : u.length = 12) (h : bears wt p c = true) : -24 ≤ c.f6 - rd u c.f0 ∧ c.f6 - rd u c.f0 ≤ 1000000 := by
  unfold bears at h
  simp only [Bool.and_eq_true, decide_eq_true_eq] at h
  have ha := h.1
  unfold applies at ha
  simp only [Bool.and_eq_true] at ha
  have hb := vld_bd ha.1
  have := small_bd hu hs h12 hb.1 (by omega)
  have hv := ha.1
  unfold vld fieldsOk inR at hv
  rw [if_pos h.2.1] at hv
  simp only [Bool.and_eq_true, decide_eq_true_eq] at hv
  omega
theorem room_bd {l : List Cl} {u : List Int} {wt : Wt} {p : List Int} (hu : usedOk u = true) (hs : small u) (h12 : u.length = 12) : -24 ≤ roomOf l u wt p ∧ roomOf l u wt p ≤ 1000000 :=
  ⟨le_room.2 ⟨by omega, fun c _ hb => (bears_bd hu hs h12 hb).1⟩, (le_room.1 (Int.le_refl (roomOf l u wt p))).1⟩
theorem room_nil {u : List Int} {wt : Wt} {p : List Int} : roomOf [] u wt p = 1000000 := rfl
/-- Uses that are less, each by what is picked, and not below zero. -/
def Less (u s : List Int) : Prop := s.length = 12 ∧ usedOk s = true ∧ ∀ k, 0 ≤ k → k < 12 → rd s k ≤ rd u k
theorem Less.refl {u : List Int} (h : usedOk u = true) (h12 : u.length = 12) : Less u u := ⟨h12, h, fun _ _ _ => Int.le_refl _⟩
theorem Less.step {u s : List Int} (h : Less u s) {k : Nat} (hk : k < 12) {d x : Int} (hd : 0 ≤ d) (hx : x = if d < rd s k then rd s k - d else 0) : Less u (s.set k x) := by
  have hb := used_bd h.2.1 h.1 (k := (k : Int)) (by omega) (by omega)
  have hx0 : 0 ≤ x ∧ x ≤ rd s k := by rw [hx]; split <;> omega
  refine ⟨by rw [List.length_set]; exact h.1, ?_, fun j j0 j1 => ?_⟩
  · exact usedOk_set h.2.1 hx0.1 (by omega)
  · have hj := h.2.2 j j0 j1
    by_cases e : (k : Int) = j
    · subst e
      have := rd_set_eq (u := s) (x := x) (j := (k : Int)) (by omega) (by have := h.1; omega)
      simp only [Int.toNat_natCast] at this
      rw [this]; omega
    · have := rd_set_ne (u := s) (x := x) (j := (k : Int)) (k := j) (by omega) j0 e
      simp only [Int.toNat_natCast] at this
      rw [this]; exact hj
/-- An own row that is not empty is a block's head. -/
theorem R_head {w : World} {e base : Nat} {ok : Nat → Prop} {v : Value} {xs : List Int} (h : (Kd.int .i64).R e w base ok v xs) (hx : 0 < xs.length) : ∃ g cap, v = .slice (some ⟨g, 0, none⟩) xs.length cap ∧ xs.length ≤ cap ∧ ok g ∧ g < w.heap.size := by
  have hlt := Kd.R_lt h
  have hok := h.1
  obtain ⟨_, inner, ho, hr⟩ := h
  rcases ho.2 with ⟨rfl, h0⟩ | ⟨g, cap, cur, rfl, _, _, hc, _⟩
  · omega
  · exact ⟨g, cap, rfl, hc, hok g rfl, hlt g rfl⟩
end Go.Proofs.YtnabgijdbcdpmaaDoor

namespace Go.Proofs.YtnabgijdbcdpmaaDoor
open Go.RowKit Go.Rg Go.Proofs.YtnabgijdbcdpmaaDoor.PRightsMatchesReference Go.Proofs.YtnabgijdbcdpmaaDoorW.PrintWords
set_option linter.unusedVariables false
set_option linter.unusedSimpArgs false

set_option maxRecDepth 100000 in
set_option maxHeartbeats 16000000 in
theorem uses_law (XA : Option Addr) (xn xc : Nat) (n : Int) (NA : Option Addr) (nc : Nat) (ns : List Int) (SA : Option Addr) (sc : Nat) (ss : List Int) (FA : Option Addr) (fc : Nat) (fs : List Int) (fn : Int) (hfn : rng fn) (w : World) (hK : Kinds w) (hx : X5 w XA xn) (hn : rng n) (hN : (Kd.int .i64).C w NA ns.length ns) (hNr : ∀ x ∈ ns, rng x) (hS : (Kd.int .i64).C w SA ss.length ss) (hSr : ∀ x ∈ ss, rng x) (hF : (Kd.int .i64).C w FA fs.length fs) (hFr : ∀ x ∈ fs, rng x) :
    Calls Tryd.prog 7 #[.slice XA xn xc, .int .i64 n, .slice NA ns.length nc, .slice SA ss.length sc, .slice FA fs.length fc, .int .i64 fn] w fun e w' => e = .returned (.bool true) ∧ Below w.heap.size w w' := by
  have HF := Lib.hid (And.intro hF (And.intro hFr hfn)); clear hF hFr hfn
  have HN := Lib.hid (And.intro hN (And.intro hNr hn)); clear hN hNr hn
  have HS := Lib.hid (And.intro hS hSr); clear hS hSr
  have HX := Lib.hid hx; clear hx
  have HK := Lib.hid hK; clear hK
  go_enter Tryd.func7, Tryd.ntmps7
  go_wp2_with fail
  refine (sane_any _ HK.out).mono ?_
  rintro e w1 ⟨rfl, hb1⟩
  have HB1 := Lib.hid hb1; clear hb1
  go_wp2_with fail
  refine (Made_any XA xc xn _ (HX.out.below HB1.out)).mono ?_
  rintro e w2 ⟨v, l, rfl, hR, hv, hll, hb2⟩
  obtain ⟨LA, lc, rfl, hlc, hRC⟩ := Kd.R_reads hR
  have HB2 := Lib.hid (And.intro (HB1.out.trans (hb2.mono HB1.out.size)) (And.intro hRC hv)); clear hb2 hR hRC hv HB1 hll
  go_wp2_with fail
  refine (MadeWant_any n NA nc ns _ (Kd.C_below HN.out.1 HB2.out.1) HN.out.2.2 HN.out.2.1).mono ?_
  rintro e w3 ⟨wt, WA, wn, rfl, hW, hvw, hus, hb3⟩
  have HB3 := Lib.hid (And.intro (HB2.out.1.trans (hb3.mono HB2.out.1.size)) (And.intro (Kd.C_below HB2.out.2.1 hb3) (And.intro HB2.out.2.2 (And.intro hW (And.intro hvw hus))))); clear hb3 HB2 hW hvw hus
  unfold wtv
  go_wp2_with fail
  have hA3 := (Below.refl w3.heap.size w3).alloc (Nat.le_refl _) (.cells (wtc wt WA wn) 29)
  have hk3 := heap_new (o := .cells (wtc wt WA wn) 29) (W := w3) rfl
  have HA3 := Lib.hid (And.intro (HB3.out.1.trans (hA3.mono HB3.out.1.size)) (And.intro (Kd.C_below HB3.out.2.1 hA3) (And.intro (Kd.C_below HB3.out.2.2.2.1 hA3) hk3))); clear hA3 hk3
  unfold wtc at HA3
  generalize hWB : w3.heap.size = WB at *
  generalize w3.alloc (.cells #[.int .i64 wt.te, .int .i64 wt.cl, .int .i64 wt.at_, .int .i64 wt.us, .slice WA wt.needs.length wn] 29) = W3 at *
  refine (MadeUsed_any SA sc ss W3 (Kd.C_below HS.out.1 HA3.out.1) HS.out.2).mono ?_
  rintro e w4 ⟨v, u, rfl, hU, hu12, huo, hsm, hb4⟩
  have hMK : ∀ (W : World) (u' : List Int) (g uc : Nat), Below W3.heap.size W3 W → (Kd.int .i64).C W (some ⟨g, 0, none⟩) u'.length u' → LX w LA lc l (some ⟨g, 0, none⟩) uc u' wt WA wn WB W := fun W u' g uc hb hC => ⟨HA3.out.1.trans (hb.mono HA3.out.1.size), ⟨HK.out.next (HA3.out.1.trans (hb.mono HA3.out.1.size)), Kd.C_below HA3.out.2.1 hb, hC, Kd.C_below HA3.out.2.2.1 hb⟩, (hb.block WB (Array.getElem?_eq_some_iff.1 HA3.out.2.2.2).1).trans HA3.out.2.2.2⟩
  have HMK := Lib.hid hMK; clear hMK
  obtain ⟨g, uc, rfl, huc, hg3, hg4⟩ := R_head hU (by omega)
  have hUC := (Kd.R_reads' hU).2.2
  have HU4 := Lib.hid (And.intro hU (And.intro hb4 (And.intro hg3 hg4)))
  clear huc hg3 hg4
  have hL : LX w LA lc l (some ⟨g, 0, none⟩) uc u wt WA wn WB w4 := ⟨HA3.out.1.trans (hb4.mono HA3.out.1.size), ⟨HK.out.next (HA3.out.1.trans (hb4.mono HA3.out.1.size)), Kd.C_below HA3.out.2.1 hb4, hUC, Kd.C_below HA3.out.2.2.1 hb4⟩, (hb4.block WB (Array.getElem?_eq_some_iff.1 HA3.out.2.2.2).1).trans HA3.out.2.2.2⟩
  have hg : givenB l u wt = true := givenB_iff.2 ⟨HB3.out.2.2.1, hu12, huo, HB3.out.2.2.2.2.1⟩
  have hG := And.intro hg (And.intro hu12 (And.intro hsm HB3.out.2.2.2.2.2))
  have HG := Lib.hid hG; clear hG hg hu12 huo hsm hb4 hUC HA3 HB3 hU hWB
  have HL := Lib.hid hL; clear hL
  have c0 := HL.out.c0
  have c1 := HL.out.c1
  have c2 := HL.out.c2
  have c3 := HL.out.c3
  have c4 := HL.out.c4
  go_wp2_with fail
  have hSo := Solve_any LA lc l (some ⟨g, 0, none⟩) uc u wt WA wn w4 HL.out.args
  unfold wtv at hSo
  refine hSo.mono ?_
  clear hSo c0 c1 c2 c3 c4
  rintro e w5 ⟨v1, v2, rfl, hP, hQ, hb5⟩
  have hE : solveE l u wt = 0 := by unfold solveE; rw [if_pos HG.out.1]
  rw [hE]
  clear hE
  obtain ⟨PA, pc, rfl, hpc, hPC⟩ := Kd.R_reads hP
  obtain ⟨QA, qc, rfl, hqc, hQC⟩ := Kd.R_reads hQ
  have HL5 := Lib.hid (HL.out.next hb5)
  have HU5 := Lib.hid (And.intro (Kd.R_below HU4.out.1 hb5) (And.intro (HU4.out.2.1.trans (hb5.mono HU4.out.2.1.size)) HU4.out.2.2))
  have hsp := solve1_spec HG.out.1
  have hqm := max_len hQC
  clear hPC hqc hQC hQ hb5 HL HU4
  generalize solve1 l u wt = p at *
  have HP5 := Lib.hid (And.intro hP hpc); clear hP hpc
  have hpm := max_len (Kd.R_reads' HP5.out.1).2.2
  generalize (solve2 l u wt).length = ql at *
  rcases hsp with ⟨he, _, _⟩ | ⟨hne, _, hlw, _⟩
  · subst he
    go_wp2_with fail
    go_ret
    exact ⟨rfl, HL5.out.below⟩
  · have hpl : 0 < p.length := List.length_pos_iff.2 hne
    have hple : ((p.length : Int) == 0) = false := by simp; exact hne
    have HPK := Lib.hid (And.intro hlw (law_pkg hlw)); clear hlw hne
    have hE5 : (Kd.int .i64).R 3 (w5.alloc (.cells #[] 3)) w5.heap.size (fun k => w5.heap.size ≤ k) (.slice (some ⟨w5.heap.size, 0, none⟩) 0 0) [] := ⟨fun k hk => by simp [Value.ownBlock] at hk; omega, OwnRow.lit w5 w5.heap.size (inner := []) (Reps.none _ _) (Nat.le_refl _) (by simp)⟩
    have hA5 := (Below.refl w5.heap.size w5).alloc (Nat.le_refl _) (.cells #[] 3)
    have HS0 := Lib.hid (And.intro hE5 (And.intro (Kd.C_below HL5.out.args.ru hA5) (And.intro hA5 (show w5.heap.size ≤ (w5.alloc (.cells #[] 3)).heap.size by simp)))); clear hE5 hA5
    go_wp2_with (at_builtin; go_loud (refine Kd.R_append_rows (Kd.int .i64) (w0 := w5) (Rr := fun x cs => cs = [.int .i64 x]) w5.heap.size rfl (.tmp 53) (.tmp 54) 23 3 (.int .i64 0) 8 rfl Tryd.underlying23 info3 rfl (by decide) (by decide) _ [] u (some ⟨g, 0, none⟩) u.length uc (fun k => w5.heap.size ≤ k) (fun _ => False) rfl rfl HS0.out.1 HS0.out.2.1 (fun _ _ h => h) (fun _ h => h.elim) (fun k hk => Nat.le_trans HS0.out.2.2.2 hk) HS0.out.2.2.1 HS0.out.2.2.2 (by have := HG.out.2.1; simp only [List.length_nil]; omega) ?_; intro v1 w6 h1 h2 h3 h4; rw [List.nil_append] at h1; obtain ⟨sg, sc2, e1, hsc, hsg, hsl⟩ := R_head h1 (by have := HG.out.2.1; omega); subst e1; have HSG := Lib.hid hsg))
    have HI0 := Lib.hid (And.intro h1 (And.intro (Less.refl (givenB_iff.1 HG.out.1).2.2.1 HG.out.2.1) h2)); clear h1 h2 h3 h4 hsc hsg hsl HS0
    have hfm := max_len HF.out.1
    go_loopw [21] (fun iv wr => ∃ k : Nat, iv = .int .i64 k ∧ k ≤ fs.length ∧ k ≤ 12 ∧ ∃ s : List Int, Hid ((Kd.int .i64).R 3 wr w5.heap.size (fun k => w5.heap.size ≤ k) (.slice (some ⟨sg, 0, none⟩) s.length sc2) s ∧ Less u s ∧ Below w5.heap.size w5 wr)) (fun iv wr => 12 - (intOf iv).toNat)
    case atStart => exact ⟨0, rfl, Nat.zero_le _, Nat.zero_le _, _, Lib.hid HI0.out⟩
    case round =>
      obtain ⟨k, rfl, hk, hk12, s, HI⟩ := hrel
      have hu12 := HG.out.2.1
      by_cases hlt : k < fs.length ∧ k < 12
      · obtain ⟨hl1, hl2⟩ := hlt
        have hkI : (k : Int) < (fs.length : Int) := by omega
        have hkJ : (k : Int) < 12 := by omega
        have hkU : (k : Int) < (u.length : Int) := by omega
        obtain ⟨fd, e, hx⟩ := Kd.at_int (Kd.C_below (Kd.C_below HF.out.1 HL5.out.below) HI.out.2.2) (k : Int) (by omega) hkI
        cases e
        simp only [Int.toNat_natCast] at hx
        rw [rd_get hl1] at hx
        have hgx := HF.out.2.1 fs[k] (List.getElem_mem hl1)
        generalize fs[k] = x at *
        have hc := (Kd.R_cell 0 HI.out.1 (k : Int) (by omega) (by have := HI.out.2.1.1; omega)).1
        have hc : wr.cell? ⟨sg, k, none⟩ = some (.int .i64 (rd s k)) := by have h := hc; simp only [Int.toNat_natCast] at h; exact h
        have hbs := used_bd HI.out.2.1.2.1 HI.out.2.1.1 (k := (k : Int)) (by omega) (by omega)
        obtain ⟨hd0, hd1⟩ := pickV_bd (a := x) (n := 30) (by decide)
        have HPV := Lib.hid (fun X : Ext wr => pickL_any x 30 hgx.1 hgx.2 (by decide) X.val)
        generalize hD : pickV x 30 = d at *
        have hst : ∀ z, z = (if d < rd s k then rd s k - d else 0) → Less u (s.set k z) := fun z hz => HI.out.2.1.step hl2 hd0 hz
        have HST := Lib.hid hst; clear hst
        have hw1 : wrap64 (rd s k - d) = rd s k - d := wrap_in (by omega) (by omega)
        have hR := HI.out.1
        have HR := Lib.hid (And.intro hR HI.out.2.2); clear hR
        have hsl := HI.out.2.1.1
        generalize hy : rd s (k : Int) = y at *
        have cX := cell_ext hc
        have fX := cell_ext hx
        clear hc hx
        go_wp2_with fail
        refine region_tail [0, 1, 2, 3, 4, 5, 6, 7, 8, 9, 10, 11, 12] [13, 14] (by kernel_rfl) (by kernel_rfl) ?_
        simp only [pick_cons, pick_nil, nthO_succ, nthO_zero]
        repeat (go_big_quiet_step ((go_at_call 34; with_reducible exact call_ext (HPV.out _))))
        refine wpQuiet_nil ?_
        rintro W' ⟨X, rfl⟩
        have hX := X.2.below (fun _ _ h => h) (Nat.le_refl _)
        have HRX := Lib.hid (And.intro (Kd.R_below HR.out.1 hX) (HR.out.2.trans (hX.mono HR.out.2.size)))
        obtain ⟨hc, hf⟩ := Kd.R_cell 0 HRX.out.1 (k : Int) (by omega) (by omega)
        simp only [Int.toNat_natCast] at hc hf
        have hz : sg < X.val.heap.size := block_lt_of_cell hc
        clear cX fX
        go_wp2_with fail
        go_roundw
        case rel =>
          refine ⟨k + 1, by go_num, by omega, by omega, s.set k (if d < y then y - d else 0), Lib.hid ⟨?_, HST.out _ rfl, ?_⟩⟩
          · rw [List.length_set]
            exact (Kd.R_put HRX.out.1 (k : Int) (if d < y then y - d else 0)).1
          · exact HRX.out.2.setCell (p := ⟨sg, k, none⟩) HSG.out _
        case measure => simp [intOf]; omega
      · have hRF := HI.out.1
        have HJ := Lib.hid (And.intro hRF HI.out.2); clear hRF HI HI0
        have e12 : s.length = u.length := by have := HJ.out.2.1.1; omega
        have hq : ((k : Int) < (fs.length : Int) ∧ ¬ (k : Int) < 12) ∨ ¬ (k : Int) < (fs.length : Int) := by omega
        have HLr := Lib.hid (HL5.out.next HJ.out.2.2)
        have HPr := Lib.hid (And.intro (Kd.R_below HP5.out.1 HJ.out.2.2) HP5.out.2)
        have HUr := Lib.hid (And.intro (Kd.R_below HU5.out.1 HJ.out.2.2) (And.intro (HU5.out.2.1.trans (HJ.out.2.2.mono HU5.out.2.1.size)) (And.intro HU5.out.2.2.1 (And.intro HU5.out.2.2.2 HL5.out.below.size))))
        clear hlt hk hk12 HL5 HP5 HU5 hfm hu12
        have hA7 := (Below.refl wr.heap.size wr).alloc (Nat.le_refl _) (.cells (wtc wt WA wn) 29)
        have hk7 := heap_new (o := .cells (wtc wt WA wn) 29) (W := wr) rfl
        have HV7 := Lib.hid (And.intro hA7 hk7); clear hA7 hk7
        unfold wtc at HV7
        have hfn := HF.out.2.2
        obtain ⟨_, _, _, _, _, _, hus1, hus2⟩ := vldW_bd (givenB_iff.1 HG.out.1).2.2.2
        have hus3 := HG.out.2.2.2
        obtain ⟨hq0, hq1⟩ := pickV_bd (a := fn) (n := wt.us) (by omega)
        have HPU := Lib.hid (fun W : World => pickL_any fn wt.us hfn.1 hfn.2 (by omega) W)
        generalize pickV fn wt.us = q at *
        have hw1 : wrap64 (1 + q) = 1 + q := wrap_in (by omega) (by omega)
        rcases hq with ⟨h1, h2⟩ | h1
        all_goals
          have c0 := HLr.out.c0
          have c1 := HLr.out.c1
          have c2 := HLr.out.c2
          have c3 := HLr.out.c3
          have c4 := HLr.out.c4
          have cA := pw_cell_below HV7.out.1 c3
          go_wp2_with fail
          clear cA
          generalize hVB : wr.heap.size = VB at *
          generalize wr.alloc (.cells #[.int .i64 wt.te, .int .i64 wt.cl, .int .i64 wt.at_, .int .i64 wt.us, .slice WA wt.needs.length wn] 29) = W7 at *
          refine (HPU.out W7).mono ?_
          clear c0 c1 c2 c3 c4
          rintro e w8 ⟨rfl, hb8⟩
          have hVl : VB ≤ W7.heap.size := hVB ▸ HV7.out.1.size
          have hb8w : Below wr.heap.size wr w8 := by rw [hVB]; exact HV7.out.1.trans (hb8.mono hVl)
          have hk8 := (hb8.block VB (Array.getElem?_eq_some_iff.1 HV7.out.2).1).trans HV7.out.2
          have HL8 := Lib.hid (HLr.out.next hb8w)
          have hlt8 : WB < wr.heap.size := (Array.getElem?_eq_some_iff.1 HLr.out.box).1
          have hne8 : ¬ WB = VB := by omega
          have hb9w : Below wr.heap.size wr (w8.setCell ⟨VB, 3, none⟩ (.int .i64 (1 + q))) := hb8w.setCell (p := ⟨VB, 3, none⟩) (by rw [hVB]; exact Nat.le_refl _) _
          have hk9 := heap_set (o := 3) (.int .i64 (1 + q)) hk8
          have HB9 := Lib.hid (And.intro hb9w hk9); clear hb9w hk9 hb8w hlt8 hb8 HV7
          have c0 := HL8.out.c0
          have c1 := HL8.out.c1
          have c2 := HL8.out.c2
          have c3 := HL8.out.c3
          have c4 := HL8.out.c4
          have d3 : w8.cell? ⟨VB, 3, none⟩ = some (.int .i64 wt.us) := cell_of hk8 rfl
          have f3 : w8.frozen? ⟨VB, 3, none⟩ = false := frozen_of hk8
          have hz8 := block_lt_of_cell d3
          go_wp2_with fail
          generalize w8.setCell ⟨VB, 3, none⟩ (.int .i64 (1 + q)) = W9 at *
          clear c0 c1 c2 c3 c4 d3 f3 hz8 hne8 hk8 HL8
          have HL9 := Lib.hid (HLr.out.next HB9.out.1)
          have HJ9 := Lib.hid (And.intro (Kd.R_below HJ.out.1 HB9.out.1) HJ.out.2.1)
          have HP9 := Lib.hid (And.intro (Kd.R_below HPr.out.1 HB9.out.1) HPr.out.2)
          have HU9 := Lib.hid (And.intro (Kd.R_below HUr.out.1 HB9.out.1) (And.intro (HUr.out.2.1.trans (HB9.out.1.mono HUr.out.2.1.size)) HUr.out.2.2))
          have hkV : W9.heap[VB]? = some (.cells #[.int .i64 wt.te, .int .i64 wt.cl, .int .i64 wt.at_, .int .i64 (1 + q), .slice WA wt.needs.length wn] 29 (0, 0)) := HB9.out.2
          have HKV := Lib.hid hkV
          clear HLr HJ HPr HUr hkV HB9
          have hLb := Lawful_any LA lc l (some ⟨sg, 0, none⟩) sc2 s wt WA wn PA pc p W9 ⟨HL9.out.args.kinds, HL9.out.args.rl, (Kd.R_reads' HJ9.out.1).2.2, HL9.out.args.rw⟩ (Kd.R_reads' HP9.out.1).2.2 HP9.out.2
          rw [law_less HPK.out.1 HJ9.out.2.1 HJ9.out.2.2.1 HJ9.out.2.2.2, e12] at hLb
          unfold wtv at hLb
          refine hLb.mono ?_
          clear hLb
          rintro e w10 ⟨rfl, hb10⟩
          have HL10 := Lib.hid (HL9.out.next hb10)
          have HP10 := Lib.hid (And.intro (Kd.R_below HP9.out.1 hb10) HP9.out.2)
          have HU10 := Lib.hid (And.intro (Kd.R_below HU9.out.1 hb10) (And.intro (HU9.out.2.1.trans (hb10.mono HU9.out.2.1.size)) HU9.out.2.2))
          have hkV := (hb10.block VB (Array.getElem?_eq_some_iff.1 HKV.out).1).trans HKV.out
          have d0 := cell_of (o := 0) hkV rfl
          have d1 := cell_of (o := 1) hkV rfl
          have d2 := cell_of (o := 2) hkV rfl
          have d3 := cell_of (o := 3) hkV rfl
          have d4 := cell_of (o := 4) hkV rfl
          clear hb10 HL9 HP9 HU9 HJ9 HKV hkV
          go_wp2_with fail
          clear d0 d1 d2 d3 d4
          have hLb := Lawful_any LA lc l (some ⟨g, 0, none⟩) uc u { wt with us := 1 + q } WA wn PA pc p w10 ⟨HL10.out.args.kinds, HL10.out.args.rl, HL10.out.args.ru, HL10.out.args.rw⟩ (Kd.R_reads' HP10.out.1).2.2 HP10.out.2
          rw [law_fewer HPK.out.1 (by omega) (by omega)] at hLb
          unfold wtv at hLb
          refine hLb.mono ?_
          clear hLb
          rintro e w11 ⟨rfl, hb11⟩
          have HL11 := Lib.hid (HL10.out.next hb11)
          have HP11 := Lib.hid (And.intro (Kd.R_below HP10.out.1 hb11) HP10.out.2)
          have HU11 := Lib.hid (And.intro (Kd.R_below HU10.out.1 hb11) (And.intro (HU10.out.2.1.trans (hb11.mono HU10.out.2.1.size)) HU10.out.2.2))
          clear hb11 HL10 HP10 HU10
          have hll := max_len HL11.out.args.rl
          have husd := (givenB_iff.1 HG.out.1).2.2.1
          have HRM := Lib.hid (fun m : List Cl => room_bd (l := m) (wt := wt) (p := p) husd HG.out.2.2.1 HG.out.2.1)
          go_wp2_with fail
          go_loopw [23, 24] (fun rv iv wr2 => ∃ k : Nat, k ≤ l.length ∧ iv = .int .i64 k ∧ rv = .int .i64 (roomOf (l.take k) u wt p) ∧ Hid (Below w11.heap.size w11 wr2)) (fun rv iv wr2 => l.length - (intOf iv).toNat)
          case atStart => exact ⟨0, Nat.zero_le _, rfl, rfl, Lib.hid (Below.refl _ _)⟩
          case round =>
            obtain ⟨k, hk, rfl, rfl, HI⟩ := hrel
            have HLr := Lib.hid (HL11.out.next HI.out)
            by_cases hlt : k < l.length
            · have hltI : (k : Int) < (l.length : Int) := by omega
              obtain ⟨ad, e, x0, x1, x2, x3, x4, x5, x6, x7⟩ := at_T40 HLr.out.args.rl (k : Int) (by omega) hltI
              cases e
              simp only [Int.toNat_natCast] at x0 x1 x2 x3 x4 x5 x6 x7
              have hrd : rd_T40 l (k : Int) = l[k] := by unfold rd_T40; simp [hlt]
              rw [hrd] at x0 x1 x2 x3 x4 x5 x6 x7
              clear hrd
              have hrs := roomOf_succ (u := u) (wt := wt) (p := p) hlt
              have hb1 := HRM.out (l.take k)
              have hbb := fun h : bears wt p l[k] = true => bears_bd husd HG.out.2.2.1 HG.out.2.1 h
              have hvc := (vldL_iff.1 (givenB_iff.1 HG.out.1).1).2 _ (List.getElem_mem hlt)
              have hA1 := fun x : Ext wr => applies_any l[k] wt WA wn x.val (HLr.out.args.next (x.2.below (fun _ _ h => h) (Nat.le_refl _))).kinds (HLr.out.args.next (x.2.below (fun _ _ h => h) (Nat.le_refl _))).rw
              generalize l[k] = Y at *
              obtain ⟨f0, f1, f2, f3, f4, f5, f6, f7⟩ := Y
              have hbd := vld_bd hvc
              clear hvc
              unfold clv wtv at hA1
              unfold bears at hrs hbb
              simp only at x0 x1 x2 x3 x4 x5 x6 x7 hA1 hbd hrs hbb
              generalize applies ⟨f0, f1, f2, f3, f4, f5, f6, f7⟩ wt = b at *
              generalize roomOf (l.take k) u wt p = rm at *
              generalize hrm1 : roomOf (l.take (k + 1)) u wt p = rm1 at *
              have HRM1 := Lib.hid hrm1; clear hrm1
              have HA1 := Lib.hid hA1; clear hA1
              have HBD := Lib.hid (And.intro hbd (And.intro hb1 (And.intro hrs hbb))); clear hbd hb1 hrs hbb
              have z0 := cell_ext x0
              have z1 := cell_ext x1
              have z2 := cell_ext x2
              have z3 := cell_ext x3
              have z4 := cell_ext x4
              have z5 := cell_ext x5
              have z6 := cell_ext x6
              have z7 := cell_ext x7
              have c0 := cell_ext HLr.out.c0
              have c1 := cell_ext HLr.out.c1
              have c2 := cell_ext HLr.out.c2
              have c3 := cell_ext HLr.out.c3
              have c4 := cell_ext HLr.out.c4
              clear x0 x1 x2 x3 x4 x5 x6 x7
              go_wp2_with fail
              refine region_ext (by kernel_rfl) (by kernel_rfl) ?_
              repeat (go_big_quiet_step ((go_at_call 17; with_reducible exact call_ext (HA1.out _))))
              refine wpQuiet_nil ?_
              rintro W' ⟨X, rfl⟩
              have hX := X.2.below (fun _ _ h => h) (Nat.le_refl _)
              have HIX := Lib.hid (HI.out.trans (hX.mono HI.out.size))
              have HLX := Lib.hid (HLr.out.next hX)
              clear c0 c1 c2 c3 c4 HA1 HI HLr hX
              have x0 := z0 X
              have x1 := z1 X
              have x2 := z2 X
              have x3 := z3 X
              have x4 := z4 X
              have x5 := z5 X
              have x6 := z6 X
              have x7 := z7 X
              clear z0 z1 z2 z3 z4 z5 z6 z7
              cases b with
              | false =>
                have hr1 : rm1 = rm := by have := HBD.out.2.2.1; simpa using this
                subst hr1
                go_wp2_with fail
                go_roundw
                case rel => exact ⟨k + 1, by omega, by go_num, by rw [HRM1.out], Lib.hid HIX.out⟩
                case measure => simp [intOf]; omega
              | true =>
                by_cases hf1 : f1 = 3
                · subst hf1
                  go_wp2_with fail
                  refine (has_any PA pc p f0 X.val (Kd.C_below (Kd.R_reads' HP11.out.1).2.2 HIX.out)).mono ?_
                  rintro e wb ⟨rfl, hbb⟩
                  have y0 := pw_cell_below hbb x0
                  have y6 := pw_cell_below hbb x6
                  have HIb := Lib.hid (HIX.out.trans (hbb.mono HIX.out.size))
                  have HLb := Lib.hid (HLX.out.next hbb)
                  clear x0 x1 x2 x3 x4 x5 x6 x7 hbb HIX HLX
                  cases hh : hasI p f0 with
                  | false =>
                    have hr1 : rm1 = rm := by have := HBD.out.2.2.1; simpa [hh] using this
                    subst hr1
                    go_wp2_with fail
                    go_roundw
                    case rel => exact ⟨k + 1, by omega, by go_num, by rw [HRM1.out], Lib.hid HIb.out⟩
                    case measure => simp [intOf]; omega
                  | true =>
                    have hr1 : rm1 = min rm (f6 - rd u f0) := by have := HBD.out.2.2.1; simpa [hh] using this
                    have hbd := HBD.out.1
                    obtain ⟨b0, b1⟩ := HBD.out.2.1
                    obtain ⟨b2, b3⟩ := HBD.out.2.2.2 (by simp [hh])
                    have n0 : decide (0 ≤ f0) = true := by simp; omega
                    have n1 : decide (f0 < 12) = true := by simp; omega
                    have hu1 : f0 < (u.length : Int) := by have := HG.out.2.1; omega
                    have hu0 : 0 ≤ f0 := hbd.1
                    obtain ⟨gd, e, hu⟩ := Kd.at_int HLb.out.args.ru f0 hu0 hu1
                    cases e
                    rw [add_plain] at hu
                    have hw2 : wrap64 (f6 - rd u f0) = f6 - rd u f0 := wrap_in (by omega) (by omega)
                    generalize rd u f0 = uf at *
                    have q0 := cell_ext y0
                    have q6 := cell_ext y6
                    have qu := cell_ext hu
                    clear HBD hbd
                    go_wp2_with fail
                    refine region_ext (by kernel_rfl) (by kernel_rfl) ?_
                    repeat (go_big_quiet_step (fail))
                    refine wpQuiet_nil ?_
                    rintro W' ⟨X2, rfl⟩
                    go_wp2_with fail
                    go_roundw
                    case rel =>
                      refine ⟨k + 1, by omega, by go_num, ?_, Lib.hid (HIb.out.trans ((X2.2.below (fun _ _ h => h) (Nat.le_refl _)).mono HIb.out.size))⟩
                      rw [HRM1.out, hr1]
                      congr 1
                      simp only [Int.min_def]
                      split <;> split <;> omega
                    case measure => simp [intOf]; omega
                · have hr1 : rm1 = rm := by have := HBD.out.2.2.1; simpa [hf1] using this
                  subst hr1
                  have hf2 : (f1 == 3) = false := by simpa using hf1
                  go_wp2_with fail
                  go_roundw
                  case rel => exact ⟨k + 1, by omega, by go_num, by rw [HRM1.out], Lib.hid HIX.out⟩
                  case measure => simp [intOf]; omega
            · obtain rfl : k = l.length := by omega
              rw [List.take_length]
              have hrb := HRM.out l
              generalize hrm : roomOf l u wt p = rm at *
              have HRO := Lib.hid hrm; clear hrm
              have HLw := Lib.hid HPK.out.1
              go_wp2_with fail
              have HT0 := Lib.hid (And.intro (Kd.R_below HU11.out.1 HI.out) (And.intro (Plus.zero (u := u) (p := p) HG.out.2.1) (And.intro (HU11.out.2.1.trans (HI.out.mono HU11.out.2.1.size)) (Kd.R_below HP11.out.1 HI.out))))
              have HPc := Lib.hid HP11.out.2
              have HUz := Lib.hid HU11.out.2.2
              have hul := HG.out.2.1
              have Hul := Lib.hid hul; clear hul
              clear HLr HL11 HP11 HU11 HI HRM
              go_loopw [23, 26] (fun rv iv wr3 => ∃ (t : Nat) (v : List Int) (S : Int), t ≤ 40 ∧ 0 ≤ S ∧ S ≤ 12 * (t : Int) ∧ iv = .int .i64 t ∧ rv = .int .i64 (rm - S) ∧ Hid ((Kd.int .i64).R 3 wr3 W3.heap.size (fun k => W3.heap.size ≤ k) (.slice (some ⟨g, 0, none⟩) v.length uc) v ∧ Plus u v p S ∧ Below W3.heap.size W3 wr3 ∧ (Kd.int .i64).R 3 wr3 w4.heap.size (fun k => w4.heap.size ≤ k) (.slice PA p.length pc) p)) (fun rv iv wr3 => 40 - (intOf iv).toNat)
              case atStart => exact ⟨0, u, 0, by omega, by omega, by omega, rfl, by simp, Lib.hid HT0.out⟩
              case round =>
                obtain ⟨t, v, S, ht, hS0, hS1, rfl, rfl, HI⟩ := hrel
                have HLr := Lib.hid (HMK.out wr v g uc HI.out.2.2.1 (Kd.R_reads' HI.out.1).2.2)
                by_cases hlt : t < 40
                · have hltI : (t : Int) < 40 := by omega
                  have hwo : usedOk v = true := HI.out.2.1.ok husd HG.out.2.2.1 Hul.out hS0 (by omega)
                  have hlaw := law_turn HLw.out HI.out.2.1 hwo (by omega)
                  rw [HRO.out] at hlaw
                  have evu : v.length = u.length := HI.out.2.1.1.trans Hul.out.symm
                  have hLb := Lawful_any LA lc l (some ⟨g, 0, none⟩) uc v wt WA wn PA pc p wr HLr.out.args (Kd.R_reads' HI.out.2.2.2).2.2 HPc.out
                  rw [hlaw, evu] at hLb
                  unfold wtv at hLb
                  have HLB := Lib.hid hLb; clear hLb hlaw hwo
                  have c0 := HLr.out.c0
                  have c1 := HLr.out.c1
                  have c2 := HLr.out.c2
                  have c3 := HLr.out.c3
                  have c4 := HLr.out.c4
                  go_wp2_with fail
                  refine HLB.out.mono ?_
                  clear c0 c1 c2 c3 c4 HLB
                  rintro e wb ⟨rfl, hbb⟩
                  have HLb := Lib.hid (HLr.out.next hbb)
                  have HIb := Lib.hid (And.intro (Kd.R_below HI.out.1 hbb) (And.intro HI.out.2.1 (And.intro (HI.out.2.2.1.trans (hbb.mono HI.out.2.2.1.size)) (Kd.R_below HI.out.2.2.2 hbb))))
                  clear hbb HLr HI
                  have hwr : wrap64 (rm - S - wt.us) = rm - S - wt.us := wrap_in (by omega) (by omega)
                  generalize hrs : rm - S = rs at *
                  have c3 := HLb.out.c3
                  have hcase : decide (wt.us ≤ rs) = true ∨ decide (wt.us ≤ rs) = false := by cases decide (wt.us ≤ rs) <;> simp
                  have Hrs := Lib.hid (And.intro hrs hwr); clear hrs hwr
                  rcases hcase with hle | hle
                  all_goals
                    rw [hle]
                    go_wp2_with fail
                    clear c3
                    have HJ0 := Lib.hid (And.intro HIb.out.1 (And.intro (Plus.start (u := v) (S := wt.us) HIb.out.2.1.1) HIb.out.2.2))
                    go_loopw [28] (fun jv wr4 => ∃ (j : Nat) (x : List Int), j ≤ p.length ∧ jv = .int .i64 j ∧ Hid ((Kd.int .i64).R 3 wr4 W3.heap.size (fun k => W3.heap.size ≤ k) (.slice (some ⟨g, 0, none⟩) x.length uc) x ∧ Plus v x (p.take j) wt.us ∧ Below W3.heap.size W3 wr4 ∧ (Kd.int .i64).R 3 wr4 w4.heap.size (fun k => w4.heap.size ≤ k) (.slice PA p.length pc) p)) (fun jv wr4 => p.length - (intOf jv).toNat)
                    case atStart => exact ⟨0, v, Nat.zero_le _, rfl, Lib.hid HJ0.out⟩
                    case round =>
                      obtain ⟨j, x, hj, rfl, HI⟩ := hrel
                      have HLr := Lib.hid (HMK.out wr x g uc HI.out.2.2.1 (Kd.R_reads' HI.out.1).2.2)
                      have exu : x.length = u.length := HI.out.2.1.1.trans Hul.out.symm
                      have hu12 := Hul.out
                      by_cases hjl : j < p.length
                      · have hjI : (j : Int) < (p.length : Int) := by omega
                        obtain ⟨pd, e, hy⟩ := Kd.at_int (Kd.R_reads' HI.out.2.2.2).2.2 (j : Int) (by omega) hjI
                        cases e
                        simp only [Int.toNat_natCast] at hy
                        rw [rd_get hjl] at hy
                        obtain ⟨y0, y1⟩ := HPK.out.2.2 j hjl
                        have hst := HI.out.2.1.step hjl HPK.out.2.1 y0 y1
                        have hbx : 0 ≤ rd x p[j] ∧ rd x p[j] ≤ 1000 := by
                          have h1 := HI.out.2.1.2 _ y0 y1
                          have h2 := HIb.out.2.1.bd husd HG.out.2.2.1 hu12 hS0 (by omega) y0 y1
                          split at h1 <;> omega
                        generalize p[j] = y at *
                        have hc : wr.cell? ⟨g, y.toNat, none⟩ = some (.int .i64 (rd x y)) := (Kd.R_cell 0 HI.out.1 y y0 (by omega)).1
                        obtain ⟨z0, z1⟩ := hbx
                        have HST := Lib.hid hst; clear hst
                        generalize rd x y = z at *
                        have hwz : wrap64 (z + wt.us) = z + wt.us := wrap_in (by omega) (by omega)
                        have hyu : y < (u.length : Int) := by omega
                        have n0 : decide (y < 0) = false := by simp; omega
                        have n1 : decide (11 < y) = false := by simp; omega
                        have cX := cell_ext hc
                        have yX := cell_ext hy
                        have c3X := cell_ext HLr.out.c3
                        have HXU := Lib.hid (And.intro hu12 exu); clear hc hu12 exu
                        go_wp2_with fail
                        refine region_tail [0, 1, 2, 3, 4, 5, 6, 7, 8, 9, 10, 11, 12, 13, 14] [15, 16] (by kernel_rfl) (by kernel_rfl) ?_
                        simp only [pick_cons, pick_nil, nthO_succ, nthO_zero]
                        repeat (go_big_quiet_step (fail))
                        refine wpQuiet_nil ?_
                        rintro W' ⟨X, rfl⟩
                        have hX := X.2.below (fun _ _ h => h) (Nat.le_refl _)
                        have HRX := Lib.hid (And.intro (Kd.R_below HI.out.1 hX) (And.intro (HI.out.2.2.1.trans (hX.mono HI.out.2.2.1.size)) (Kd.R_below HI.out.2.2.2 hX)))
                        obtain ⟨hc, hf⟩ := Kd.R_cell 0 HRX.out.1 y y0 (by have := HXU.out; omega)
                        have hz := block_lt_of_cell hc
                        clear cX yX c3X hX
                        go_wp2_with fail
                        go_roundw
                        case rel =>
                          refine ⟨j + 1, _, by omega, by go_num, Lib.hid ⟨?_, HST.out, ?_, ?_⟩⟩
                          · rw [List.length_set]; exact (Kd.R_put HRX.out.1 y (z + wt.us)).1
                          · exact HRX.out.2.1.setCell (p := ⟨g, y.toNat, none⟩) HUz.out.1 _
                          · exact Kd.R_far HRX.out.2.2 (fun k hk => by show k ≠ g; have := HUz.out.2.1; omega) _
                        case measure => simp [intOf]; omega
                      · obtain rfl : j = p.length := by omega
                        have hP2 : Plus v x p wt.us := by have := HI.out.2.1; rwa [List.take_length] at this
                        have HP3 := Lib.hid (HIb.out.2.1.comp hP2)
                        obtain ⟨pd, e, hy⟩ := Kd.at_int (Kd.R_reads' HI.out.2.2.2).2.2 (0 : Int) (by omega) (by omega)
                        cases e
                        obtain ⟨y0, y1⟩ := HPK.out.2.2 0 hpl
                        have hr0 : rd p (0 : Int) = p[0] := rd_get (k := 0) hpl
                        rw [hr0] at hy
                        have hbx : 0 ≤ rd x p[0] ∧ rd x p[0] ≤ 1000 := by
                          have h1 := hP2.2 _ y0 y1
                          have h2 := HIb.out.2.1.bd husd HG.out.2.2.1 hu12 hS0 (by omega) y0 y1
                          split at h1 <;> omega
                        clear hr0 hP2
                        generalize p[0] = y at *
                        have hc : wr.cell? ⟨g, y.toNat, none⟩ = some (.int .i64 (rd x y)) := (Kd.R_cell 0 HI.out.1 y y0 (by omega)).1
                        generalize rd x y = z at *
                        have e0 : pd.add ((0 : Int).toNat) = pd := by simp [Addr.add]
                        rw [e0] at hy
                        clear e0
                        have hyu : y < (u.length : Int) := by omega
                        have hpI : (0 : Int) < (p.length : Int) := by omega
                        have c3 := HLr.out.c3
                        have hwr := Hrs.out.2
                        have hcase : decide (900 < z) = true ∨ decide (900 < z) = false := by cases decide (900 < z) <;> simp
                        clear hu12 exu
                        rcases hcase with hgt | hgt
                        · go_wp2_with fail
                          go_ret
                          exact ⟨rfl, HLr.out.below⟩
                        · go_wp2_with fail
                          go_roundw
                          case rel => exact ⟨t + 1, x, S + wt.us, by omega, by omega, by omega, by go_num, by have := Hrs.out.1; congr 1; omega, Lib.hid ⟨HI.out.1, HP3.out, HI.out.2.2⟩⟩
                          case measure => simp [intOf]; omega
                · obtain rfl : t = 40 := by omega
                  go_wp2_with fail
                  go_ret
                  exact ⟨rfl, HLr.out.below⟩
end Go.Proofs.YtnabgijdbcdpmaaDoor

namespace Go.Proofs.YtnabgijdbcdpmaaDoor.rightsUses
open Go.ChangeShapes Go.WideShapes Go.ChangeAt Go.RowKit
set_option linter.unusedVariables false
set_option linter.unusedSimpArgs false
set_option maxRecDepth 100000 in
theorem lifted (os : Os) (started : os.Started) (H : Type) (enc : TypeId × Value → H) :
    ReturnsInHanded {} Tryd.checked os 7 .any (fun w args => (Rows.rightsUsesSpec.pre enc Tryd.prog Tryd.f7 [] false w args ∧ laidMetH Tryd.prog laid1 w) ∧ sizedMet enc Tryd.prog Tryd.f7 (OpenSpec.ofChange Rows.rightsUsesSpec) false w args)
      (Rows.rightsUsesSpec.post enc Tryd.prog Tryd.f7 false true false false) := by
  refine returnsInHanded_of_change_and (C := Tryd.checked) (X := fun w _ => laidMetH Tryd.prog laid1 w) (fun _ _ _ hh h => h.of_heap hh) own started (by kernel_rfl) Tryd.func7
    (ChangeSpec.witness_shaped (enc := enc) (C := Tryd.checked) (os := os) (X := fun w _ => laidMetH Tryd.prog laid1 w) false (World.doorLaid Tryd.prog 600 os) #[.slice none 0 0, .int .i64 0, .slice none 0 0, .slice none 0 0, .slice none 0 0, .int .i64 0] 8 rfl (World.shaped_of_RefB (by kernel_rfl) (by kernel_rfl)) (by kernel_rfl) (by kernel_rfl) (by kernel_rfl) (door_met os _)) ?_
  intro W base args ds gs before hval0 hW _ _ hL _
  have hval : ∀ (j : Nat) t v, Tryd.f7.params[j]? = some t → args[j]? = some v → Value.okWide Tryd.prog W .any base t v := hval0
  have hW' := hW
  obtain ⟨p, q, hA0, hV, rfl, hfz, hnd⟩ := hW
  have hA : DataW.TrodAll enc Tryd.prog W 0 (fun _ => true) true Tryd.f7.params.toList args.toList ds p := hA0
  rw [Tryd.params7] at hA hval
  obtain ⟨v0, vs0, d0, ds0, p0, q0, hargs, rfl, rfl, h0, r0⟩ := trodAll_cons hA
  obtain ⟨v1, vs1, d1, ds1, p1, q1, rfl, rfl, rfl, h1, r1⟩ := trodAll_cons r0
  obtain ⟨v2, vs2, d2, ds2, p2, q2, rfl, rfl, rfl, h2, r2⟩ := trodAll_cons r1
  obtain ⟨v3, vs3, d3, ds3, p3, q3, rfl, rfl, rfl, h3, r3⟩ := trodAll_cons r2
  obtain ⟨v4, vs4, d4, ds4, p4, q4, rfl, rfl, rfl, h4, r4⟩ := trodAll_cons r3
  obtain ⟨v5, vs5, d5, ds5, p5, q5, rfl, rfl, rfl, h5, r5⟩ := trodAll_cons r4
  obtain ⟨rfl, rfl, rfl⟩ := trodAll_nil r5
  obtain rfl : args = #[v0, v1, v2, v3, v4, v5] := by cases args; simp_all
  obtain ⟨rfl, rfl⟩ := trodVars_none hV
  have k0 := h0
  have lt0 : ∀ x ∈ p0, x.block < W.heap.size := by obtain ⟨m, hm⟩ := k0; exact DataW.trod_lt m _ _ _ hm
  obtain ⟨A0, n0, c0, rfl, hc0, hX0⟩ := open_row22 (hval 0 22 v0 rfl rfl) h0
  obtain ⟨a1, rfl, rfl, rfl, w1⟩ := open_int Tryd.underlying3 (hval 1 3 v1 rfl rfl) h1
  have k2 := h2
  have lt2 : ∀ x ∈ p2, x.block < W.heap.size := by obtain ⟨m, hm⟩ := k2; exact DataW.trod_lt m _ _ _ hm
  obtain ⟨A2, c2, x2, rfl, hc2, hC2, hg2⟩ := open_row23 (hval 2 23 v2 rfl rfl) h2
  have k3 := h3
  have lt3 : ∀ x ∈ p3, x.block < W.heap.size := by obtain ⟨m, hm⟩ := k3; exact DataW.trod_lt m _ _ _ hm
  obtain ⟨A3, c3, x3, rfl, hc3, hC3, hg3⟩ := open_row23 (hval 3 23 v3 rfl rfl) h3
  have k4 := h4
  have lt4 : ∀ x ∈ p4, x.block < W.heap.size := by obtain ⟨m, hm⟩ := k4; exact DataW.trod_lt m _ _ _ hm
  obtain ⟨A4, c4, x4, rfl, hc4, hC4, hg4⟩ := open_row23 (hval 4 23 v4 rfl rfl) h4
  obtain ⟨a5, rfl, rfl, rfl, w5⟩ := open_int Tryd.underlying3 (hval 5 3 v5 rfl rfl) h5
  clear hA0 hval0
  refine (uses_law A0 n0 c0 a1 A2 c2 x2 A3 c3 x3 A4 c4 x4 a5 (lit_rng w5) W (of_laid hL) hX0 (lit_rng w1) hC2 hg2 hC3 hg3 hC4 hg4).mono fun e W' ⟨he, hg⟩ => ?_
  subst he
  exact ⟨_, rfl, _, _, _, [], _, [], hW', trodAll_mk1 (shut_bool Tryd.underlying4 _), (trodAll_cons_mk (Below.trod laidOut (by kernel_rfl) (of_decide_eq_true (by kernel_rfl)) k0 hg lt0) (trodAll_cons_mk (shut_int Tryd.underlying3 w1) (trodAll_cons_mk (Below.trod laidOut (by kernel_rfl) (of_decide_eq_true (by kernel_rfl)) k2 hg lt2) (trodAll_cons_mk (Below.trod laidOut (by kernel_rfl) (of_decide_eq_true (by kernel_rfl)) k3 hg lt3) (trodAll_cons_mk (Below.trod laidOut (by kernel_rfl) (of_decide_eq_true (by kernel_rfl)) k4 hg lt4) (trodAll_cons_mk (shut_int Tryd.underlying3 w5) trodAll_mk0)))))), rfl, hg.frame _, fun h => by cases h⟩

theorem over : Rows.rightsUsesRow.holds Tryd.pinned (OpenSpec.ofChange Rows.rightsUsesSpec) :=
  OpenClaim.holds_of_wide 7 Tryd.f7 rfl rfl rfl rfl rfl rfl rfl ⟨rfl, rfl, rfl, rfl, rfl⟩ rfl rfl rfl rfl rfl (by kernel_rfl) Tryd.func7 (by kernel_rfl)
    (of_decide_eq_true (by kernel_rfl)) (by unfold Func.isWrapper; first | (rw [if_pos (by decide +kernel)]; kernel_rfl) | (rw [if_neg (by decide +kernel)]; exact ⟨rfl, rfl⟩))
    (fun os started H enc _ => lifted os started H enc)
theorem said : Rows.RightsUsesSaid := over

/-- ████ THE STATEMENT ████ -/
theorem proved : Rows.RightsUsesCardSaid :=
  Claim7.holds_tied_plain_at .later [] [.funcs] true (true, "c882bbf18fe2638fa03ec3f0946baf73ba33234a0127255e741620561da83a79") false
    said (fun _ h => by cases h) (by kernel_rfl) (fun _ h => by cases h) rightsUses_row_tie rfl ⟨rfl, rfl⟩ (by kernel_rfl) rfl
    (fun f fn hf hfn => by
      obtain rfl : f = 7 := Option.some.inj ((show Tryd.prog.funcNamed "newswire/newswirelaw29.RightsUses" = some 7 by kernel_rfl).symm.trans hf) |>.symm
      obtain rfl : fn = Tryd.f7 := (Option.some.inj (Tryd.func7.symm.trans hfn)).symm
      exact ⟨by kernel_rfl, fun j t ht => by
        rw [Tryd.params7] at ht
        have hm : t ∈ [22, 3, 23, 23, 23, 3] := by simpa using Array.mem_of_getElem? ht
        have hall : ([22, 3, 23, 23, 23, 3].all fun u => !Tryd.prog.wantsStandIn u) = true := by kernel_rfl
        exact (show Tryd.prog.wantsStandIn t = false by simpa using List.all_eq_true.1 hall t hm)⟩)
    (by kernel_rfl)
#print axioms proved
end Go.Proofs.YtnabgijdbcdpmaaDoor.rightsUses
