/- The contracts of the number of trailing zeros, and of the iterator over a set. -/
import Derived.Test.YticngcjfofcoiaaDoorZb
namespace Go.Proofs.YticngcjfofcoiaaDoor
open Go.RowKit Go.Rg Go.Proofs.YticngcjfofcoiaaDoorW.PrintWords
set_option linter.unusedVariables false
set_option linter.unusedSimpArgs false
theorem tz_any (s : Nat) (w : World) (hs : s < 4096) (h0 : s ≠ 0) (ht : Tab w) :
  Calls Tryd.prog 58 #[.int .u16 (s : Int)] w fun e w' => e = .returned (.int .i64 (tz s : Int)) ∧ w' = w := by
 obtain ⟨hl1, hl2, hl3, hl4⟩ := low hs h0
 clear hl2
 generalize hk : tz s = k at *
 have hp : 2 ^ k < 4096 := Nat.pow_lt_pow_right (m := k) (n := 12) (by decide) hl3
 obtain ⟨p2, hp2⟩ : ∃ p, 2 ^ k = p := ⟨_, rfl⟩
 rw [hp2] at hl1 hl4 hp
 obtain ⟨m, hm⟩ : ∃ m, p2 * 125613361 % 4294967296 = m := ⟨_, rfl⟩
 rw [hm] at hl4
 have hm32 : m < 4294967296 := by omega
 have hidx : m / 134217728 < 32 := by omega
 have hneg : IntKind.u16.wrap (-(s : Int)) = ((65536 - s : Nat) : Int) := by
  unfold IntKind.wrap
  simp [IntKind.signed, IntKind.bits]
  omega
 have hand : Go.bits .and .u16 (s : Int) ((65536 - s : Nat) : Int) = (p2 : Int) := by
  rw [and_u16 s (65536 - s) (by omega) (by omega), hl1]
 have hcv : IntKind.u32.wrap (p2 : Int) = (p2 : Int) := by
  unfold IntKind.wrap
  simp [IntKind.signed, IntKind.bits]
  omega
 have hmul : IntKind.u32.wrap ((p2 : Int) * 125613361) = (m : Int) := by
  unfold IntKind.wrap
  simp [IntKind.signed, IntKind.bits]
  omega
 have hc := ht.at hl4
 have hk64 : wrap64 (k : Int) = (k : Int) := by unfold wrap64; omega
 have hz : ((s : Int) == 0) = false := by simp; omega
 clear hm hp2 hl1 hl4 ht hm32 hp hl3 hs
 go_enter Tryd.func58, Tryd.ntmps58
 go_wp2_with fail
 go_ret
 exact ⟨ret_int hk64, rfl⟩
theorem each_any (s : Nat) (w : World) :
  Calls Tryd.prog 40 #[.int .u16 (s : Int)] w fun e w' => e = .returned (.func (.func 57) #[] #[.pointer (some ⟨w.heap.size, 0, none⟩)]) ∧ w' = w.alloc (.cells #[.int .u16 (s : Int)] 60) := by
 go_enter Tryd.func40, Tryd.ntmps40
 go_wp2_with fail
 go_ret
 exact ⟨rfl, rfl⟩
theorem each_iter (s0 SB : Nat) (hs0 : s0 < 4096) (hSB : 0 < SB) : IterOk Tryd.prog 57 #[.pointer (some ⟨SB, 0, none⟩)] (fun x : Nat => #[.int .i64 (x : Int)]) (fun i => (elems s0)[i]?) 12 (fun k => k = SB) (fun k => k = 0) (fun W => Tab W ∧ W.heap[SB]? = some (.cells #[.int .u16 (s0 : Int)] 60)) := by
 intro l J Jx W hPre hJN hJ hJx hY h0
 obtain ⟨hT, hS⟩ := hPre
 refine callsIn_of_wp Tryd.func57 rfl trivial ?_ rfl
 simp only [Tryd.ntmps57, List.size_toArray, List.length_cons, List.length_nil, Nat.reduceAdd, Nat.reduceSub, Array.replicate_succ, Array.replicate_zero, List.push_toArray, List.append_toArray, List.nil_append, List.cons_append]
 gi_wp2_with fail
 gi_loopw [] (fun wr => ∃ k s t : Nat, t < 4096 ∧ elems t = (elems s0).drop k ∧ wr.heap[SB]? = some (.cells #[.int .u16 (t : Int)] 60) ∧ Tab wr ∧ J k s wr ∧ s ≤ wr.heap.size) (fun wr => match wr.heap[SB]? with | some (.cells #[.int _ t] _) => (elems t.toNat).length | _ => 0)
 case atStart => exact ⟨0, _, s0, hs0, rfl, hS, hT, h0, Nat.le_refl _⟩
 case round =>
  obtain ⟨k, s, t, ht, hel, hb, hT', hj, hs⟩ := hrel
  have cS : wr.cell? ⟨SB, 0, none⟩ = some (.int .u16 (t : Int)) := cell_of hb rfl
  have fS := frozen_of (o := 0) hb
  by_cases h0 : t = 0
  ·subst h0
   have hnone : (elems s0)[k]? = none := by
    rw [elems_zero] at hel
    rw [List.getElem?_eq_none_iff]
    have := congrArg List.length hel
    simp at this
    omega
   clear hel hb
   gi_wp2_with fail
   refine bodyPost_end (results_none rfl _ _ _) rfl ?_
   exact ⟨⟨_, rfl⟩, .inl ⟨k, s, hnone, hj⟩⟩
  ·obtain ⟨hl1, hl2, hl3, hl4⟩ := low ht h0
   have hx : (elems s0)[k]? = some (tz t) := by
    have h1 : ((elems s0).drop k)[0]? = some (tz t) := by rw [← hel, hl2]; rfl
    simpa using h1
   have hz : ((t : Int) != 0) = true := by simp; omega
   have h1w : IntKind.u16.wrap ((t : Int) - 1) = ((t - 1 : Nat) : Int) := by
    unfold IntKind.wrap
    simp [IntKind.signed, IntKind.bits]
    omega
   have hand : Go.bits .and .u16 (t : Int) ((t - 1 : Nat) : Int) = ((t &&& (t - 1) : Nat) : Int) := and_u16 _ _ (by omega) (by omega)
   have ht4 : t &&& (t - 1) < 4096 := Nat.lt_of_le_of_lt Nat.and_le_left ht
   have hd1 : elems (t &&& (t - 1)) = (elems s0).drop (k + 1) := by
    have := congrArg List.tail (hl2.symm.trans hel)
    simpa using this
   have hmu : (elems (t &&& (t - 1))).length < (elems t).length := by rw [hl2]; simp
   clear hl1 hl4
   generalize ht1 : t &&& (t - 1) = t1 at *
   have HT := Lib.hid (And.intro ht4 (And.intro hd1 hmu)); clear ht4 hd1 hmu
   obtain ⟨fn, tmps, assign, body, hy, hR⟩ := hY k s _ wr hx hj hs
   have HE := Lib.hid hel; clear hel hl2
   have H0 := Lib.hid h0; clear h0
   have HX := Lib.hid hx; clear hx
   gi_wp2_with fail
   refine ⟨trivial, rfl, CallsIn.mono (callsIn_wide.2 (tz_any t wr ht H0.out hT')) ?_⟩
   rintro e w' ⟨rfl, rfl⟩
   gi_wp2_with fail
   refine ⟨rfl, hR.mono ?_⟩
   rintro e W' (⟨rfl, hJ', hf⟩ | ⟨rfl, hJx'⟩)
   ·have hb' : W'.heap[SB]? = some (.cells #[.int .u16 (t : Int)] 60) := (hf.block _ (Array.getElem?_eq_some_iff.1 hb).1 (fun h => h.2.2 rfl)).trans hb
    have hT2 : Tab W' := hT'.fr hf (fun h => h.2.1 rfl)
    have cS' : W'.cell? ⟨SB, 0, none⟩ = some (.int .u16 (t : Int)) := cell_of hb' rfl
    have fS' : W'.frozen? ⟨SB, 0, none⟩ = false := frozen_of hb'
    have hJ2 := hJ _ _ _ _ hJ' ((Fr.refl _ _).setCell ⟨SB, 0, none⟩ (.int .u16 (t1 : Int)) (fun _ => rfl))
    have hb2 := heap_set (o := 0) (.int .u16 (t1 : Int)) hb'
    have hT3 : Tab (W'.setCell ⟨SB, 0, none⟩ (.int .u16 (t1 : Int))) := hT2.fr ((Fr.refl (fun k => k = SB) _).setCell ⟨SB, 0, none⟩ _ (fun _ => rfl)) (by omega)
    have hsz : W'.heap.size ≤ (W'.setCell ⟨SB, 0, none⟩ (.int .u16 (t1 : Int))).heap.size := ((Fr.refl (fun k => k = SB) W').setCell ⟨SB, 0, none⟩ (.int .u16 (t1 : Int)) (fun _ => rfl)).size
    have HH := Lib.hid (And.intro hJ2 (And.intro hb2 (And.intro hT3 hsz)))
    have HB := Lib.hid hb; clear hb
    clear hJ2 hb2 hT3 hsz hb' hy hR
    gi_wp2_with fail
    obtain ⟨hJ2, hb2, hT3, hsz⟩ := HH.out
    refine ⟨⟨_, _, _, _, _, _, _, _, _, _, _, ⟨k + 1, _, t1, HT.out.1, HT.out.2.1, hb2, hT3, hJ2, hsz⟩, rfl⟩, ?_⟩
    rw [hb2, HB.out]
    exact HT.out.2.2
   ·gi_wp2
    refine bodyPost_ret (results_none rfl _ _ _) rfl ?_
    exact ⟨⟨_, rfl⟩, .inr ⟨k, _, HX.out, hJx'⟩⟩
end Go.Proofs.YticngcjfofcoiaaDoor
