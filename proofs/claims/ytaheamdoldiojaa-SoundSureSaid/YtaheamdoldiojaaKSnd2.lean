/- .. Part 3 of 5. -/
-- Put together by wip/tools/shake.py, a program of this work: out of the words that the kit's print tool (print.sh) writes for a claim and what wip/tools/xprint.py prints, those that this claim reaches, and this work's own texts.
import Derived.Laws.EntriesVeiled
import Derived.Outline
import Derived.RegionTactic
import Derived.BigRegion
import Derived.Laws.Externs
import Derived.Test.YtaheamdoldiojaaKSnd1
namespace Go.Proofs.Ytaheamdoldiojaa.P
open Go.RowKit Go.Proofs.YtaheamdoldiojaaW.PrintWords Go.Proofs.YtaheamdoldiojaaW.PrintLast Go.Proofs.YtaheamdoldiojaaW.PrintMore
attribute [local go_sem] max2_int min2_int max_two min_two max_three min_three max_four min_four   -- for this text's walks alone
set_option linter.unusedVariables false
set_option linter.unusedSimpArgs false
def Sd.idx {α : Type} (q : α → Bool) (l : List α) : Int := if l.any q = true then (l.findIdx q : Int) else -1
theorem Sd.idx_at {α : Type} {q : α → Bool} {l : List α} {i : Nat} (hi : i < l.length) (h : q l[i] = true) (hb : ∀ s ∈ l.take i, q s = false) : Sd.idx q l = (i : Int) := by
 unfold Sd.idx
 rw [if_pos (List.any_eq_true.2 ⟨_, List.getElem_mem hi, h⟩)]
 congr 1
 refine (List.findIdx_eq hi).2 ⟨h, fun j hj => ?_⟩
 refine hb _ ?_
 rw [List.mem_take_iff_getElem]
 exact ⟨j, by omega, rfl⟩
theorem Sd.idx_none {α : Type} {q : α → Bool} {l : List α} (hb : ∀ s ∈ l, q s = false) : Sd.idx q l = -1 := by
 unfold Sd.idx
 rw [if_neg]
 rw [List.any_eq_true]
 rintro ⟨s, hs, h⟩
 rw [hb s hs] at h
 cases h
def Sd.diff (xs : List S45) (s : S45) : Bool := (s.f0.length : Int) != ((rd_T45 xs 0).f0.length : Int)
set_option maxRecDepth 100000 in
set_option maxHeartbeats 4000000 in
theorem sound_checkGauges_2.calls (p : Nat) (A : Option Addr) (c : Nat) (xs : List S45) (A1 : Option Addr) (c1 : Nat) (s : S45) (w : World) (hxs : 0 < xs.length) (kp : w.heap[p]? = some (.cells #[.slice A xs.length c] 37 (0, 0))) (kc : Kd.C k45 w A xs.length xs) :
  Calls Try.prog 104 #[.agg #[.slice A1 s.f0.length c1], .pointer (some ⟨p, 0, none⟩)] w fun e w' => e = .returned (.bool (Sd.diff xs s)) ∧ Below w.heap.size w w' := by
 have hu45 := Try.underlying45
 obtain ⟨ad, A2, c2, ead, hx, -, -⟩ := at_T45 kc 0 (by decide) (by omega)
 subst ead
 rw [show ((0 : Int)).toNat = 0 from rfl, Addr.add_zero'] at hx
 have hp : w.cell? ⟨p, 0, none⟩ = some (.slice (some ad) xs.length c) := (zkc kp 0).trans rfl
 have g0 : ((0 : Int) < (xs.length : Int)) = True := eq_true (by omega)
 have g1 : (0 < xs.length) = True := eq_true hxs
 unfold Sd.diff
 obtain ⟨m, hm⟩ : ∃ m, (rd_T45 xs 0).f0.length = m := ⟨_, rfl⟩
 obtain ⟨n, hn⟩ : ∃ n, s.f0.length = n := ⟨_, rfl⟩
 rw [hm] at hx ⊢
 rw [hn]
 have HX := zam hx
 have HP := zam hp
 clear hm hn hx hp kc kp hxs
 by_cases q : n = m
 ·subst q
  go_enter Try.func104, Try.ntmps104
  go_wp2_with ((with_reducible refine zgd (N := 2) rfl ?_); refine box_event ?hg (N := 2) ?hd (cs := #[.slice A1 n c1]) (t := 45) ?hr ?_; (case hd => rfl); (case hg => rfl); (case hr => first | (go_simp; done) | (go_simp; rfl)); intro gg hgg w2 hbk hb0; have HB := zam hb0; have hz := (zkc hbk 0).trans rfl; have hx2 := (hb0.cell (zwb w _ HX.out)).trans HX.out; have hp2 := (hb0.cell (zwb w _ HP.out)).trans HP.out; clear hgg hbk hb0)
  go_region
  go_wp2
  go_ret
  exact ⟨by simp, zb1 HB.out⟩
 have q1 : (n == m) = false := beq_eq_false_iff_ne.mpr q
 have q2 : (n != m) = true := bne_iff_ne.mpr q
 have q3 : ((n : Int) == (m : Int)) = false := beq_eq_false_iff_ne.mpr (by omega)
 have q4 : ((n : Int) != (m : Int)) = true := bne_iff_ne.mpr (by omega)
 clear q
 go_enter Try.func104, Try.ntmps104
 go_wp2_with ((with_reducible refine zgd (N := 2) rfl ?_); refine box_event ?hg (N := 2) ?hd (cs := #[.slice A1 n c1]) (t := 45) ?hr ?_; (case hd => rfl); (case hg => rfl); (case hr => first | (go_simp; done) | (go_simp; rfl)); intro gg hgg w2 hbk hb0; have HB := zam hb0; have hz := (zkc hbk 0).trans rfl; have hx2 := (hb0.cell (zwb w _ HX.out)).trans HX.out; have hp2 := (hb0.cell (zwb w _ HP.out)).trans HP.out; clear hgg hbk hb0)
 go_region
 go_wp2
 go_ret
 exact ⟨by rw [q4]; rfl, zb1 HB.out⟩
set_option maxRecDepth 100000 in
set_option maxHeartbeats 4000000 in
theorem index_gauge (p : Nat) (A : Option Addr) (c : Nat) (xs : List S45) (w : World) (hxl : xs.length ≤ 1000000) (hxs : 0 < xs.length) (kp : w.heap[p]? = some (.cells #[.slice A xs.length c] 37 (0, 0))) (kc : Kd.C k45 w A xs.length xs) :
  Calls Try.prog 128 #[.slice A xs.length c, .func (.func 104) #[] #[.pointer (some ⟨p, 0, none⟩)]] w fun e w' => e = .returned (.int .i64 (Sd.idx (Sd.diff xs) xs)) ∧ Below w.heap.size w w' := by
 have hu45 := Try.underlying45
 have KC := zam kc
 have KX := zam kp
 have HL := zam hxl
 have HP := zam hxs
 clear kc kp hxl hxs
 go_enter Try.func128, Try.ntmps128
 go_wp2
 go_loopw [8] (fun v wr => ∃ i : Nat, i ≤ xs.length ∧ v = .int .i64 (i : Int) ∧ Aside0 (∀ s ∈ xs.take i, Sd.diff xs s = false) ∧ Aside0 (Below w.heap.size w wr)) (fun v _ => xs.length - (intOf v).toNat)
 case atStart => exact ⟨0, Nat.zero_le _, rfl, ⟨by simp⟩, ⟨Below.refl _ _⟩⟩
 case round =>
  obtain ⟨i, hi, rfl, HN, HB⟩ := hrel
  by_cases hlt : i < xs.length
  ·have d1 : decide ((i : Int) < (xs.length : Int)) = true := zdt (by omega)
   have d2 : decide (i < xs.length) = true := zdt hlt
   obtain ⟨ad, A2, c2, ead, hx0, hl2, hk2⟩ := at_T45 (Kd.C_below KC.out HB.out) (i : Int) (Int.natCast_nonneg _) (by omega)
   subst ead
   have e1 : rd_T45 xs (i : Int) = xs[i] := by
    unfold rd_T45
    rw [Int.toNat_natCast]
    simp [List.getD, hlt]
   rw [e1, Int.toNat_natCast] at hx0
   have g0 : ((0 : Int) ≤ (i : Int)) = True := eq_true (by omega)
   have g1 : ((i : Int) < (xs.length : Int)) = True := eq_true (by omega)
   have wi : IntKind.i64.wrap ((i : Int) + 1) = ((i + 1 : Nat) : Int) := by
    have := HL.out
    rw [i64_w, wrap_id (by omega) (by omega)]
    omega
   have LT := zam hlt
   have KX2 := zam (zkb KX.out HB.out)
   have KC2 := zam (Kd.C_below KC.out HB.out)
   obtain ⟨s, hs⟩ : ∃ s, xs[i] = s := ⟨_, rfl⟩
   rw [hs] at hx0
   have HS : Aside0 (xs[i]'LT.out = s) := ⟨hs⟩
   clear hs e1 hlt hl2 hk2
   by_cases q : Sd.diff xs s = true
   ·have HR := zam (Sd.idx_at LT.out (by rw [HS.out]; exact q) HN.out)
    go_wp2_with (go_at_call 104; (refine (sound_checkGauges_2.calls p (some ad) c xs _ _ s _ HP.out KX2.out KC2.out).mono ?_); rintro e w2 ⟨rfl, hb⟩; have n0 := zam (zbt HB.out hb); clear HB hb; have HB := n0; clear n0)
    go_ret
    exact ⟨by rw [HR.out]; rfl, HB.out⟩
   have q := Bool.eq_false_iff.2 q
   have HN2 : Aside0 (∀ s ∈ xs.take (i + 1), Sd.diff xs s = false) := ⟨by
    rw [take_snoc LT.out]
    intro t ht
    rcases List.mem_append.1 ht with ht | ht
    ·exact HN.out t ht
    rw [List.mem_singleton.1 ht, HS.out]
    exact q⟩
   go_wp2_with (go_at_call 104; (refine (sound_checkGauges_2.calls p (some ad) c xs _ _ s _ HP.out KX2.out KC2.out).mono ?_); rintro e w2 ⟨rfl, hb⟩; have n0 := zam (zbt HB.out hb); clear HB hb; have HB := n0; clear n0)
   go_roundw
   case rel => exact ⟨i + 1, LT.out, rfl, HN2, HB⟩
   case measure => (have := LT.out; simp only [intOf]; omega)
  have d1 : decide ((i : Int) < (xs.length : Int)) = false := zdf (by omega)
  have d2 : decide (i < xs.length) = false := zdf hlt
  have HR : Aside0 (Sd.idx (Sd.diff xs) xs = -1) := ⟨Sd.idx_none (by have := HN.out; rwa [List.take_of_length_le (by omega)] at this)⟩
  clear hlt
  go_wp2
  go_ret
  exact ⟨by rw [HR.out]; rfl, HB.out⟩
set_option maxRecDepth 100000 in
set_option maxHeartbeats 4000000 in
theorem contains_gauge (p : Nat) (A : Option Addr) (c : Nat) (xs : List S45) (w : World) (hxl : xs.length ≤ 1000000) (hxs : 0 < xs.length) (kp : w.heap[p]? = some (.cells #[.slice A xs.length c] 37 (0, 0))) (kc : Kd.C k45 w A xs.length xs) :
  Calls Try.prog 102 #[.slice A xs.length c, .func (.func 104) #[] #[.pointer (some ⟨p, 0, none⟩)]] w fun e w' => e = .returned (.bool (xs.any (Sd.diff xs))) ∧ Below w.heap.size w w' := by
 have KC := zam kc
 have KX := zam kp
 have HL := zam hxl
 have HP := zam hxs
 clear kc kp hxl hxs
 have hI : decide (0 ≤ Sd.idx (Sd.diff xs) xs) = xs.any (Sd.diff xs) := by
  unfold Sd.idx
  by_cases q : xs.any (Sd.diff xs) = true
  ·rw [if_pos q, q]
   exact zdt (by omega)
  rw [if_neg q, Bool.eq_false_iff.2 q]
  rfl
 have HI := zam hI
 clear hI
 go_enter Try.func102, Try.ntmps102
 go_wp2_with (go_at_call 128; (refine (index_gauge p A c xs _ HL.out HP.out KX.out KC.out).mono ?_); rintro e w2 ⟨rfl, hb⟩; have HB := zam hb; clear hb)
 go_ret
 exact ⟨by rw [HI.out]; rfl, HB.out⟩
def sound_checkGauges.f (k : Nat) (l0 : List (S45)) (a1_0 : Int) (a1_1 : Int) (a1_2 : Int) : Option Int :=
 if l0.length = 0 then some 6 else if 16 < l0.length then some 6 else
 (slices_ContainsFunc_Gauge_sound_checkGauges_1.f k l0).bind fun a => if a = true then some 6 else if l0.any (Sd.diff l0) = true then some 17 else
 (slices_ContainsFunc_Gauge_sound_checkGauges_3.f k l0).bind fun b => if b = true then some 2 else
 (sound_between.f a1_0 1 1073741824).bind fun z => if z = true then (if a1_1 < 1 then some 2 else if 256 < a1_1 then some 2 else if a1_2 < 1 then some 2 else if 16 < a1_2 then some 2 else some 0) else some 2
theorem sound_checkGauges.mono : ∀ a0 a1 a2 a3 k, LeO (sound_checkGauges.f k a0 a1 a2 a3) (sound_checkGauges.f (k + 1) a0 a1 a2 a3) := by
 intro a0 a1 a2 a3 k
 unfold sound_checkGauges.f
 refine LeO.ite (LeO.refl _) (LeO.ite (LeO.refl _) (LeO.bind (slices_ContainsFunc_Gauge_sound_checkGauges_1.mono _ _) (fun a => LeO.ite (LeO.refl _) (LeO.ite (LeO.refl _) (LeO.bind (slices_ContainsFunc_Gauge_sound_checkGauges_3.mono _ _) (fun b => LeO.ite (LeO.refl _) (LeO.refl _)))))))
set_option maxHeartbeats 16000000 in
set_option maxRecDepth 100000 in
theorem sound_checkGauges.calls (k : Nat) (A0 : Option Addr) (c0 : Nat) (l0 : List (S45)) (a1_0 : Int) (a1_1 : Int) (a1_2 : Int) (r : Int) (w : World) (hr0 : Kd.C k45 w A0 l0.length l0) (hc0 : l0.length ≤ c0) (h : sound_checkGauges.f k l0 a1_0 a1_1 a1_2 = some r) :
  Calls Try.prog 61 #[.slice A0 l0.length c0, .agg #[.int .i64 a1_0, .int .i64 a1_1, .int .i64 a1_2]] w fun e w' => e = .returned (.int .i64 r) ∧ Below w.heap.size w w' := by
 have hu39 := Try.underlying39
 have hu45 := Try.underlying45
 have C1 := zam (fun (x : Bool) (w1 : World) (hb1 : Below w.heap.size w w1) (hs : slices_ContainsFunc_Gauge_sound_checkGauges_1.f k l0 = some x) => slices_ContainsFunc_Gauge_sound_checkGauges_1.calls k A0 c0 l0 x w1 (Kd.C_below hr0 hb1) hc0 hs)
 have C3 := zam (fun (x : Bool) (w1 : World) (hb1 : Below w.heap.size w w1) (hs : slices_ContainsFunc_Gauge_sound_checkGauges_3.f k l0 = some x) => slices_ContainsFunc_Gauge_sound_checkGauges_3.calls k A0 c0 l0 x w1 (Kd.C_below hr0 hb1) hc0 hs)
 have HR := zam hr0
 clear hr0
 unfold sound_checkGauges.f at h
 by_cases x0 : l0.length = 0
 ·rw [if_pos x0, Option.some.injEq] at h
  subst h
  have x0b : decide ((l0.length : Int) < 1) = true := zdt (by omega)
  have x0c : decide (1 > (l0.length : Int)) = true := zdt (by omega)
  have x0nb : decide (l0.length < 1) = true := zdt (by omega)
  have x0nc : decide (1 > l0.length) = true := zdt (by omega)
  have x0z : decide (l0.length = 0) = true := zdt x0
  clear x0
  go_enter Try.func61, Try.ntmps61
  go_wp2_with (first | ((with_reducible refine zgd (N := 2) rfl ?_); refine box_event ?hg (N := 2) ?hd (cs := #[.slice A0 l0.length c0]) (t := 37) ?hr ?_; (case hd => rfl); (case hg => rfl); (case hr => first | (go_simp; done) | (go_simp; rfl)); intro gl hgn_ wqgl hbk hb0; have HB := zam hb0; have Ggl : Aside0 (w.heap.size ≤ gl) := ⟨by rw [hgn_]; exact Nat.le_refl _⟩; have Bgl := zam hbk; clear hgn_ hbk hb0) | ((with_reducible refine zgd (N := 3) rfl ?_); refine box_event ?hg (N := 3) ?hd (cs := #[.int .i64 a1_0, .int .i64 a1_1, .int .i64 a1_2]) (t := 39) ?hr ?_; (case hd => rfl); (case hg => rfl); (case hr => first | (go_simp; done) | (go_simp; rfl)); intro gu hgn_ wqgu hbk hb0; have m0_ := zam (zkb Bgl.out hb0); have Ggu : Aside0 (w.heap.size ≤ gu) := ⟨by rw [hgn_]; exact HB.out.size⟩; have mb_ := zam (zbt HB.out hb0); clear HB; have HB := mb_; clear mb_; have Bgu := zam hbk; clear hgn_ hbk hb0 Bgl; have Bgl := m0_; clear m0_; have hz0 := (zkc Bgl.out 0).trans rfl; have hy0 := (zkc Bgu.out 0).trans rfl; have hy1 := (zkc Bgu.out 1).trans rfl; have hy2 := (zkc Bgu.out 2).trans rfl))
  go_ret
  exact ⟨rfl, HB.out⟩
 rw [if_neg x0] at h
 have x0b : decide ((l0.length : Int) < 1) = false := zdf (by omega)
 have x0c : decide (1 > (l0.length : Int)) = false := zdf (by omega)
 have x0nb : decide (l0.length < 1) = false := zdf (by omega)
 have x0nc : decide (1 > l0.length) = false := zdf (by omega)
 have x0z : decide (l0.length = 0) = false := zdf x0
 have HP : Aside0 (0 < l0.length) := ⟨by omega⟩
 by_cases x1 : 16 < l0.length
 ·rw [if_pos x1, Option.some.injEq] at h
  subst h
  have x1b : decide (16 < (l0.length : Int)) = true := zdt (by omega)
  have x1c : decide ((l0.length : Int) > 16) = true := zdt (by omega)
  have x1nb : decide (16 < l0.length) = true := zdt (by omega)
  have x1nc : decide (l0.length > 16) = true := zdt (by omega)
  clear x1
  go_enter Try.func61, Try.ntmps61
  go_wp2_with (first | ((with_reducible refine zgd (N := 2) rfl ?_); refine box_event ?hg (N := 2) ?hd (cs := #[.slice A0 l0.length c0]) (t := 37) ?hr ?_; (case hd => rfl); (case hg => rfl); (case hr => first | (go_simp; done) | (go_simp; rfl)); intro gl hgn_ wqgl hbk hb0; have HB := zam hb0; have Ggl : Aside0 (w.heap.size ≤ gl) := ⟨by rw [hgn_]; exact Nat.le_refl _⟩; have Bgl := zam hbk; clear hgn_ hbk hb0) | ((with_reducible refine zgd (N := 3) rfl ?_); refine box_event ?hg (N := 3) ?hd (cs := #[.int .i64 a1_0, .int .i64 a1_1, .int .i64 a1_2]) (t := 39) ?hr ?_; (case hd => rfl); (case hg => rfl); (case hr => first | (go_simp; done) | (go_simp; rfl)); intro gu hgn_ wqgu hbk hb0; have m0_ := zam (zkb Bgl.out hb0); have Ggu : Aside0 (w.heap.size ≤ gu) := ⟨by rw [hgn_]; exact HB.out.size⟩; have mb_ := zam (zbt HB.out hb0); clear HB; have HB := mb_; clear mb_; have Bgu := zam hbk; clear hgn_ hbk hb0 Bgl; have Bgl := m0_; clear m0_; have hz0 := (zkc Bgl.out 0).trans rfl; have hy0 := (zkc Bgu.out 0).trans rfl; have hy1 := (zkc Bgu.out 1).trans rfl; have hy2 := (zkc Bgu.out 2).trans rfl))
  go_ret
  exact ⟨rfl, HB.out⟩
 rw [if_neg x1] at h
 have x1b : decide (16 < (l0.length : Int)) = false := zdf (by omega)
 have x1c : decide ((l0.length : Int) > 16) = false := zdf (by omega)
 have x1nb : decide (16 < l0.length) = false := zdf (by omega)
 have x1nc : decide (l0.length > 16) = false := zdf (by omega)
 have HL : Aside0 (l0.length ≤ 1000000) := ⟨by omega⟩
 clear x0 x1
 obtain ⟨a, ha, h⟩ := Option.bind_eq_some_iff.mp h
 have CA := zam ha
 clear ha
 cases a
 case true =>
  simp only [if_true, Option.some.injEq] at h
  subst h
  go_enter Try.func61, Try.ntmps61
  go_wp2_with (first | ((with_reducible refine zgd (N := 2) rfl ?_); refine box_event ?hg (N := 2) ?hd (cs := #[.slice A0 l0.length c0]) (t := 37) ?hr ?_; (case hd => rfl); (case hg => rfl); (case hr => first | (go_simp; done) | (go_simp; rfl)); intro gl hgn_ wqgl hbk hb0; have HB := zam hb0; have Ggl : Aside0 (w.heap.size ≤ gl) := ⟨by rw [hgn_]; exact Nat.le_refl _⟩; have Bgl := zam hbk; clear hgn_ hbk hb0) | ((with_reducible refine zgd (N := 3) rfl ?_); refine box_event ?hg (N := 3) ?hd (cs := #[.int .i64 a1_0, .int .i64 a1_1, .int .i64 a1_2]) (t := 39) ?hr ?_; (case hd => rfl); (case hg => rfl); (case hr => first | (go_simp; done) | (go_simp; rfl)); intro gu hgn_ wqgu hbk hb0; have m0_ := zam (zkb Bgl.out hb0); have Ggu : Aside0 (w.heap.size ≤ gu) := ⟨by rw [hgn_]; exact HB.out.size⟩; have mb_ := zam (zbt HB.out hb0); clear HB; have HB := mb_; clear mb_; have Bgu := zam hbk; clear hgn_ hbk hb0 Bgl; have Bgl := m0_; clear m0_; have hz0 := (zkc Bgl.out 0).trans rfl; have hy0 := (zkc Bgu.out 0).trans rfl; have hy1 := (zkc Bgu.out 1).trans rfl; have hy2 := (zkc Bgu.out 2).trans rfl) | (go_at_call 102; (first | (with_reducible refine (C1.out true _ HB.out CA.out).mono ?_)); rintro e w3 ⟨rfl, hb1⟩; have m0_ := zam (zkb Bgl.out hb1); have m1_ := zam (zkb Bgu.out hb1); have mb_ := zam (zbt HB.out hb1); clear Bgl Bgu HB hb1 hz0 hy0 hy1 hy2; have Bgl := m0_; have Bgu := m1_; have HB := mb_; clear m0_ m1_ mb_; have hz0 := (zkc Bgl.out 0).trans rfl; have hy0 := (zkc Bgu.out 0).trans rfl; have hy1 := (zkc Bgu.out 1).trans rfl; have hy2 := (zkc Bgu.out 2).trans rfl; skip))
  go_ret
  exact ⟨rfl, HB.out⟩
 case false =>
  simp only [Bool.false_eq_true, if_false] at h
  by_cases x2 : l0.any (Sd.diff l0) = true
  ·rw [if_pos x2, Option.some.injEq] at h
   subst h
   have HD := zam x2
   clear x2
   go_enter Try.func61, Try.ntmps61
   go_wp2_with (first | ((with_reducible refine zgd (N := 2) rfl ?_); refine box_event ?hg (N := 2) ?hd (cs := #[.slice A0 l0.length c0]) (t := 37) ?hr ?_; (case hd => rfl); (case hg => rfl); (case hr => first | (go_simp; done) | (go_simp; rfl)); intro gl hgn_ wqgl hbk hb0; have HB := zam hb0; have Ggl : Aside0 (w.heap.size ≤ gl) := ⟨by rw [hgn_]; exact Nat.le_refl _⟩; have Bgl := zam hbk; clear hgn_ hbk hb0) | ((with_reducible refine zgd (N := 3) rfl ?_); refine box_event ?hg (N := 3) ?hd (cs := #[.int .i64 a1_0, .int .i64 a1_1, .int .i64 a1_2]) (t := 39) ?hr ?_; (case hd => rfl); (case hg => rfl); (case hr => first | (go_simp; done) | (go_simp; rfl)); intro gu hgn_ wqgu hbk hb0; have m0_ := zam (zkb Bgl.out hb0); have Ggu : Aside0 (w.heap.size ≤ gu) := ⟨by rw [hgn_]; exact HB.out.size⟩; have mb_ := zam (zbt HB.out hb0); clear HB; have HB := mb_; clear mb_; have Bgu := zam hbk; clear hgn_ hbk hb0 Bgl; have Bgl := m0_; clear m0_; have hz0 := (zkc Bgl.out 0).trans rfl; have hy0 := (zkc Bgu.out 0).trans rfl; have hy1 := (zkc Bgu.out 1).trans rfl; have hy2 := (zkc Bgu.out 2).trans rfl) | (go_at_call 102; (first | (with_reducible refine (C1.out false _ HB.out CA.out).mono ?_) | (with_reducible refine (contains_gauge gl A0 c0 l0 _ HL.out HP.out Bgl.out (Kd.C_below HR.out HB.out)).mono ?_)); rintro e w3 ⟨rfl, hb1⟩; have m0_ := zam (zkb Bgl.out hb1); have m1_ := zam (zkb Bgu.out hb1); have mb_ := zam (zbt HB.out hb1); clear Bgl Bgu HB hb1 hz0 hy0 hy1 hy2; have Bgl := m0_; have Bgu := m1_; have HB := mb_; clear m0_ m1_ mb_; have hz0 := (zkc Bgl.out 0).trans rfl; have hy0 := (zkc Bgu.out 0).trans rfl; have hy1 := (zkc Bgu.out 1).trans rfl; have hy2 := (zkc Bgu.out 2).trans rfl; skip; (try rw [HD.out])))
   go_ret
   exact ⟨rfl, HB.out⟩
  rw [if_neg x2] at h
  have HD := zam (Bool.eq_false_iff.2 x2)
  clear x2
  obtain ⟨b, hb, h⟩ := Option.bind_eq_some_iff.mp h
  have CB := zam hb
  clear hb
  cases b
  case true =>
   simp only [if_true, Option.some.injEq] at h
   subst h
   go_enter Try.func61, Try.ntmps61
   go_wp2_with (first | ((with_reducible refine zgd (N := 2) rfl ?_); refine box_event ?hg (N := 2) ?hd (cs := #[.slice A0 l0.length c0]) (t := 37) ?hr ?_; (case hd => rfl); (case hg => rfl); (case hr => first | (go_simp; done) | (go_simp; rfl)); intro gl hgn_ wqgl hbk hb0; have HB := zam hb0; have Ggl : Aside0 (w.heap.size ≤ gl) := ⟨by rw [hgn_]; exact Nat.le_refl _⟩; have Bgl := zam hbk; clear hgn_ hbk hb0) | ((with_reducible refine zgd (N := 3) rfl ?_); refine box_event ?hg (N := 3) ?hd (cs := #[.int .i64 a1_0, .int .i64 a1_1, .int .i64 a1_2]) (t := 39) ?hr ?_; (case hd => rfl); (case hg => rfl); (case hr => first | (go_simp; done) | (go_simp; rfl)); intro gu hgn_ wqgu hbk hb0; have m0_ := zam (zkb Bgl.out hb0); have Ggu : Aside0 (w.heap.size ≤ gu) := ⟨by rw [hgn_]; exact HB.out.size⟩; have mb_ := zam (zbt HB.out hb0); clear HB; have HB := mb_; clear mb_; have Bgu := zam hbk; clear hgn_ hbk hb0 Bgl; have Bgl := m0_; clear m0_; have hz0 := (zkc Bgl.out 0).trans rfl; have hy0 := (zkc Bgu.out 0).trans rfl; have hy1 := (zkc Bgu.out 1).trans rfl; have hy2 := (zkc Bgu.out 2).trans rfl) | (go_at_call 102; (first | (with_reducible refine (C1.out false _ HB.out CA.out).mono ?_) | (with_reducible refine (C3.out true _ HB.out CB.out).mono ?_) | (with_reducible refine (contains_gauge gl A0 c0 l0 _ HL.out HP.out Bgl.out (Kd.C_below HR.out HB.out)).mono ?_)); rintro e w3 ⟨rfl, hb1⟩; have m0_ := zam (zkb Bgl.out hb1); have m1_ := zam (zkb Bgu.out hb1); have mb_ := zam (zbt HB.out hb1); clear Bgl Bgu HB hb1 hz0 hy0 hy1 hy2; have Bgl := m0_; have Bgu := m1_; have HB := mb_; clear m0_ m1_ mb_; have hz0 := (zkc Bgl.out 0).trans rfl; have hy0 := (zkc Bgu.out 0).trans rfl; have hy1 := (zkc Bgu.out 1).trans rfl; have hy2 := (zkc Bgu.out 2).trans rfl; skip; (try rw [HD.out])))
   go_ret
   exact ⟨rfl, HB.out⟩
  case false =>
   simp only [Bool.false_eq_true, if_false] at h
   obtain ⟨z, hz, h⟩ := Option.bind_eq_some_iff.mp h
   have CZ := zam hz
   clear hz
   cases z
   case false =>
    simp only [Bool.false_eq_true, if_false, Option.some.injEq] at h
    subst h
    go_enter Try.func61, Try.ntmps61
    go_wp2_with (first | ((with_reducible refine zgd (N := 2) rfl ?_); refine box_event ?hg (N := 2) ?hd (cs := #[.slice A0 l0.length c0]) (t := 37) ?hr ?_; (case hd => rfl); (case hg => rfl); (case hr => first | (go_simp; done) | (go_simp; rfl)); intro gl hgn_ wqgl hbk hb0; have HB := zam hb0; have Ggl : Aside0 (w.heap.size ≤ gl) := ⟨by rw [hgn_]; exact Nat.le_refl _⟩; have Bgl := zam hbk; clear hgn_ hbk hb0) | ((with_reducible refine zgd (N := 3) rfl ?_); refine box_event ?hg (N := 3) ?hd (cs := #[.int .i64 a1_0, .int .i64 a1_1, .int .i64 a1_2]) (t := 39) ?hr ?_; (case hd => rfl); (case hg => rfl); (case hr => first | (go_simp; done) | (go_simp; rfl)); intro gu hgn_ wqgu hbk hb0; have m0_ := zam (zkb Bgl.out hb0); have Ggu : Aside0 (w.heap.size ≤ gu) := ⟨by rw [hgn_]; exact HB.out.size⟩; have mb_ := zam (zbt HB.out hb0); clear HB; have HB := mb_; clear mb_; have Bgu := zam hbk; clear hgn_ hbk hb0 Bgl; have Bgl := m0_; clear m0_; have hz0 := (zkc Bgl.out 0).trans rfl; have hy0 := (zkc Bgu.out 0).trans rfl; have hy1 := (zkc Bgu.out 1).trans rfl; have hy2 := (zkc Bgu.out 2).trans rfl) | (go_at_call 102; (first | (with_reducible refine (C1.out false _ HB.out CA.out).mono ?_) | (with_reducible refine (C3.out false _ HB.out CB.out).mono ?_) | (with_reducible refine (contains_gauge gl A0 c0 l0 _ HL.out HP.out Bgl.out (Kd.C_below HR.out HB.out)).mono ?_)); rintro e w3 ⟨rfl, hb1⟩; have m0_ := zam (zkb Bgl.out hb1); have m1_ := zam (zkb Bgu.out hb1); have mb_ := zam (zbt HB.out hb1); clear Bgl Bgu HB hb1 hz0 hy0 hy1 hy2; have Bgl := m0_; have Bgu := m1_; have HB := mb_; clear m0_ m1_ mb_; have hz0 := (zkc Bgl.out 0).trans rfl; have hy0 := (zkc Bgu.out 0).trans rfl; have hy1 := (zkc Bgu.out 1).trans rfl; have hy2 := (zkc Bgu.out 2).trans rfl; skip; (try rw [HD.out])) | (go_at_call 72; (with_reducible refine (sound_between.calls a1_0 1 1073741824 false _ CZ.out).mono ?_); rintro e w3 ⟨rfl, ⟨nz, rfl⟩⟩; have m0_ := zam (zkn Bgl.out nz); have m1_ := zam (zkn Bgu.out nz); have mb_ := zam (zbn HB.out nz); clear Bgl Bgu HB hz0 hy0 hy1 hy2; have Bgl := m0_; have Bgu := m1_; have HB := mb_; clear m0_ m1_ mb_; have hz0 := (zkc Bgl.out 0).trans rfl; have hy0 := (zkc Bgu.out 0).trans rfl; have hy1 := (zkc Bgu.out 1).trans rfl; have hy2 := (zkc Bgu.out 2).trans rfl; skip))
    go_ret
    exact ⟨rfl, HB.out⟩
   case true =>
    simp only [if_true] at h
    by_cases y0 : a1_1 < 1
    ·rw [if_pos y0, Option.some.injEq] at h
     subst h
     have y0b : decide (a1_1 < 1) = true := zdt (by omega)
     have y0c : decide (1 > a1_1) = true := zdt (by omega)
     clear y0
     go_enter Try.func61, Try.ntmps61
     go_wp2_with (first | ((with_reducible refine zgd (N := 2) rfl ?_); refine box_event ?hg (N := 2) ?hd (cs := #[.slice A0 l0.length c0]) (t := 37) ?hr ?_; (case hd => rfl); (case hg => rfl); (case hr => first | (go_simp; done) | (go_simp; rfl)); intro gl hgn_ wqgl hbk hb0; have HB := zam hb0; have Ggl : Aside0 (w.heap.size ≤ gl) := ⟨by rw [hgn_]; exact Nat.le_refl _⟩; have Bgl := zam hbk; clear hgn_ hbk hb0) | ((with_reducible refine zgd (N := 3) rfl ?_); refine box_event ?hg (N := 3) ?hd (cs := #[.int .i64 a1_0, .int .i64 a1_1, .int .i64 a1_2]) (t := 39) ?hr ?_; (case hd => rfl); (case hg => rfl); (case hr => first | (go_simp; done) | (go_simp; rfl)); intro gu hgn_ wqgu hbk hb0; have m0_ := zam (zkb Bgl.out hb0); have Ggu : Aside0 (w.heap.size ≤ gu) := ⟨by rw [hgn_]; exact HB.out.size⟩; have mb_ := zam (zbt HB.out hb0); clear HB; have HB := mb_; clear mb_; have Bgu := zam hbk; clear hgn_ hbk hb0 Bgl; have Bgl := m0_; clear m0_; have hz0 := (zkc Bgl.out 0).trans rfl; have hy0 := (zkc Bgu.out 0).trans rfl; have hy1 := (zkc Bgu.out 1).trans rfl; have hy2 := (zkc Bgu.out 2).trans rfl) | (go_at_call 102; (first | (with_reducible refine (C1.out false _ HB.out CA.out).mono ?_) | (with_reducible refine (C3.out false _ HB.out CB.out).mono ?_) | (with_reducible refine (contains_gauge gl A0 c0 l0 _ HL.out HP.out Bgl.out (Kd.C_below HR.out HB.out)).mono ?_)); rintro e w3 ⟨rfl, hb1⟩; have m0_ := zam (zkb Bgl.out hb1); have m1_ := zam (zkb Bgu.out hb1); have mb_ := zam (zbt HB.out hb1); clear Bgl Bgu HB hb1 hz0 hy0 hy1 hy2; have Bgl := m0_; have Bgu := m1_; have HB := mb_; clear m0_ m1_ mb_; have hz0 := (zkc Bgl.out 0).trans rfl; have hy0 := (zkc Bgu.out 0).trans rfl; have hy1 := (zkc Bgu.out 1).trans rfl; have hy2 := (zkc Bgu.out 2).trans rfl; skip; (try rw [HD.out])) | (go_at_call 72; (with_reducible refine (sound_between.calls a1_0 1 1073741824 true _ CZ.out).mono ?_); rintro e w3 ⟨rfl, ⟨nz, rfl⟩⟩; have m0_ := zam (zkn Bgl.out nz); have m1_ := zam (zkn Bgu.out nz); have mb_ := zam (zbn HB.out nz); clear Bgl Bgu HB hz0 hy0 hy1 hy2; have Bgl := m0_; have Bgu := m1_; have HB := mb_; clear m0_ m1_ mb_; have hz0 := (zkc Bgl.out 0).trans rfl; have hy0 := (zkc Bgu.out 0).trans rfl; have hy1 := (zkc Bgu.out 1).trans rfl; have hy2 := (zkc Bgu.out 2).trans rfl; skip))
     go_ret
     exact ⟨rfl, HB.out⟩
    rw [if_neg y0] at h
    have y0b : decide (a1_1 < 1) = false := zdf (by omega)
    have y0c : decide (1 > a1_1) = false := zdf (by omega)
    clear y0
    by_cases y1 : 256 < a1_1
    ·rw [if_pos y1, Option.some.injEq] at h
     subst h
     have y1b : decide (256 < a1_1) = true := zdt (by omega)
     have y1c : decide (a1_1 > 256) = true := zdt (by omega)
     clear y1
     go_enter Try.func61, Try.ntmps61
     go_wp2_with (first | ((with_reducible refine zgd (N := 2) rfl ?_); refine box_event ?hg (N := 2) ?hd (cs := #[.slice A0 l0.length c0]) (t := 37) ?hr ?_; (case hd => rfl); (case hg => rfl); (case hr => first | (go_simp; done) | (go_simp; rfl)); intro gl hgn_ wqgl hbk hb0; have HB := zam hb0; have Ggl : Aside0 (w.heap.size ≤ gl) := ⟨by rw [hgn_]; exact Nat.le_refl _⟩; have Bgl := zam hbk; clear hgn_ hbk hb0) | ((with_reducible refine zgd (N := 3) rfl ?_); refine box_event ?hg (N := 3) ?hd (cs := #[.int .i64 a1_0, .int .i64 a1_1, .int .i64 a1_2]) (t := 39) ?hr ?_; (case hd => rfl); (case hg => rfl); (case hr => first | (go_simp; done) | (go_simp; rfl)); intro gu hgn_ wqgu hbk hb0; have m0_ := zam (zkb Bgl.out hb0); have Ggu : Aside0 (w.heap.size ≤ gu) := ⟨by rw [hgn_]; exact HB.out.size⟩; have mb_ := zam (zbt HB.out hb0); clear HB; have HB := mb_; clear mb_; have Bgu := zam hbk; clear hgn_ hbk hb0 Bgl; have Bgl := m0_; clear m0_; have hz0 := (zkc Bgl.out 0).trans rfl; have hy0 := (zkc Bgu.out 0).trans rfl; have hy1 := (zkc Bgu.out 1).trans rfl; have hy2 := (zkc Bgu.out 2).trans rfl) | (go_at_call 102; (first | (with_reducible refine (C1.out false _ HB.out CA.out).mono ?_) | (with_reducible refine (C3.out false _ HB.out CB.out).mono ?_) | (with_reducible refine (contains_gauge gl A0 c0 l0 _ HL.out HP.out Bgl.out (Kd.C_below HR.out HB.out)).mono ?_)); rintro e w3 ⟨rfl, hb1⟩; have m0_ := zam (zkb Bgl.out hb1); have m1_ := zam (zkb Bgu.out hb1); have mb_ := zam (zbt HB.out hb1); clear Bgl Bgu HB hb1 hz0 hy0 hy1 hy2; have Bgl := m0_; have Bgu := m1_; have HB := mb_; clear m0_ m1_ mb_; have hz0 := (zkc Bgl.out 0).trans rfl; have hy0 := (zkc Bgu.out 0).trans rfl; have hy1 := (zkc Bgu.out 1).trans rfl; have hy2 := (zkc Bgu.out 2).trans rfl; skip; (try rw [HD.out])) | (go_at_call 72; (with_reducible refine (sound_between.calls a1_0 1 1073741824 true _ CZ.out).mono ?_); rintro e w3 ⟨rfl, ⟨nz, rfl⟩⟩; have m0_ := zam (zkn Bgl.out nz); have m1_ := zam (zkn Bgu.out nz); have mb_ := zam (zbn HB.out nz); clear Bgl Bgu HB hz0 hy0 hy1 hy2; have Bgl := m0_; have Bgu := m1_; have HB := mb_; clear m0_ m1_ mb_; have hz0 := (zkc Bgl.out 0).trans rfl; have hy0 := (zkc Bgu.out 0).trans rfl; have hy1 := (zkc Bgu.out 1).trans rfl; have hy2 := (zkc Bgu.out 2).trans rfl; skip))
     go_ret
     exact ⟨rfl, HB.out⟩
    rw [if_neg y1] at h
    have y1b : decide (256 < a1_1) = false := zdf (by omega)
    have y1c : decide (a1_1 > 256) = false := zdf (by omega)
    clear y1
    by_cases y2 : a1_2 < 1
    ·rw [if_pos y2, Option.some.injEq] at h
     subst h
     have y2b : decide (a1_2 < 1) = true := zdt (by omega)
     have y2c : decide (1 > a1_2) = true := zdt (by omega)
     clear y2
     go_enter Try.func61, Try.ntmps61
     go_wp2_with (first | ((with_reducible refine zgd (N := 2) rfl ?_); refine box_event ?hg (N := 2) ?hd (cs := #[.slice A0 l0.length c0]) (t := 37) ?hr ?_; (case hd => rfl); (case hg => rfl); (case hr => first | (go_simp; done) | (go_simp; rfl)); intro gl hgn_ wqgl hbk hb0; have HB := zam hb0; have Ggl : Aside0 (w.heap.size ≤ gl) := ⟨by rw [hgn_]; exact Nat.le_refl _⟩; have Bgl := zam hbk; clear hgn_ hbk hb0) | ((with_reducible refine zgd (N := 3) rfl ?_); refine box_event ?hg (N := 3) ?hd (cs := #[.int .i64 a1_0, .int .i64 a1_1, .int .i64 a1_2]) (t := 39) ?hr ?_; (case hd => rfl); (case hg => rfl); (case hr => first | (go_simp; done) | (go_simp; rfl)); intro gu hgn_ wqgu hbk hb0; have m0_ := zam (zkb Bgl.out hb0); have Ggu : Aside0 (w.heap.size ≤ gu) := ⟨by rw [hgn_]; exact HB.out.size⟩; have mb_ := zam (zbt HB.out hb0); clear HB; have HB := mb_; clear mb_; have Bgu := zam hbk; clear hgn_ hbk hb0 Bgl; have Bgl := m0_; clear m0_; have hz0 := (zkc Bgl.out 0).trans rfl; have hy0 := (zkc Bgu.out 0).trans rfl; have hy1 := (zkc Bgu.out 1).trans rfl; have hy2 := (zkc Bgu.out 2).trans rfl) | (go_at_call 102; (first | (with_reducible refine (C1.out false _ HB.out CA.out).mono ?_) | (with_reducible refine (C3.out false _ HB.out CB.out).mono ?_) | (with_reducible refine (contains_gauge gl A0 c0 l0 _ HL.out HP.out Bgl.out (Kd.C_below HR.out HB.out)).mono ?_)); rintro e w3 ⟨rfl, hb1⟩; have m0_ := zam (zkb Bgl.out hb1); have m1_ := zam (zkb Bgu.out hb1); have mb_ := zam (zbt HB.out hb1); clear Bgl Bgu HB hb1 hz0 hy0 hy1 hy2; have Bgl := m0_; have Bgu := m1_; have HB := mb_; clear m0_ m1_ mb_; have hz0 := (zkc Bgl.out 0).trans rfl; have hy0 := (zkc Bgu.out 0).trans rfl; have hy1 := (zkc Bgu.out 1).trans rfl; have hy2 := (zkc Bgu.out 2).trans rfl; skip; (try rw [HD.out])) | (go_at_call 72; (with_reducible refine (sound_between.calls a1_0 1 1073741824 true _ CZ.out).mono ?_); rintro e w3 ⟨rfl, ⟨nz, rfl⟩⟩; have m0_ := zam (zkn Bgl.out nz); have m1_ := zam (zkn Bgu.out nz); have mb_ := zam (zbn HB.out nz); clear Bgl Bgu HB hz0 hy0 hy1 hy2; have Bgl := m0_; have Bgu := m1_; have HB := mb_; clear m0_ m1_ mb_; have hz0 := (zkc Bgl.out 0).trans rfl; have hy0 := (zkc Bgu.out 0).trans rfl; have hy1 := (zkc Bgu.out 1).trans rfl; have hy2 := (zkc Bgu.out 2).trans rfl; skip))
     go_ret
     exact ⟨rfl, HB.out⟩
    rw [if_neg y2] at h
    have y2b : decide (a1_2 < 1) = false := zdf (by omega)
    have y2c : decide (1 > a1_2) = false := zdf (by omega)
    clear y2
    by_cases y3 : 16 < a1_2
    ·rw [if_pos y3, Option.some.injEq] at h
     subst h
     have y3b : decide (16 < a1_2) = true := zdt (by omega)
     have y3c : decide (a1_2 > 16) = true := zdt (by omega)
     clear y3
     go_enter Try.func61, Try.ntmps61
     go_wp2_with (first | ((with_reducible refine zgd (N := 2) rfl ?_); refine box_event ?hg (N := 2) ?hd (cs := #[.slice A0 l0.length c0]) (t := 37) ?hr ?_; (case hd => rfl); (case hg => rfl); (case hr => first | (go_simp; done) | (go_simp; rfl)); intro gl hgn_ wqgl hbk hb0; have HB := zam hb0; have Ggl : Aside0 (w.heap.size ≤ gl) := ⟨by rw [hgn_]; exact Nat.le_refl _⟩; have Bgl := zam hbk; clear hgn_ hbk hb0) | ((with_reducible refine zgd (N := 3) rfl ?_); refine box_event ?hg (N := 3) ?hd (cs := #[.int .i64 a1_0, .int .i64 a1_1, .int .i64 a1_2]) (t := 39) ?hr ?_; (case hd => rfl); (case hg => rfl); (case hr => first | (go_simp; done) | (go_simp; rfl)); intro gu hgn_ wqgu hbk hb0; have m0_ := zam (zkb Bgl.out hb0); have Ggu : Aside0 (w.heap.size ≤ gu) := ⟨by rw [hgn_]; exact HB.out.size⟩; have mb_ := zam (zbt HB.out hb0); clear HB; have HB := mb_; clear mb_; have Bgu := zam hbk; clear hgn_ hbk hb0 Bgl; have Bgl := m0_; clear m0_; have hz0 := (zkc Bgl.out 0).trans rfl; have hy0 := (zkc Bgu.out 0).trans rfl; have hy1 := (zkc Bgu.out 1).trans rfl; have hy2 := (zkc Bgu.out 2).trans rfl) | (go_at_call 102; (first | (with_reducible refine (C1.out false _ HB.out CA.out).mono ?_) | (with_reducible refine (C3.out false _ HB.out CB.out).mono ?_) | (with_reducible refine (contains_gauge gl A0 c0 l0 _ HL.out HP.out Bgl.out (Kd.C_below HR.out HB.out)).mono ?_)); rintro e w3 ⟨rfl, hb1⟩; have m0_ := zam (zkb Bgl.out hb1); have m1_ := zam (zkb Bgu.out hb1); have mb_ := zam (zbt HB.out hb1); clear Bgl Bgu HB hb1 hz0 hy0 hy1 hy2; have Bgl := m0_; have Bgu := m1_; have HB := mb_; clear m0_ m1_ mb_; have hz0 := (zkc Bgl.out 0).trans rfl; have hy0 := (zkc Bgu.out 0).trans rfl; have hy1 := (zkc Bgu.out 1).trans rfl; have hy2 := (zkc Bgu.out 2).trans rfl; skip; (try rw [HD.out])) | (go_at_call 72; (with_reducible refine (sound_between.calls a1_0 1 1073741824 true _ CZ.out).mono ?_); rintro e w3 ⟨rfl, ⟨nz, rfl⟩⟩; have m0_ := zam (zkn Bgl.out nz); have m1_ := zam (zkn Bgu.out nz); have mb_ := zam (zbn HB.out nz); clear Bgl Bgu HB hz0 hy0 hy1 hy2; have Bgl := m0_; have Bgu := m1_; have HB := mb_; clear m0_ m1_ mb_; have hz0 := (zkc Bgl.out 0).trans rfl; have hy0 := (zkc Bgu.out 0).trans rfl; have hy1 := (zkc Bgu.out 1).trans rfl; have hy2 := (zkc Bgu.out 2).trans rfl; skip))
     go_ret
     exact ⟨rfl, HB.out⟩
    rw [if_neg y3] at h
    have y3b : decide (16 < a1_2) = false := zdf (by omega)
    have y3c : decide (a1_2 > 16) = false := zdf (by omega)
    clear y3
    rw [Option.some.injEq] at h
    subst h
    go_enter Try.func61, Try.ntmps61
    go_wp2_with (first | ((with_reducible refine zgd (N := 2) rfl ?_); refine box_event ?hg (N := 2) ?hd (cs := #[.slice A0 l0.length c0]) (t := 37) ?hr ?_; (case hd => rfl); (case hg => rfl); (case hr => first | (go_simp; done) | (go_simp; rfl)); intro gl hgn_ wqgl hbk hb0; have HB := zam hb0; have Ggl : Aside0 (w.heap.size ≤ gl) := ⟨by rw [hgn_]; exact Nat.le_refl _⟩; have Bgl := zam hbk; clear hgn_ hbk hb0) | ((with_reducible refine zgd (N := 3) rfl ?_); refine box_event ?hg (N := 3) ?hd (cs := #[.int .i64 a1_0, .int .i64 a1_1, .int .i64 a1_2]) (t := 39) ?hr ?_; (case hd => rfl); (case hg => rfl); (case hr => first | (go_simp; done) | (go_simp; rfl)); intro gu hgn_ wqgu hbk hb0; have m0_ := zam (zkb Bgl.out hb0); have Ggu : Aside0 (w.heap.size ≤ gu) := ⟨by rw [hgn_]; exact HB.out.size⟩; have mb_ := zam (zbt HB.out hb0); clear HB; have HB := mb_; clear mb_; have Bgu := zam hbk; clear hgn_ hbk hb0 Bgl; have Bgl := m0_; clear m0_; have hz0 := (zkc Bgl.out 0).trans rfl; have hy0 := (zkc Bgu.out 0).trans rfl; have hy1 := (zkc Bgu.out 1).trans rfl; have hy2 := (zkc Bgu.out 2).trans rfl) | (go_at_call 102; (first | (with_reducible refine (C1.out false _ HB.out CA.out).mono ?_) | (with_reducible refine (C3.out false _ HB.out CB.out).mono ?_) | (with_reducible refine (contains_gauge gl A0 c0 l0 _ HL.out HP.out Bgl.out (Kd.C_below HR.out HB.out)).mono ?_)); rintro e w3 ⟨rfl, hb1⟩; have m0_ := zam (zkb Bgl.out hb1); have m1_ := zam (zkb Bgu.out hb1); have mb_ := zam (zbt HB.out hb1); clear Bgl Bgu HB hb1 hz0 hy0 hy1 hy2; have Bgl := m0_; have Bgu := m1_; have HB := mb_; clear m0_ m1_ mb_; have hz0 := (zkc Bgl.out 0).trans rfl; have hy0 := (zkc Bgu.out 0).trans rfl; have hy1 := (zkc Bgu.out 1).trans rfl; have hy2 := (zkc Bgu.out 2).trans rfl; skip; (try rw [HD.out])) | (go_at_call 72; (with_reducible refine (sound_between.calls a1_0 1 1073741824 true _ CZ.out).mono ?_); rintro e w3 ⟨rfl, ⟨nz, rfl⟩⟩; have m0_ := zam (zkn Bgl.out nz); have m1_ := zam (zkn Bgu.out nz); have mb_ := zam (zbn HB.out nz); clear Bgl Bgu HB hz0 hy0 hy1 hy2; have Bgl := m0_; have Bgu := m1_; have HB := mb_; clear m0_ m1_ mb_; have hz0 := (zkc Bgl.out 0).trans rfl; have hy0 := (zkc Bgu.out 0).trans rfl; have hy1 := (zkc Bgu.out 1).trans rfl; have hy2 := (zkc Bgu.out 2).trans rfl; skip))
    go_ret
    exact ⟨rfl, HB.out⟩
def sound_First.f (k : Nat) (l0 : List (S45)) (a1_0 : Int) (a1_1 : Int) (a1_2 : Int) : Option (Int × Int × Int) := (sound_checkGauges.f k l0 a1_0 a1_1 a1_2).bind fun t102 => (if t102 = 0 then ((sound_alarm.f k l0 a1_0 a1_1 a1_2).bind fun t103 => ((api_Answer_63.f k t103 2).bind fun t106 => (if t106 < 0 then (some (0, 0, 5)) else ((slices_IndexFunc_Answer_sound_First_1.f k t103).bind fun t107 => (some (t106, t107, 0)))))) else (some (0, 0, t102)))
theorem sound_First.mono : ∀ a0 a1 a2 a3 k, LeO (sound_First.f k a0 a1 a2 a3) (sound_First.f (k + 1) a0 a1 a2 a3) := by
 intro a0 a1 a2 a3 k
 unfold sound_First.f
 repeat' first
   | (with_reducible exact api_Answer_63.mono _ _ _)
   | (with_reducible exact slices_IndexFunc_Answer_sound_First_1.mono _ _)
   | (with_reducible exact sound_alarm.mono _ _ _ _ _)
   | (with_reducible exact sound_checkGauges.mono _ _ _ _ _)
   | (with_reducible exact LeO.refl _)
   | (with_reducible exact LeO.none _)
   | (with_reducible refine LeO.ite ?_ ?_)
   | (with_reducible refine LeO.bind ?_ (fun _ => ?_))
   | exact api_Answer_63.mono _ _ _
   | exact slices_IndexFunc_Answer_sound_First_1.mono _ _
   | exact sound_alarm.mono _ _ _ _ _
   | exact sound_checkGauges.mono _ _ _ _ _
   | exact LeO.none _
   | refine LeO.ite ?_ ?_
   | refine LeO.bind ?_ (fun _ => ?_)
set_option maxHeartbeats 8000000 in
set_option maxRecDepth 100000 in
theorem sound_First.calls (k : Nat) (A0 : Option Addr) (c0 : Nat) (l0 : List (S45)) (a1_0 : Int) (a1_1 : Int) (a1_2 : Int) (r1 : Int) (r2 : Int) (r3 : Int) (w : World) (hr0 : Kd.C k45 w A0 l0.length l0) (hc0 : l0.length ≤ c0) (h : sound_First.f k l0 a1_0 a1_1 a1_2 = some (r1, r2, r3)) :
  Calls Try.prog 23 #[.slice A0 l0.length c0, .agg #[.int .i64 a1_0, .int .i64 a1_1, .int .i64 a1_2]] w fun e w' => e = .returned (.tuple #[.int .i64 r1, .int .i64 r2, .int .i64 r3]) ∧ Below w.heap.size w w' := by
 have hu39 := Try.underlying39
 have HR0 := zam hr0
 have HC0 := zam hc0
 clear hr0 hc0
 have HB := zam (Below.refl w.heap.size w)
 have H : ((sound_checkGauges.f k l0 a1_0 a1_1 a1_2).bind fun t102 => (if t102 = 0 then ((sound_alarm.f k l0 a1_0 a1_1 a1_2).bind fun t103 => ((api_Answer_63.f k t103 2).bind fun t106 => (if t106 < 0 then (some (0, 0, 5)) else ((slices_IndexFunc_Answer_sound_First_1.f k t103).bind fun t107 => (some (t106, t107, 0)))))) else (some (0, 0, t102)))) = some (r1, r2, r3) := h
 clear h
 replace H := Option.bind_eq_some_iff.mp H
 obtain ⟨t102, A30, H⟩ := H
 replace H : (if t102 = 0 then ((sound_alarm.f k l0 a1_0 a1_1 a1_2).bind fun t103 => ((api_Answer_63.f k t103 2).bind fun t106 => (if t106 < 0 then (some (0, 0, 5)) else ((slices_IndexFunc_Answer_sound_First_1.f k t103).bind fun t107 => (some (t106, t107, 0)))))) else (some (0, 0, t102))) = some (r1, r2, r3) := H
 have A3 := zam A30
 clear A30
 by_cases c4 : t102 = 0
 ·rw [if_pos c4] at H
  have c4b0 : (t102 == 0) = true := beq_iff_eq.mpr c4
  have c4b1 : (t102 != 0) = false := bne_eq_false_iff_eq.mpr c4
  clear c4
  replace H := Option.bind_eq_some_iff.mp H
  obtain ⟨t103, A50, H⟩ := H
  replace H : ((api_Answer_63.f k t103 2).bind fun t106 => (if t106 < 0 then (some (0, 0, 5)) else ((slices_IndexFunc_Answer_sound_First_1.f k t103).bind fun t107 => (some (t106, t107, 0))))) = some (r1, r2, r3) := H
  have A5 := zam A50
  clear A50
  replace H := Option.bind_eq_some_iff.mp H
  obtain ⟨t106, A60, H⟩ := H
  replace H : (if t106 < 0 then (some (0, 0, 5)) else ((slices_IndexFunc_Answer_sound_First_1.f k t103).bind fun t107 => (some (t106, t107, 0)))) = some (r1, r2, r3) := H
  have A6 := zam A60
  clear A60
  by_cases c7 : t106 < 0
  ·rw [if_pos c7] at H
   have c7b0 : decide (t106 < 0) = true := zdt c7
   clear c7
   simp only [Option.some.injEq, Prod.mk.injEq] at H
   obtain ⟨rfl, rfl, rfl⟩ := H
   go_enter Try.func23, Try.ntmps23
   go_wp2_with (first | ((with_reducible refine zgd (N := 3) rfl ?_); refine box_event ?hg (N := 3) ?hd (cs := #[.int .i64 a1_0, .int .i64 a1_1, .int .i64 a1_2]) (t := 39) ?hr ?_; (case hd => rfl); (case hg => rfl); (case hr => first | (go_simp; done) | (go_simp; rfl)); intro gb101 hg w8 hbox hb; have n0_ := zam (zbt (by repeat (first | (with_reducible first | exact HB.out | apply zba | apply zbn | apply zb1) | exact HB.out)) hb); have n1_ := zam (hbox); have n2_ := zam ((by rw [hg]; exact (zbz (by repeat (first | (with_reducible first | exact HB.out | apply zba | apply zbn | apply zb1) | exact HB.out))) : w.heap.size ≤ gb101)); have n3_ := zam ((by rw [hg]; exact (zbz (by repeat (first | (with_reducible first | exact HB.out | apply zba | apply zbn | apply zb1) | exact HB.out))) : w.heap.size ≤ gb101)); clear HB; have HB := n0_; have BK101 := n1_; have GW101 := n2_; have GE101 := n3_; clear n0_ n1_ n2_ n3_; clear hb hbox hg; have hcz9_0 : w8.cell? ⟨gb101, 0, none⟩ = some (.int .i64 a1_0) := (zkc BK101.out 0).trans rfl; have hcz9_1 : w8.cell? ⟨gb101, 1, none⟩ = some (.int .i64 a1_1) := (zkc BK101.out 1).trans rfl; have hcz9_2 : w8.cell? ⟨gb101, 2, none⟩ = some (.int .i64 a1_2) := (zkc BK101.out 2).trans rfl; have hfz9_0 := zkz BK101.out 0; have hfz9_1 := zkz BK101.out 1; have hfz9_2 := zkz BK101.out 2) | ((with_reducible refine zgc (f := 61) rfl ?_); refine goesL_ (some 12) rfl rfl Try.func61 (by kernel_rfl) rfl #[.slice A0 l0.length c0, .agg #[.int .i64 a1_0, .int .i64 a1_1, .int .i64 a1_2]] rfl (by (try simp only [zmt, List.map_cons, List.map_nil]); first | done | rfl | (simp only [zld, zlt]; rfl)) ?_; (with_reducible refine (sound_checkGauges.calls k _ _ l0 a1_0 a1_1 a1_2 t102 _ ?side1 ?side2 A3.out).mono ?_); (case side1 => repeat (first | exact (Kd.C_below HR0.out HB.out) | (with_reducible refine Kd.C_alloc ?_ _) | (with_reducible refine Kd.C_drewN ?_ _) | (with_reducible refine Kd.C_drew ?_))); (case side2 => exact HC0.out); rintro e w10 ⟨rfl, hb⟩; refine ⟨_, rfl, ?_⟩; have n0_ := zam (zkb (g := gb101) (o := .cells #[.int .i64 a1_0, .int .i64 a1_1, .int .i64 a1_2] 39 (0, 0)) (by (with_reducible repeat (first | refine zkn ?_ _ | refine zkd ?_ | refine zka ?_ _)); exact BK101.out) hb); have n1_ := zam (zbt (by repeat (first | (with_reducible first | exact HB.out | apply zba | apply zbn | apply zb1 | refine zbs ?_ GE101.out) | exact HB.out)) hb); clear BK101; clear HB; have BK101 := n0_; have HB := n1_; clear n0_ n1_; (try clear hb); (try clear hb2); (try clear hk); (try clear hi); have hcz11_0 : w10.cell? ⟨gb101, 0, none⟩ = some (.int .i64 a1_0) := (zkc BK101.out 0).trans rfl; have hcz11_1 : w10.cell? ⟨gb101, 1, none⟩ = some (.int .i64 a1_1) := (zkc BK101.out 1).trans rfl; have hcz11_2 : w10.cell? ⟨gb101, 2, none⟩ = some (.int .i64 a1_2) := (zkc BK101.out 2).trans rfl; have hfz11_0 := zkz BK101.out 0; have hfz11_1 := zkz BK101.out 1; have hfz11_2 := zkz BK101.out 2) | ((with_reducible refine zgc (f := 62) rfl ?_); refine goesL_ (some 18) rfl rfl Try.func62 (by kernel_rfl) rfl #[.slice A0 l0.length c0, .agg #[.int .i64 a1_0, .int .i64 a1_1, .int .i64 a1_2]] rfl (by (try simp only [zmt, List.map_cons, List.map_nil]); first | done | rfl | (simp only [zld, zlt]; rfl)) ?_; (with_reducible refine (sound_alarm.calls k _ _ l0 a1_0 a1_1 a1_2 t103 _ ?side1 ?side2 A5.out).mono ?_); (case side1 => repeat (first | exact (Kd.C_below HR0.out HB.out) | (with_reducible refine Kd.C_alloc ?_ _) | (with_reducible refine Kd.C_drewN ?_ _) | (with_reducible refine Kd.C_drew ?_))); (case side2 => exact HC0.out); rintro e w12 ⟨v104, rfl, ho0, hb⟩; refine ⟨_, rfl, ?_⟩; have n0_ := zam (Kd.R_lower ho0 (zbz (by repeat (first | (with_reducible first | exact HB.out | apply zba | apply zbn | apply zb1 | refine zbs ?_ GE101.out) | exact HB.out)))); have n1_ := zam (zkb (g := gb101) (o := .cells #[.int .i64 a1_0, .int .i64 a1_1, .int .i64 a1_2] 39 (0, 0)) (by (with_reducible repeat (first | refine zkn ?_ _ | refine zkd ?_ | refine zka ?_ _)); exact BK101.out) hb); have n2_ := zam (zbt (by repeat (first | (with_reducible first | exact HB.out | apply zba | apply zbn | apply zb1 | refine zbs ?_ GE101.out) | exact HB.out)) hb); clear BK101; clear HB; have HO105 := n0_; have BK101 := n1_; have HB := n2_; clear n0_ n1_ n2_; (try clear hb); (try clear hb2); (try clear hk); (try clear hi); (try clear ho0); obtain ⟨Ao13, co13, eo13⟩ := Kd.R_slice HO105.out; subst eo13) | ((with_reducible refine zgc (f := 63) rfl ?_); refine goesL_ (some 20) rfl rfl Try.func63 (by kernel_rfl) rfl #[.slice Ao13 t103.length co13, .int .i64 2] rfl (by (try simp only [zmt, List.map_cons, List.map_nil]); first | done | rfl | (simp only [zld, zlt]; rfl)) ?_; (with_reducible refine (api_Answer_63.calls k _ _ t103 2 t106 _ ?side1 ?side2 A6.out).mono ?_); (case side1 => repeat (first | exact (Kd.R_reads' HO105.out).2.2 | (with_reducible refine Kd.C_alloc ?_ _) | (with_reducible refine Kd.C_drewN ?_ _) | (with_reducible refine Kd.C_drew ?_))); (case side2 => exact (Kd.R_reads' HO105.out).2.1); rintro e w' ⟨rfl, ⟨nd, rfl⟩⟩; refine ⟨_, rfl, ?_⟩))
   go_ret3
   exact ⟨by first | rfl | (simp [errW_none, errW_some] <;> rfl) | (simp [*, errW_none, errW_some] <;> rfl), by repeat (first | (with_reducible first | exact HB.out | apply zba | apply zbn | apply zb1 | refine zbs ?_ GE101.out) | exact HB.out)⟩
  rw [if_neg c7] at H
  have c7b0 : decide (t106 < 0) = false := zdf c7
  clear c7
  replace H := Option.bind_eq_some_iff.mp H
  obtain ⟨t107, A140, H⟩ := H
  replace H : (some (t106, t107, 0)) = some (r1, r2, r3) := H
  have A14 := zam A140
  clear A140
  simp only [Option.some.injEq, Prod.mk.injEq] at H
  obtain ⟨rfl, rfl, rfl⟩ := H
  go_enter Try.func23, Try.ntmps23
  go_wp2_with (first | ((with_reducible refine zgd (N := 3) rfl ?_); refine box_event ?hg (N := 3) ?hd (cs := #[.int .i64 a1_0, .int .i64 a1_1, .int .i64 a1_2]) (t := 39) ?hr ?_; (case hd => rfl); (case hg => rfl); (case hr => first | (go_simp; done) | (go_simp; rfl)); intro gb101 hg w15 hbox hb; have n0_ := zam (zbt (by repeat (first | (with_reducible first | exact HB.out | apply zba | apply zbn | apply zb1) | exact HB.out)) hb); have n1_ := zam (hbox); have n2_ := zam ((by rw [hg]; exact (zbz (by repeat (first | (with_reducible first | exact HB.out | apply zba | apply zbn | apply zb1) | exact HB.out))) : w.heap.size ≤ gb101)); have n3_ := zam ((by rw [hg]; exact (zbz (by repeat (first | (with_reducible first | exact HB.out | apply zba | apply zbn | apply zb1) | exact HB.out))) : w.heap.size ≤ gb101)); clear HB; have HB := n0_; have BK101 := n1_; have GW101 := n2_; have GE101 := n3_; clear n0_ n1_ n2_ n3_; clear hb hbox hg; have hcz16_0 : w15.cell? ⟨gb101, 0, none⟩ = some (.int .i64 a1_0) := (zkc BK101.out 0).trans rfl; have hcz16_1 : w15.cell? ⟨gb101, 1, none⟩ = some (.int .i64 a1_1) := (zkc BK101.out 1).trans rfl; have hcz16_2 : w15.cell? ⟨gb101, 2, none⟩ = some (.int .i64 a1_2) := (zkc BK101.out 2).trans rfl; have hfz16_0 := zkz BK101.out 0; have hfz16_1 := zkz BK101.out 1; have hfz16_2 := zkz BK101.out 2) | ((with_reducible refine zgc (f := 61) rfl ?_); refine goesL_ (some 12) rfl rfl Try.func61 (by kernel_rfl) rfl #[.slice A0 l0.length c0, .agg #[.int .i64 a1_0, .int .i64 a1_1, .int .i64 a1_2]] rfl (by (try simp only [zmt, List.map_cons, List.map_nil]); first | done | rfl | (simp only [zld, zlt]; rfl)) ?_; (with_reducible refine (sound_checkGauges.calls k _ _ l0 a1_0 a1_1 a1_2 t102 _ ?side1 ?side2 A3.out).mono ?_); (case side1 => repeat (first | exact (Kd.C_below HR0.out HB.out) | (with_reducible refine Kd.C_alloc ?_ _) | (with_reducible refine Kd.C_drewN ?_ _) | (with_reducible refine Kd.C_drew ?_))); (case side2 => exact HC0.out); rintro e w17 ⟨rfl, hb⟩; refine ⟨_, rfl, ?_⟩; have n0_ := zam (zkb (g := gb101) (o := .cells #[.int .i64 a1_0, .int .i64 a1_1, .int .i64 a1_2] 39 (0, 0)) (by (with_reducible repeat (first | refine zkn ?_ _ | refine zkd ?_ | refine zka ?_ _)); exact BK101.out) hb); have n1_ := zam (zbt (by repeat (first | (with_reducible first | exact HB.out | apply zba | apply zbn | apply zb1 | refine zbs ?_ GE101.out) | exact HB.out)) hb); clear BK101; clear HB; have BK101 := n0_; have HB := n1_; clear n0_ n1_; (try clear hb); (try clear hb2); (try clear hk); (try clear hi); have hcz18_0 : w17.cell? ⟨gb101, 0, none⟩ = some (.int .i64 a1_0) := (zkc BK101.out 0).trans rfl; have hcz18_1 : w17.cell? ⟨gb101, 1, none⟩ = some (.int .i64 a1_1) := (zkc BK101.out 1).trans rfl; have hcz18_2 : w17.cell? ⟨gb101, 2, none⟩ = some (.int .i64 a1_2) := (zkc BK101.out 2).trans rfl; have hfz18_0 := zkz BK101.out 0; have hfz18_1 := zkz BK101.out 1; have hfz18_2 := zkz BK101.out 2) | ((with_reducible refine zgc (f := 62) rfl ?_); refine goesL_ (some 18) rfl rfl Try.func62 (by kernel_rfl) rfl #[.slice A0 l0.length c0, .agg #[.int .i64 a1_0, .int .i64 a1_1, .int .i64 a1_2]] rfl (by (try simp only [zmt, List.map_cons, List.map_nil]); first | done | rfl | (simp only [zld, zlt]; rfl)) ?_; (with_reducible refine (sound_alarm.calls k _ _ l0 a1_0 a1_1 a1_2 t103 _ ?side1 ?side2 A5.out).mono ?_); (case side1 => repeat (first | exact (Kd.C_below HR0.out HB.out) | (with_reducible refine Kd.C_alloc ?_ _) | (with_reducible refine Kd.C_drewN ?_ _) | (with_reducible refine Kd.C_drew ?_))); (case side2 => exact HC0.out); rintro e w19 ⟨v104, rfl, ho0, hb⟩; refine ⟨_, rfl, ?_⟩; have n0_ := zam (Kd.R_lower ho0 (zbz (by repeat (first | (with_reducible first | exact HB.out | apply zba | apply zbn | apply zb1 | refine zbs ?_ GE101.out) | exact HB.out)))); have n1_ := zam (zkb (g := gb101) (o := .cells #[.int .i64 a1_0, .int .i64 a1_1, .int .i64 a1_2] 39 (0, 0)) (by (with_reducible repeat (first | refine zkn ?_ _ | refine zkd ?_ | refine zka ?_ _)); exact BK101.out) hb); have n2_ := zam (zbt (by repeat (first | (with_reducible first | exact HB.out | apply zba | apply zbn | apply zb1 | refine zbs ?_ GE101.out) | exact HB.out)) hb); clear BK101; clear HB; have HO105 := n0_; have BK101 := n1_; have HB := n2_; clear n0_ n1_ n2_; (try clear hb); (try clear hb2); (try clear hk); (try clear hi); (try clear ho0); obtain ⟨Ao20, co20, eo20⟩ := Kd.R_slice HO105.out; subst eo20) | ((with_reducible refine zgc (f := 63) rfl ?_); refine goesL_ (some 20) rfl rfl Try.func63 (by kernel_rfl) rfl #[.slice Ao20 t103.length co20, .int .i64 2] rfl (by (try simp only [zmt, List.map_cons, List.map_nil]); first | done | rfl | (simp only [zld, zlt]; rfl)) ?_; (with_reducible refine (api_Answer_63.calls k _ _ t103 2 t106 _ ?side1 ?side2 A6.out).mono ?_); (case side1 => repeat (first | exact (Kd.R_reads' HO105.out).2.2 | (with_reducible refine Kd.C_alloc ?_ _) | (with_reducible refine Kd.C_drewN ?_ _) | (with_reducible refine Kd.C_drew ?_))); (case side2 => exact (Kd.R_reads' HO105.out).2.1); rintro e w' ⟨rfl, ⟨nd, rfl⟩⟩; refine ⟨_, rfl, ?_⟩) | ((with_reducible refine zgc (f := 64) rfl ?_); refine goesL_ (some 25) rfl rfl Try.func64 (by kernel_rfl) rfl #[.slice Ao20 t103.length co20, .func (.func 65) #[] #[]] rfl (by (try simp only [zmt, List.map_cons, List.map_nil]); first | done | rfl | (simp only [zld, zlt]; rfl)) ?_; (with_reducible refine (slices_IndexFunc_Answer_sound_First_1.calls k _ _ t103  t107 _ ?side1 ?side2 A14.out).mono ?_); (case side1 => repeat (first | exact (Kd.R_reads' HO105.out).2.2 | (with_reducible refine Kd.C_alloc ?_ _) | (with_reducible refine Kd.C_drewN ?_ _) | (with_reducible refine Kd.C_drew ?_))); (case side2 => exact (Kd.R_reads' HO105.out).2.1); rintro e w' ⟨rfl, ⟨nd, rfl⟩⟩; refine ⟨_, rfl, ?_⟩))
  go_ret3
  exact ⟨by first | rfl | (simp [errW_none, errW_some] <;> rfl) | (simp [*, errW_none, errW_some] <;> rfl), by repeat (first | (with_reducible first | exact HB.out | apply zba | apply zbn | apply zb1 | refine zbs ?_ GE101.out) | exact HB.out)⟩
 rw [if_neg c4] at H
 have c4b0 : (t102 == 0) = false := beq_eq_false_iff_ne.mpr c4
 have c4b1 : (t102 != 0) = true := bne_iff_ne.mpr c4
 simp only [Option.some.injEq, Prod.mk.injEq] at H
 obtain ⟨rfl, rfl, rfl⟩ := H
 go_enter Try.func23, Try.ntmps23
 go_wp2_with (first | ((with_reducible refine zgd (N := 3) rfl ?_); refine box_event ?hg (N := 3) ?hd (cs := #[.int .i64 a1_0, .int .i64 a1_1, .int .i64 a1_2]) (t := 39) ?hr ?_; (case hd => rfl); (case hg => rfl); (case hr => first | (go_simp; done) | (go_simp; rfl)); intro gb101 hg w21 hbox hb; have n0_ := zam (zbt (by repeat (first | (with_reducible first | exact HB.out | apply zba | apply zbn | apply zb1) | exact HB.out)) hb); have n1_ := zam (hbox); have n2_ := zam ((by rw [hg]; exact (zbz (by repeat (first | (with_reducible first | exact HB.out | apply zba | apply zbn | apply zb1) | exact HB.out))) : w.heap.size ≤ gb101)); have n3_ := zam ((by rw [hg]; exact (zbz (by repeat (first | (with_reducible first | exact HB.out | apply zba | apply zbn | apply zb1) | exact HB.out))) : w.heap.size ≤ gb101)); clear HB; have HB := n0_; have BK101 := n1_; have GW101 := n2_; have GE101 := n3_; clear n0_ n1_ n2_ n3_; clear hb hbox hg; have hcz22_0 : w21.cell? ⟨gb101, 0, none⟩ = some (.int .i64 a1_0) := (zkc BK101.out 0).trans rfl; have hcz22_1 : w21.cell? ⟨gb101, 1, none⟩ = some (.int .i64 a1_1) := (zkc BK101.out 1).trans rfl; have hcz22_2 : w21.cell? ⟨gb101, 2, none⟩ = some (.int .i64 a1_2) := (zkc BK101.out 2).trans rfl; have hfz22_0 := zkz BK101.out 0; have hfz22_1 := zkz BK101.out 1; have hfz22_2 := zkz BK101.out 2) | ((with_reducible refine zgc (f := 61) rfl ?_); refine goesL_ (some 12) rfl rfl Try.func61 (by kernel_rfl) rfl #[.slice A0 l0.length c0, .agg #[.int .i64 a1_0, .int .i64 a1_1, .int .i64 a1_2]] rfl (by (try simp only [zmt, List.map_cons, List.map_nil]); first | done | rfl | (simp only [zld, zlt]; rfl)) ?_; (with_reducible refine (sound_checkGauges.calls k _ _ l0 a1_0 a1_1 a1_2 t102 _ ?side1 ?side2 A3.out).mono ?_); (case side1 => repeat (first | exact (Kd.C_below HR0.out HB.out) | (with_reducible refine Kd.C_alloc ?_ _) | (with_reducible refine Kd.C_drewN ?_ _) | (with_reducible refine Kd.C_drew ?_))); (case side2 => exact HC0.out); rintro e w23 ⟨rfl, hb⟩; refine ⟨_, rfl, ?_⟩; have n0_ := zam (zkb (g := gb101) (o := .cells #[.int .i64 a1_0, .int .i64 a1_1, .int .i64 a1_2] 39 (0, 0)) (by (with_reducible repeat (first | refine zkn ?_ _ | refine zkd ?_ | refine zka ?_ _)); exact BK101.out) hb); have n1_ := zam (zbt (by repeat (first | (with_reducible first | exact HB.out | apply zba | apply zbn | apply zb1 | refine zbs ?_ GE101.out) | exact HB.out)) hb); clear BK101; clear HB; have BK101 := n0_; have HB := n1_; clear n0_ n1_; (try clear hb); (try clear hb2); (try clear hk); (try clear hi)))
 go_ret3
 exact ⟨by first | rfl | (simp [errW_none, errW_some] <;> rfl) | (simp [*, errW_none, errW_some] <;> rfl), by repeat (first | (with_reducible first | exact HB.out | apply zba | apply zbn | apply zb1 | refine zbs ?_ GE101.out) | exact HB.out)⟩
def bound_amount.f (a0 : Int) : Option (Int) := some (mx a0 (wrap64 (-a0)))
set_option maxHeartbeats 8000000 in
set_option maxRecDepth 100000 in
theorem bound_amount.calls (a0 : Int) (r : Int) (w : World) (h : bound_amount.f a0 = some r) :
  Calls Try.prog 118 #[.int .i64 a0] w fun e w' => e = .returned (.int .i64 r) ∧ Below w.heap.size w w' := by
 have HB := zam (Below.refl w.heap.size w)
 have H : (some (mx a0 (wrap64 (-a0)))) = some r := h
 clear h
 obtain ⟨ji2, hji2⟩ : ∃ j_ : Int, (mx a0 (wrap64 (-a0))) = j_ := ⟨_, rfl⟩
 replace H : (some ji2) = some r := by first | (rw [hji2] at H; exact H) | (simp only [hji2] at H ⊢; exact H)
 have hji2_ : (if a0 < (wrap64 (-a0)) then (wrap64 (-a0)) else a0) = ji2 := hji2
 obtain rfl := zsi H
 go_enter Try.func118, Try.ntmps118
 go_wp2
 go_ret
 exact ⟨by first | rfl | (simp [errW_none, errW_some] <;> rfl) | (simp only [← hji2]; first | rfl | (simp [errW_none, errW_some] <;> rfl)) | (simp [*, errW_none, errW_some] <;> rfl), by repeat (first | (with_reducible first | exact HB.out | apply zba | apply zbn | apply zb1) | exact HB.out)⟩
def bound_CheckBox.f (k : Nat) (a0_0 : Int) (a0_1 : Int) (a0_2 : Int) (a0_3 : Int) : Option (Int) := (bound_check.f k (([(⟨a0_0, a0_1⟩ : S24), (⟨a0_2, a0_3⟩ : S24)] : List (S24)))).bind fun t105 => (if t105 = 0 then ((bound_amount.f a0_0).bind fun t106 => ((bound_amount.f a0_1).bind fun t107 => ((bound_amount.f a0_2).bind fun t108 => ((bound_amount.f a0_3).bind fun t109 => (if (mx (mx (mx t106 t107) t108) t109) > 268435456 then (some 2) else (some 0)))))) else (some t105))
def bound_CheckBox.T4 : Bool × List (List Nat × List Nat) := (true, [([], []), ([0], [0]), ([1], [1]), ([2], [2]), ([], []), ([4], [4]), ([5], [5]), ([6, 3], [6]), ([], []), ([8], [8]), ([9], [9]), ([10, 7], [10]), ([], []), ([12], [12]), ([13], [13]), ([14, 11], [14]), ([3, 7, 11, 15], [3, 7, 11, 15]), ([16], [16])])
def bound_CheckBox.B4 : List Nat := [0, 1, 3, 7, 0, 16, 48, 127, 0, 256, 768, 2047, 0, 4096, 12288, 32767, 65535, 131071]
theorem bound_CheckBox.tab4 : rtab .any (opsOf Try.f79 4) = bound_CheckBox.T4 := by kernel_rfl
theorem bound_CheckBox.bits4 : waitsOk bound_CheckBox.T4.2 bound_CheckBox.B4 = true := by kernel_rfl
set_option maxHeartbeats 8000000 in
set_option maxRecDepth 100000 in
theorem bound_CheckBox.calls (k : Nat) (a0_0 : Int) (a0_1 : Int) (a0_2 : Int) (a0_3 : Int) (r : Int) (w : World) (h : bound_CheckBox.f k a0_0 a0_1 a0_2 a0_3 = some r) :
  Calls Try.prog 79 #[.agg #[.int .i64 a0_0, .int .i64 a0_1, .int .i64 a0_2, .int .i64 a0_3]] w fun e w' => e = .returned (.int .i64 r) ∧ Below w.heap.size w w' := by
 have hu29 := Try.underlying29
 have hu24 := Try.underlying24
 have HB := zam (Below.refl w.heap.size w)
 have H : ((bound_check.f k (([(⟨a0_0, a0_1⟩ : S24), (⟨a0_2, a0_3⟩ : S24)] : List (S24)))).bind fun t105 => (if t105 = 0 then ((bound_amount.f a0_0).bind fun t106 => ((bound_amount.f a0_1).bind fun t107 => ((bound_amount.f a0_2).bind fun t108 => ((bound_amount.f a0_3).bind fun t109 => (if (mx (mx (mx t106 t107) t108) t109) > 268435456 then (some 2) else (some 0)))))) else (some t105))) = some r := h
 clear h
 obtain ⟨y102, hy102⟩ : ∃ y_ : List (S24), y_ = (([(⟨a0_0, a0_1⟩ : S24), (⟨a0_2, a0_3⟩ : S24)] : List (S24))) := ⟨_, rfl⟩
 replace H : ((bound_check.f k y102).bind fun t105 => (if t105 = 0 then ((bound_amount.f a0_0).bind fun t106 => ((bound_amount.f a0_1).bind fun t107 => ((bound_amount.f a0_2).bind fun t108 => ((bound_amount.f a0_3).bind fun t109 => (if (mx (mx (mx t106 t107) t108) t109) > 268435456 then (some 2) else (some 0)))))) else (some t105))) = some r := by first | (rw [hy102]; with_reducible exact H) | (have H2_ := (Option.bind_some _ _).symm.trans H; rw [hy102]; with_reducible exact H2_) | (have H2_ := (Option.bind_some _ _).symm.trans H; with_reducible exact H2_) | with_reducible exact H | (rw [hy102]; exact H) | exact H
 have Ny102 := zam hy102
 clear hy102
 replace H := Option.bind_eq_some_iff.mp H
 obtain ⟨t105, A20, H⟩ := H
 replace H : (if t105 = 0 then ((bound_amount.f a0_0).bind fun t106 => ((bound_amount.f a0_1).bind fun t107 => ((bound_amount.f a0_2).bind fun t108 => ((bound_amount.f a0_3).bind fun t109 => (if (mx (mx (mx t106 t107) t108) t109) > 268435456 then (some 2) else (some 0)))))) else (some t105)) = some r := H
 have A2 := zam A20
 clear A20
 by_cases c3 : t105 = 0
 ·rw [if_pos c3] at H
  have c3b0 : (t105 == 0) = true := beq_iff_eq.mpr c3
  have c3b1 : (t105 != 0) = false := bne_eq_false_iff_eq.mpr c3
  clear c3
  replace H := Option.bind_eq_some_iff.mp H
  obtain ⟨t106, A40, H⟩ := H
  replace H : ((bound_amount.f a0_1).bind fun t107 => ((bound_amount.f a0_2).bind fun t108 => ((bound_amount.f a0_3).bind fun t109 => (if (mx (mx (mx t106 t107) t108) t109) > 268435456 then (some 2) else (some 0))))) = some r := H
  have A4 := zam A40
  clear A40
  replace H := Option.bind_eq_some_iff.mp H
  obtain ⟨t107, A50, H⟩ := H
  replace H : ((bound_amount.f a0_2).bind fun t108 => ((bound_amount.f a0_3).bind fun t109 => (if (mx (mx (mx t106 t107) t108) t109) > 268435456 then (some 2) else (some 0)))) = some r := H
  have A5 := zam A50
  clear A50
  replace H := Option.bind_eq_some_iff.mp H
  obtain ⟨t108, A60, H⟩ := H
  replace H : ((bound_amount.f a0_3).bind fun t109 => (if (mx (mx (mx t106 t107) t108) t109) > 268435456 then (some 2) else (some 0))) = some r := H
  have A6 := zam A60
  clear A60
  replace H := Option.bind_eq_some_iff.mp H
  obtain ⟨t109, A70, H⟩ := H
  replace H : (if (mx (mx (mx t106 t107) t108) t109) > 268435456 then (some 2) else (some 0)) = some r := H
  have A7 := zam A70
  clear A70
  obtain ⟨ji8, hji8⟩ : ∃ j_ : Int, (mx t106 t107) = j_ := ⟨_, rfl⟩
  replace H : (if (mx (mx (ji8) t108) t109) > 268435456 then (some 2) else (some 0)) = some r := by first | (rw [hji8] at H; exact H) | (simp only [hji8] at H ⊢; exact H)
  (try rw [hji8] at A2)
  (try rw [hji8] at A4)
  (try rw [hji8] at A5)
  (try rw [hji8] at A6)
  (try rw [hji8] at A7)
  have hji8_ : (if t106 < t107 then t107 else t106) = ji8 := hji8
  obtain ⟨ji9, hji9⟩ : ∃ j_ : Int, (mx (ji8) t108) = j_ := ⟨_, rfl⟩
  replace H : (if (mx (ji9) t109) > 268435456 then (some 2) else (some 0)) = some r := by first | (rw [hji9] at H; exact H) | (simp only [hji9] at H ⊢; exact H)
  (try rw [hji9] at A2)
  (try rw [hji9] at A4)
  (try rw [hji9] at A5)
  (try rw [hji9] at A6)
  (try rw [hji9] at A7)
  have hji9_ : (if (ji8) < t108 then t108 else (ji8)) = ji9 := hji9
  obtain ⟨ji10, hji10⟩ : ∃ j_ : Int, (mx (ji9) t109) = j_ := ⟨_, rfl⟩
  replace H : (if (ji10) > 268435456 then (some 2) else (some 0)) = some r := by first | (rw [hji10] at H; exact H) | (simp only [hji10] at H ⊢; exact H)
  (try rw [hji10] at A2)
  (try rw [hji10] at A4)
  (try rw [hji10] at A5)
  (try rw [hji10] at A6)
  (try rw [hji10] at A7)
  have hji10_ : (if (ji9) < t109 then t109 else (ji9)) = ji10 := hji10
  by_cases c11 : (ji10) > 268435456
  ·rw [if_pos c11] at H
   have c11b0 : decide (268435456 < (ji10)) = true := zdt c11
   clear c11
   obtain rfl := zsi H
   go_enter Try.func79, Try.ntmps79
   try go_wp2_with (first | ((with_reducible refine zgd (N := 1) rfl ?_); refine box_event ?hg (N := 1) ?hd (cs := #[.int .i64 a0_0, .int .i64 a0_1, .int .i64 a0_2, .int .i64 a0_3]) (t := 29) ?hr ?_; (case hd => rfl); (case hg => rfl); (case hr => first | (go_simp; done) | (go_simp; rfl)); intro gb101 hg w12 hbox hb; have n0_ := zam (zbt (by repeat (first | (with_reducible first | exact HB.out | apply zba | apply zbn | apply zb1) | exact HB.out)) hb); have n1_ := zam (hbox); have n2_ := zam ((by rw [hg]; exact (zbz (by repeat (first | (with_reducible first | exact HB.out | apply zba | apply zbn | apply zb1) | exact HB.out))) : w.heap.size ≤ gb101)); have n3_ := zam ((by rw [hg]; exact (zbz (by repeat (first | (with_reducible first | exact HB.out | apply zba | apply zbn | apply zb1) | exact HB.out))) : w.heap.size ≤ gb101)); clear HB; have HB := n0_; have BK101 := n1_; have GW101 := n2_; have GE101 := n3_; clear n0_ n1_ n2_ n3_; clear hb hbox hg; have hcz13_0 : w12.cell? ⟨gb101, 0, none⟩ = some (.int .i64 a0_0) := (zkc BK101.out 0).trans rfl; have hcz13_1 : w12.cell? ⟨gb101, 1, none⟩ = some (.int .i64 a0_1) := (zkc BK101.out 1).trans rfl; have hcz13_2 : w12.cell? ⟨gb101, 2, none⟩ = some (.int .i64 a0_2) := (zkc BK101.out 2).trans rfl; have hcz13_3 : w12.cell? ⟨gb101, 3, none⟩ = some (.int .i64 a0_3) := (zkc BK101.out 3).trans rfl; have hfz13_0 := zkz BK101.out 0; have hfz13_1 := zkz BK101.out 1; have hfz13_2 := zkz BK101.out 2; have hfz13_3 := zkz BK101.out 3) | ((with_reducible refine zgd (N := 8) rfl ?_); refine Kd.R_lit k24 _ 24 ?hg (N := 8) ?hd (xs := ([(⟨a0_0, a0_1⟩ : S24), (⟨a0_2, a0_3⟩ : S24)] : List (S24))) (inner := [.int .i64 a0_0, .int .i64 a0_1, .int .i64 a0_2, .int .i64 a0_3]) (ok := fun _ => True) (okp := fun _ => True) ?hr ?hp (fun _ hk => hk) trivial (Below.refl _ _) (Nat.le_refl _) (by simp) ?_; (case hd => rfl); (case hg => rfl); (case hr => first | (go_simp; done) | (go_simp; rfl)); (case hp => exact (Reps.c2 (show Kd.M k24 _ _ _ (⟨a0_0, a0_1⟩ : S24) [.int .i64 a0_0, .int .i64 a0_1] from (k24_mkM _ _ _ (⟨a0_0, a0_1⟩ : S24) )) (Reps.c2 (show Kd.M k24 _ _ _ (⟨a0_2, a0_3⟩ : S24) [.int .i64 a0_2, .int .i64 a0_3] from (k24_mkM _ _ _ (⟨a0_2, a0_3⟩ : S24) )) (Reps.none _ _)))); intro v103 w14 ho15 hb hg_ hnew_; clear hg_ hnew_; (first | rw [← Ny102.out] at ho15 | (simp only [Int.reduceToNat] at ho15; rw [← Ny102.out] at ho15)); have n0_ := zam (Kd.R_lower ho15 (zbz (by repeat (first | (with_reducible first | exact HB.out | apply zba | apply zbn | apply zb1 | refine zbs ?_ GE101.out) | exact HB.out)))); have n1_ := zam (zkb (g := gb101) (o := .cells #[.int .i64 a0_0, .int .i64 a0_1, .int .i64 a0_2, .int .i64 a0_3] 29 (0, 0)) (by (with_reducible repeat (first | refine zkn ?_ _ | refine zkd ?_ | refine zka ?_ _)); exact BK101.out) hb); have n2_ := zam (zbt (by repeat (first | (with_reducible first | exact HB.out | apply zba | apply zbn | apply zb1 | refine zbs ?_ GE101.out) | exact HB.out)) hb); clear BK101; clear HB; have HO104 := n0_; have BK101 := n1_; have HB := n2_; clear n0_ n1_ n2_; clear hb ho15; obtain ⟨Ao16, co16, eo16⟩ := Kd.R_slice HO104.out; subst eo16) | ((with_reducible refine zgc (f := 117) rfl ?_); refine goesL_ (some 9) rfl rfl Try.func117 (by kernel_rfl) rfl #[.slice Ao16 y102.length co16] rfl (by (try simp only [zmt, List.map_cons, List.map_nil]); first | done | rfl | (simp only [zld, zlt]; rfl)) ?_; (with_reducible refine (bound_check.calls k _ _ y102 t105 _ ?side1 ?side2 A2.out).mono ?_); (case side1 => repeat (first | exact (Kd.R_reads' HO104.out).2.2 | (with_reducible refine Kd.C_alloc ?_ _) | (with_reducible refine Kd.C_drewN ?_ _) | (with_reducible refine Kd.C_drew ?_))); (case side2 => exact (Kd.R_reads' HO104.out).2.1); rintro e w17 ⟨rfl, hb⟩; refine ⟨_, rfl, ?_⟩; have n0_ := zam (Kd.R_below (by (with_reducible repeat (first | apply zRa | apply zRn | apply zRd)); exact HO104.out) hb); have n1_ := zam (zkb (g := gb101) (o := .cells #[.int .i64 a0_0, .int .i64 a0_1, .int .i64 a0_2, .int .i64 a0_3] 29 (0, 0)) (by (with_reducible repeat (first | refine zkn ?_ _ | refine zkd ?_ | refine zka ?_ _)); exact BK101.out) hb); have n2_ := zam (zbt (by repeat (first | (with_reducible first | exact HB.out | apply zba | apply zbn | apply zb1 | refine zbs ?_ GE101.out) | exact HB.out)) hb); clear HO104; clear BK101; clear HB; have HO104 := n0_; have BK101 := n1_; have HB := n2_; clear n0_ n1_ n2_; (try clear hb); (try clear hb2); (try clear hk); (try clear hi)))
   have n0_ := zam (zRd HO104.out)
   have n1_ := zam (zkd BK101.out)
   have n2_ := zam (zb1 HB.out)
   clear HO104
   clear BK101
   clear HB
   have HO104 := n0_
   have BK101 := n1_
   have HB := n2_
   clear n0_ n1_ n2_
   refine start_ (n := 18) (S := fun w' => w'.cell? ⟨gb101, 0, none⟩ = some (.int .i64 a0_0) ∧ w'.cell? ⟨gb101, 1, none⟩ = some (.int .i64 a0_1) ∧ w'.cell? ⟨gb101, 2, none⟩ = some (.int .i64 a0_2) ∧ w'.cell? ⟨gb101, 3, none⟩ = some (.int .i64 a0_3)) (ds := []) #[false, false, false, false, false, false, false, false, false, false, false, false, false, false, false, false, false, false] (by kernel_rfl) rfl rfl ⟨(zkc BK101.out 0).trans rfl, (zkc BK101.out 1).trans rfl, (zkc BK101.out 2).trans rfl, (zkc BK101.out 3).trans rfl⟩ (fun hHeld => ?_); refine with_tabW bound_CheckBox.tab4 bound_CheckBox.bits4 (fun HT_ HW_ => ?_)
   generalize w17.drew = w18 at HO104 BK101 HB hHeld ⊢
   refine pure_ (i := 0) (N := some 13) (v := ?_) (a' := ?_) #[true, false, false, false, false, false, false, false, false, false, false, false, false, false, false, false, false, false] rfl rfl (any_of HT_.out (by kernel_rfl)) (fun _ _ _ h => h) (Or.inl ⟨by rfl, ?_⟩) ?_ ?_
   rotate_left
   ·intro w'
    go_simp
    with_reducible rfl
   rotate_left
   ·simp only [Act.put, zsa, zsz, zss, i64_w, i32_w]
    rfl
   refine pure_ (i := 1) (N := some 14) (v := ?_) (a' := ?_) #[true, true, false, false, false, false, false, false, false, false, false, false, false, false, false, false, false, false] rfl rfl (any_of HT_.out (by kernel_rfl)) (fun _ _ _ h => h) (Or.inl ⟨by rfl, ?_⟩) ?_ ?_
   rotate_left
   ·intro w'
    go_simp
    with_reducible rfl
   rotate_left
   ·simp only [Act.put, zsa, zsz, zss, i64_w, i32_w]
    rfl
   refine pure_ (i := 4) (N := some 17) (v := ?_) (a' := ?_) #[true, true, false, false, true, false, false, false, false, false, false, false, false, false, false, false, false, false] rfl rfl (any_of HT_.out (by kernel_rfl)) (fun _ _ _ h => h) (Or.inl ⟨by rfl, ?_⟩) ?_ ?_
   rotate_left
   ·intro w'
    go_simp
    with_reducible rfl
   rotate_left
   ·simp only [Act.put, zsa, zsz, zss, i64_w, i32_w]
    rfl
   refine pure_ (i := 5) (N := some 18) (v := ?_) (a' := ?_) #[true, true, false, false, true, true, false, false, false, false, false, false, false, false, false, false, false, false] rfl rfl (any_of HT_.out (by kernel_rfl)) (fun _ _ _ h => h) (Or.inl ⟨by rfl, ?_⟩) ?_ ?_
   rotate_left
   ·intro w'
    go_simp
    with_reducible rfl
   rotate_left
   ·simp only [Act.put, zsa, zsz, zss, i64_w, i32_w]
    rfl
   refine pure_ (i := 8) (N := some 21) (v := ?_) (a' := ?_) #[true, true, false, false, true, true, false, false, true, false, false, false, false, false, false, false, false, false] rfl rfl (any_of HT_.out (by kernel_rfl)) (fun _ _ _ h => h) (Or.inl ⟨by rfl, ?_⟩) ?_ ?_
   rotate_left
   ·intro w'
    go_simp
    with_reducible rfl
   rotate_left
   ·simp only [Act.put, zsa, zsz, zss, i64_w, i32_w]
    rfl
   refine pure_ (i := 9) (N := some 22) (v := ?_) (a' := ?_) #[true, true, false, false, true, true, false, false, true, true, false, false, false, false, false, false, false, false] rfl rfl (any_of HT_.out (by kernel_rfl)) (fun _ _ _ h => h) (Or.inl ⟨by rfl, ?_⟩) ?_ ?_
   rotate_left
   ·intro w'
    go_simp
    with_reducible rfl
   rotate_left
   ·simp only [Act.put, zsa, zsz, zss, i64_w, i32_w]
    rfl
   refine pure_ (i := 12) (N := some 25) (v := ?_) (a' := ?_) #[true, true, false, false, true, true, false, false, true, true, false, false, true, false, false, false, false, false] rfl rfl (any_of HT_.out (by kernel_rfl)) (fun _ _ _ h => h) (Or.inl ⟨by rfl, ?_⟩) ?_ ?_
   rotate_left
   ·intro w'
    go_simp
    with_reducible rfl
   rotate_left
   ·simp only [Act.put, zsa, zsz, zss, i64_w, i32_w]
    rfl
   refine pure_ (i := 13) (N := some 26) (v := ?_) (a' := ?_) #[true, true, false, false, true, true, false, false, true, true, false, false, true, true, false, false, false, false] rfl rfl (any_of HT_.out (by kernel_rfl)) (fun _ _ _ h => h) (Or.inl ⟨by rfl, ?_⟩) ?_ ?_
   rotate_left
   ·intro w'
    go_simp
    with_reducible rfl
   rotate_left
   ·simp only [Act.put, zsa, zsz, zss, i64_w, i32_w]
    rfl
   refine take_ (i := 2) (N := some 15) (v := ?_) (a' := ?_) #[true, true, true, false, true, true, false, false, true, true, false, false, true, true, false, false, false, false] rfl rfl (take_ofW HT_.out HW_.out (by kernel_rfl)) (fun _ _ _ h => h) (Or.inl ⟨by rfl, ?_⟩) hHeld ?_ ?_
   rotate_left
   ·rintro w' ⟨s0, s1, s2, s3⟩
    go_simp
    with_reducible rfl
   rotate_left
   ·simp only [Act.put, zsa, zsz, zss, i64_w, i32_w]
    rfl
   refine take_ (i := 6) (N := some 19) (v := ?_) (a' := ?_) #[true, true, true, false, true, true, true, false, true, true, false, false, true, true, false, false, false, false] rfl rfl (take_ofW HT_.out HW_.out (by kernel_rfl)) (fun _ _ _ h => h) (Or.inl ⟨by rfl, ?_⟩) hHeld ?_ ?_
   rotate_left
   ·rintro w' ⟨s0, s1, s2, s3⟩
    go_simp
    with_reducible rfl
   rotate_left
   ·simp only [Act.put, zsa, zsz, zss, i64_w, i32_w]
    rfl
   refine take_ (i := 10) (N := some 23) (v := ?_) (a' := ?_) #[true, true, true, false, true, true, true, false, true, true, true, false, true, true, false, false, false, false] rfl rfl (take_ofW HT_.out HW_.out (by kernel_rfl)) (fun _ _ _ h => h) (Or.inl ⟨by rfl, ?_⟩) hHeld ?_ ?_
   rotate_left
   ·rintro w' ⟨s0, s1, s2, s3⟩
    go_simp
    with_reducible rfl
   rotate_left
   ·simp only [Act.put, zsa, zsz, zss, i64_w, i32_w]
    rfl
   refine take_ (i := 14) (N := some 27) (v := ?_) (a' := ?_) #[true, true, true, false, true, true, true, false, true, true, true, false, true, true, true, false, false, false] rfl rfl (take_ofW HT_.out HW_.out (by kernel_rfl)) (fun _ _ _ h => h) (Or.inl ⟨by rfl, ?_⟩) hHeld ?_ ?_
   rotate_left
   ·rintro w' ⟨s0, s1, s2, s3⟩
    go_simp
    with_reducible rfl
   rotate_left
   ·simp only [Act.put, zsa, zsz, zss, i64_w, i32_w]
    rfl
   refine one_ (i := 3) (N := some 16) #[true, true, true, true, true, true, true, false, true, true, true, false, true, true, true, false, false, false] rfl rfl (one_of HT_.out (by kernel_rfl)) (by decide) (fun K hK => ?_)
   refine goes_ Try.func118 (by kernel_rfl) rfl #[.int .i64 a0_0] (by rfl) rfl rfl (by (try simp only [zmt, List.map_cons, List.map_nil]); first | done | rfl | (simp only [zld, zlt]; rfl)) ?_
   with_reducible refine (bound_amount.calls a0_0 t106 _ A4.out).mono ?_
   rintro e w19 ⟨rfl, hb⟩
   refine ⟨_, rfl, ?_⟩
   have n0_ := zam (Kd.R_below (by (with_reducible repeat (first | apply zRa | apply zRn | apply zRd)); exact HO104.out) hb)
   have n1_ := zam (zkb (g := gb101) (o := .cells #[.int .i64 a0_0, .int .i64 a0_1, .int .i64 a0_2, .int .i64 a0_3] 29 (0, 0)) (by (with_reducible repeat (first | refine zkn ?_ _ | refine zkd ?_ | refine zka ?_ _)); exact BK101.out) hb)
   have n2_ := zam (zbt (by repeat (first | (with_reducible first | exact HB.out | apply zba | apply zbn | apply zb1 | refine zbs ?_ GE101.out) | exact HB.out)) hb)
   clear HO104
   clear BK101
   clear HB
   have HO104 := n0_
   have BK101 := n1_
   have HB := n2_
   clear n0_ n1_ n2_
   (try clear hb)
   (try clear hb2)
   (try clear hk)
   (try clear hi)
   refine hK.out _ _ ⟨(zkc BK101.out 0).trans rfl, (zkc BK101.out 1).trans rfl, (zkc BK101.out 2).trans rfl, (zkc BK101.out 3).trans rfl⟩ (fun hHeld => ?_)
   clear hK K
   refine norm_ (a' := ?_) ?_ ?_
   rotate_left
   ·show Act.put _ (some 16) _ = _
    simp only [Act.put, zsa, zsz, zss, i64_w, i32_w]
    rfl
   refine one_ (i := 7) (N := some 20) #[true, true, true, true, true, true, true, true, true, true, true, false, true, true, true, false, false, false] rfl rfl (one_of HT_.out (by kernel_rfl)) (by decide) (fun K hK => ?_)
   refine goes_ Try.func118 (by kernel_rfl) rfl #[.int .i64 a0_1] (by rfl) rfl rfl (by (try simp only [zmt, List.map_cons, List.map_nil]); first | done | rfl | (simp only [zld, zlt]; rfl)) ?_
   with_reducible refine (bound_amount.calls a0_1 t107 _ A5.out).mono ?_
   rintro e w20 ⟨rfl, hb⟩
   refine ⟨_, rfl, ?_⟩
   have n0_ := zam (Kd.R_below (by (with_reducible repeat (first | apply zRa | apply zRn | apply zRd)); exact HO104.out) hb)
   have n1_ := zam (zkb (g := gb101) (o := .cells #[.int .i64 a0_0, .int .i64 a0_1, .int .i64 a0_2, .int .i64 a0_3] 29 (0, 0)) (by (with_reducible repeat (first | refine zkn ?_ _ | refine zkd ?_ | refine zka ?_ _)); exact BK101.out) hb)
   have n2_ := zam (zbt (by repeat (first | (with_reducible first | exact HB.out | apply zba | apply zbn | apply zb1 | refine zbs ?_ GE101.out) | exact HB.out)) hb)
   clear HO104
   clear BK101
   clear HB
   have HO104 := n0_
   have BK101 := n1_
   have HB := n2_
   clear n0_ n1_ n2_
   (try clear hb)
   (try clear hb2)
   (try clear hk)
   (try clear hi)
   refine hK.out _ _ ⟨(zkc BK101.out 0).trans rfl, (zkc BK101.out 1).trans rfl, (zkc BK101.out 2).trans rfl, (zkc BK101.out 3).trans rfl⟩ (fun hHeld => ?_)
   clear hK K
   refine norm_ (a' := ?_) ?_ ?_
   rotate_left
   ·show Act.put _ (some 20) _ = _
    simp only [Act.put, zsa, zsz, zss, i64_w, i32_w]
    rfl
   refine one_ (i := 11) (N := some 24) #[true, true, true, true, true, true, true, true, true, true, true, true, true, true, true, false, false, false] rfl rfl (one_of HT_.out (by kernel_rfl)) (by decide) (fun K hK => ?_)
   refine goes_ Try.func118 (by kernel_rfl) rfl #[.int .i64 a0_2] (by rfl) rfl rfl (by (try simp only [zmt, List.map_cons, List.map_nil]); first | done | rfl | (simp only [zld, zlt]; rfl)) ?_
   with_reducible refine (bound_amount.calls a0_2 t108 _ A6.out).mono ?_
   rintro e w21 ⟨rfl, hb⟩
   refine ⟨_, rfl, ?_⟩
   have n0_ := zam (Kd.R_below (by (with_reducible repeat (first | apply zRa | apply zRn | apply zRd)); exact HO104.out) hb)
   have n1_ := zam (zkb (g := gb101) (o := .cells #[.int .i64 a0_0, .int .i64 a0_1, .int .i64 a0_2, .int .i64 a0_3] 29 (0, 0)) (by (with_reducible repeat (first | refine zkn ?_ _ | refine zkd ?_ | refine zka ?_ _)); exact BK101.out) hb)
   have n2_ := zam (zbt (by repeat (first | (with_reducible first | exact HB.out | apply zba | apply zbn | apply zb1 | refine zbs ?_ GE101.out) | exact HB.out)) hb)
   clear HO104
   clear BK101
   clear HB
   have HO104 := n0_
   have BK101 := n1_
   have HB := n2_
   clear n0_ n1_ n2_
   (try clear hb)
   (try clear hb2)
   (try clear hk)
   (try clear hi)
   refine hK.out _ _ ⟨(zkc BK101.out 0).trans rfl, (zkc BK101.out 1).trans rfl, (zkc BK101.out 2).trans rfl, (zkc BK101.out 3).trans rfl⟩ (fun hHeld => ?_)
   clear hK K
   refine norm_ (a' := ?_) ?_ ?_
   rotate_left
   ·show Act.put _ (some 24) _ = _
    simp only [Act.put, zsa, zsz, zss, i64_w, i32_w]
    rfl
   refine one_ (i := 15) (N := some 28) #[true, true, true, true, true, true, true, true, true, true, true, true, true, true, true, true, false, false] rfl rfl (one_of HT_.out (by kernel_rfl)) (by decide) (fun K hK => ?_)
   refine goes_ Try.func118 (by kernel_rfl) rfl #[.int .i64 a0_3] (by rfl) rfl rfl (by (try simp only [zmt, List.map_cons, List.map_nil]); first | done | rfl | (simp only [zld, zlt]; rfl)) ?_
   with_reducible refine (bound_amount.calls a0_3 t109 _ A7.out).mono ?_
   rintro e w22 ⟨rfl, hb⟩
   refine ⟨_, rfl, ?_⟩
   have n0_ := zam (Kd.R_below (by (with_reducible repeat (first | apply zRa | apply zRn | apply zRd)); exact HO104.out) hb)
   have n1_ := zam (zkb (g := gb101) (o := .cells #[.int .i64 a0_0, .int .i64 a0_1, .int .i64 a0_2, .int .i64 a0_3] 29 (0, 0)) (by (with_reducible repeat (first | refine zkn ?_ _ | refine zkd ?_ | refine zka ?_ _)); exact BK101.out) hb)
   have n2_ := zam (zbt (by repeat (first | (with_reducible first | exact HB.out | apply zba | apply zbn | apply zb1 | refine zbs ?_ GE101.out) | exact HB.out)) hb)
   clear HO104
   clear BK101
   clear HB
   have HO104 := n0_
   have BK101 := n1_
   have HB := n2_
   clear n0_ n1_ n2_
   (try clear hb)
   (try clear hb2)
   (try clear hk)
   (try clear hi)
   refine hK.out _ _ ⟨(zkc BK101.out 0).trans rfl, (zkc BK101.out 1).trans rfl, (zkc BK101.out 2).trans rfl, (zkc BK101.out 3).trans rfl⟩ (fun hHeld => ?_)
   clear hK K
   refine norm_ (a' := ?_) ?_ ?_
   rotate_left
   ·show Act.put _ (some 28) _ = _
    simp only [Act.put, zsa, zsz, zss, i64_w, i32_w]
    rfl
   refine pure_ (i := 16) (N := some 29) (v := ?_) (a' := ?_) #[true, true, true, true, true, true, true, true, true, true, true, true, true, true, true, true, true, false] rfl rfl (any_of HT_.out (by kernel_rfl)) (fun _ _ _ h => h) (Or.inl ⟨by rfl, ?_⟩) ?_ ?_
   rotate_left
   ·intro w'
    go_simp
    with_reducible rfl
   rotate_left
   ·simp only [Act.put, zsa, zsz, zss, i64_w, i32_w]
    rfl
   refine pure_ (i := 17) (N := some 30) (v := ?_) (a' := ?_) #[true, true, true, true, true, true, true, true, true, true, true, true, true, true, true, true, true, true] rfl rfl (any_of HT_.out (by kernel_rfl)) (fun _ _ _ h => h) (Or.inl ⟨by rfl, ?_⟩) ?_ ?_
   rotate_left
   ·intro w'
    go_simp
    with_reducible rfl
   rotate_left
   ·simp only [Act.put, zsa, zsz, zss, i64_w, i32_w]
    rfl
   refine done_ (done_of HT_.out (by kernel_rfl)) ?_
   try go_wp2
   go_ret
   exact ⟨by first | rfl | (simp [errW_none, errW_some] <;> rfl) | (simp only [← hji8, ← hji9, ← hji10]; first | rfl | (simp [errW_none, errW_some] <;> rfl)) | (simp [*, errW_none, errW_some] <;> rfl), by repeat (first | (with_reducible first | exact HB.out | apply zba | apply zbn | apply zb1 | refine zbs ?_ GE101.out) | exact HB.out)⟩
  rw [if_neg c11] at H
  have c11b0 : decide (268435456 < (ji10)) = false := zdf c11
  clear c11
  obtain rfl := zsi H
  go_enter Try.func79, Try.ntmps79
  try go_wp2_with (first | ((with_reducible refine zgd (N := 1) rfl ?_); refine box_event ?hg (N := 1) ?hd (cs := #[.int .i64 a0_0, .int .i64 a0_1, .int .i64 a0_2, .int .i64 a0_3]) (t := 29) ?hr ?_; (case hd => rfl); (case hg => rfl); (case hr => first | (go_simp; done) | (go_simp; rfl)); intro gb101 hg w23 hbox hb; have n0_ := zam (zbt (by repeat (first | (with_reducible first | exact HB.out | apply zba | apply zbn | apply zb1) | exact HB.out)) hb); have n1_ := zam (hbox); have n2_ := zam ((by rw [hg]; exact (zbz (by repeat (first | (with_reducible first | exact HB.out | apply zba | apply zbn | apply zb1) | exact HB.out))) : w.heap.size ≤ gb101)); have n3_ := zam ((by rw [hg]; exact (zbz (by repeat (first | (with_reducible first | exact HB.out | apply zba | apply zbn | apply zb1) | exact HB.out))) : w.heap.size ≤ gb101)); clear HB; have HB := n0_; have BK101 := n1_; have GW101 := n2_; have GE101 := n3_; clear n0_ n1_ n2_ n3_; clear hb hbox hg; have hcz24_0 : w23.cell? ⟨gb101, 0, none⟩ = some (.int .i64 a0_0) := (zkc BK101.out 0).trans rfl; have hcz24_1 : w23.cell? ⟨gb101, 1, none⟩ = some (.int .i64 a0_1) := (zkc BK101.out 1).trans rfl; have hcz24_2 : w23.cell? ⟨gb101, 2, none⟩ = some (.int .i64 a0_2) := (zkc BK101.out 2).trans rfl; have hcz24_3 : w23.cell? ⟨gb101, 3, none⟩ = some (.int .i64 a0_3) := (zkc BK101.out 3).trans rfl; have hfz24_0 := zkz BK101.out 0; have hfz24_1 := zkz BK101.out 1; have hfz24_2 := zkz BK101.out 2; have hfz24_3 := zkz BK101.out 3) | ((with_reducible refine zgd (N := 8) rfl ?_); refine Kd.R_lit k24 _ 24 ?hg (N := 8) ?hd (xs := ([(⟨a0_0, a0_1⟩ : S24), (⟨a0_2, a0_3⟩ : S24)] : List (S24))) (inner := [.int .i64 a0_0, .int .i64 a0_1, .int .i64 a0_2, .int .i64 a0_3]) (ok := fun _ => True) (okp := fun _ => True) ?hr ?hp (fun _ hk => hk) trivial (Below.refl _ _) (Nat.le_refl _) (by simp) ?_; (case hd => rfl); (case hg => rfl); (case hr => first | (go_simp; done) | (go_simp; rfl)); (case hp => exact (Reps.c2 (show Kd.M k24 _ _ _ (⟨a0_0, a0_1⟩ : S24) [.int .i64 a0_0, .int .i64 a0_1] from (k24_mkM _ _ _ (⟨a0_0, a0_1⟩ : S24) )) (Reps.c2 (show Kd.M k24 _ _ _ (⟨a0_2, a0_3⟩ : S24) [.int .i64 a0_2, .int .i64 a0_3] from (k24_mkM _ _ _ (⟨a0_2, a0_3⟩ : S24) )) (Reps.none _ _)))); intro v103 w25 ho26 hb hg_ hnew_; clear hg_ hnew_; (first | rw [← Ny102.out] at ho26 | (simp only [Int.reduceToNat] at ho26; rw [← Ny102.out] at ho26)); have n0_ := zam (Kd.R_lower ho26 (zbz (by repeat (first | (with_reducible first | exact HB.out | apply zba | apply zbn | apply zb1 | refine zbs ?_ GE101.out) | exact HB.out)))); have n1_ := zam (zkb (g := gb101) (o := .cells #[.int .i64 a0_0, .int .i64 a0_1, .int .i64 a0_2, .int .i64 a0_3] 29 (0, 0)) (by (with_reducible repeat (first | refine zkn ?_ _ | refine zkd ?_ | refine zka ?_ _)); exact BK101.out) hb); have n2_ := zam (zbt (by repeat (first | (with_reducible first | exact HB.out | apply zba | apply zbn | apply zb1 | refine zbs ?_ GE101.out) | exact HB.out)) hb); clear BK101; clear HB; have HO104 := n0_; have BK101 := n1_; have HB := n2_; clear n0_ n1_ n2_; clear hb ho26; obtain ⟨Ao27, co27, eo27⟩ := Kd.R_slice HO104.out; subst eo27) | ((with_reducible refine zgc (f := 117) rfl ?_); refine goesL_ (some 9) rfl rfl Try.func117 (by kernel_rfl) rfl #[.slice Ao27 y102.length co27] rfl (by (try simp only [zmt, List.map_cons, List.map_nil]); first | done | rfl | (simp only [zld, zlt]; rfl)) ?_; (with_reducible refine (bound_check.calls k _ _ y102 t105 _ ?side1 ?side2 A2.out).mono ?_); (case side1 => repeat (first | exact (Kd.R_reads' HO104.out).2.2 | (with_reducible refine Kd.C_alloc ?_ _) | (with_reducible refine Kd.C_drewN ?_ _) | (with_reducible refine Kd.C_drew ?_))); (case side2 => exact (Kd.R_reads' HO104.out).2.1); rintro e w28 ⟨rfl, hb⟩; refine ⟨_, rfl, ?_⟩; have n0_ := zam (Kd.R_below (by (with_reducible repeat (first | apply zRa | apply zRn | apply zRd)); exact HO104.out) hb); have n1_ := zam (zkb (g := gb101) (o := .cells #[.int .i64 a0_0, .int .i64 a0_1, .int .i64 a0_2, .int .i64 a0_3] 29 (0, 0)) (by (with_reducible repeat (first | refine zkn ?_ _ | refine zkd ?_ | refine zka ?_ _)); exact BK101.out) hb); have n2_ := zam (zbt (by repeat (first | (with_reducible first | exact HB.out | apply zba | apply zbn | apply zb1 | refine zbs ?_ GE101.out) | exact HB.out)) hb); clear HO104; clear BK101; clear HB; have HO104 := n0_; have BK101 := n1_; have HB := n2_; clear n0_ n1_ n2_; (try clear hb); (try clear hb2); (try clear hk); (try clear hi)))
  have n0_ := zam (zRd HO104.out)
  have n1_ := zam (zkd BK101.out)
  have n2_ := zam (zb1 HB.out)
  clear HO104
  clear BK101
  clear HB
  have HO104 := n0_
  have BK101 := n1_
  have HB := n2_
  clear n0_ n1_ n2_
  refine start_ (n := 18) (S := fun w' => w'.cell? ⟨gb101, 0, none⟩ = some (.int .i64 a0_0) ∧ w'.cell? ⟨gb101, 1, none⟩ = some (.int .i64 a0_1) ∧ w'.cell? ⟨gb101, 2, none⟩ = some (.int .i64 a0_2) ∧ w'.cell? ⟨gb101, 3, none⟩ = some (.int .i64 a0_3)) (ds := []) #[false, false, false, false, false, false, false, false, false, false, false, false, false, false, false, false, false, false] (by kernel_rfl) rfl rfl ⟨(zkc BK101.out 0).trans rfl, (zkc BK101.out 1).trans rfl, (zkc BK101.out 2).trans rfl, (zkc BK101.out 3).trans rfl⟩ (fun hHeld => ?_); refine with_tabW bound_CheckBox.tab4 bound_CheckBox.bits4 (fun HT_ HW_ => ?_)
  generalize w28.drew = w29 at HO104 BK101 HB hHeld ⊢
  refine pure_ (i := 0) (N := some 13) (v := ?_) (a' := ?_) #[true, false, false, false, false, false, false, false, false, false, false, false, false, false, false, false, false, false] rfl rfl (any_of HT_.out (by kernel_rfl)) (fun _ _ _ h => h) (Or.inl ⟨by rfl, ?_⟩) ?_ ?_
  rotate_left
  ·intro w'
   go_simp
   with_reducible rfl
  rotate_left
  ·simp only [Act.put, zsa, zsz, zss, i64_w, i32_w]
   rfl
  refine pure_ (i := 1) (N := some 14) (v := ?_) (a' := ?_) #[true, true, false, false, false, false, false, false, false, false, false, false, false, false, false, false, false, false] rfl rfl (any_of HT_.out (by kernel_rfl)) (fun _ _ _ h => h) (Or.inl ⟨by rfl, ?_⟩) ?_ ?_
  rotate_left
  ·intro w'
   go_simp
   with_reducible rfl
  rotate_left
  ·simp only [Act.put, zsa, zsz, zss, i64_w, i32_w]
   rfl
  refine pure_ (i := 4) (N := some 17) (v := ?_) (a' := ?_) #[true, true, false, false, true, false, false, false, false, false, false, false, false, false, false, false, false, false] rfl rfl (any_of HT_.out (by kernel_rfl)) (fun _ _ _ h => h) (Or.inl ⟨by rfl, ?_⟩) ?_ ?_
  rotate_left
  ·intro w'
   go_simp
   with_reducible rfl
  rotate_left
  ·simp only [Act.put, zsa, zsz, zss, i64_w, i32_w]
   rfl
  refine pure_ (i := 5) (N := some 18) (v := ?_) (a' := ?_) #[true, true, false, false, true, true, false, false, false, false, false, false, false, false, false, false, false, false] rfl rfl (any_of HT_.out (by kernel_rfl)) (fun _ _ _ h => h) (Or.inl ⟨by rfl, ?_⟩) ?_ ?_
  rotate_left
  ·intro w'
   go_simp
   with_reducible rfl
  rotate_left
  ·simp only [Act.put, zsa, zsz, zss, i64_w, i32_w]
   rfl
  refine pure_ (i := 8) (N := some 21) (v := ?_) (a' := ?_) #[true, true, false, false, true, true, false, false, true, false, false, false, false, false, false, false, false, false] rfl rfl (any_of HT_.out (by kernel_rfl)) (fun _ _ _ h => h) (Or.inl ⟨by rfl, ?_⟩) ?_ ?_
  rotate_left
  ·intro w'
   go_simp
   with_reducible rfl
  rotate_left
  ·simp only [Act.put, zsa, zsz, zss, i64_w, i32_w]
   rfl
  refine pure_ (i := 9) (N := some 22) (v := ?_) (a' := ?_) #[true, true, false, false, true, true, false, false, true, true, false, false, false, false, false, false, false, false] rfl rfl (any_of HT_.out (by kernel_rfl)) (fun _ _ _ h => h) (Or.inl ⟨by rfl, ?_⟩) ?_ ?_
  rotate_left
  ·intro w'
   go_simp
   with_reducible rfl
  rotate_left
  ·simp only [Act.put, zsa, zsz, zss, i64_w, i32_w]
   rfl
  refine pure_ (i := 12) (N := some 25) (v := ?_) (a' := ?_) #[true, true, false, false, true, true, false, false, true, true, false, false, true, false, false, false, false, false] rfl rfl (any_of HT_.out (by kernel_rfl)) (fun _ _ _ h => h) (Or.inl ⟨by rfl, ?_⟩) ?_ ?_
  rotate_left
  ·intro w'
   go_simp
   with_reducible rfl
  rotate_left
  ·simp only [Act.put, zsa, zsz, zss, i64_w, i32_w]
   rfl
  refine pure_ (i := 13) (N := some 26) (v := ?_) (a' := ?_) #[true, true, false, false, true, true, false, false, true, true, false, false, true, true, false, false, false, false] rfl rfl (any_of HT_.out (by kernel_rfl)) (fun _ _ _ h => h) (Or.inl ⟨by rfl, ?_⟩) ?_ ?_
  rotate_left
  ·intro w'
   go_simp
   with_reducible rfl
  rotate_left
  ·simp only [Act.put, zsa, zsz, zss, i64_w, i32_w]
   rfl
  refine take_ (i := 2) (N := some 15) (v := ?_) (a' := ?_) #[true, true, true, false, true, true, false, false, true, true, false, false, true, true, false, false, false, false] rfl rfl (take_ofW HT_.out HW_.out (by kernel_rfl)) (fun _ _ _ h => h) (Or.inl ⟨by rfl, ?_⟩) hHeld ?_ ?_
  rotate_left
  ·rintro w' ⟨s0, s1, s2, s3⟩
   go_simp
   with_reducible rfl
  rotate_left
  ·simp only [Act.put, zsa, zsz, zss, i64_w, i32_w]
   rfl
  refine take_ (i := 6) (N := some 19) (v := ?_) (a' := ?_) #[true, true, true, false, true, true, true, false, true, true, false, false, true, true, false, false, false, false] rfl rfl (take_ofW HT_.out HW_.out (by kernel_rfl)) (fun _ _ _ h => h) (Or.inl ⟨by rfl, ?_⟩) hHeld ?_ ?_
  rotate_left
  ·rintro w' ⟨s0, s1, s2, s3⟩
   go_simp
   with_reducible rfl
  rotate_left
  ·simp only [Act.put, zsa, zsz, zss, i64_w, i32_w]
   rfl
  refine take_ (i := 10) (N := some 23) (v := ?_) (a' := ?_) #[true, true, true, false, true, true, true, false, true, true, true, false, true, true, false, false, false, false] rfl rfl (take_ofW HT_.out HW_.out (by kernel_rfl)) (fun _ _ _ h => h) (Or.inl ⟨by rfl, ?_⟩) hHeld ?_ ?_
  rotate_left
  ·rintro w' ⟨s0, s1, s2, s3⟩
   go_simp
   with_reducible rfl
  rotate_left
  ·simp only [Act.put, zsa, zsz, zss, i64_w, i32_w]
   rfl
  refine take_ (i := 14) (N := some 27) (v := ?_) (a' := ?_) #[true, true, true, false, true, true, true, false, true, true, true, false, true, true, true, false, false, false] rfl rfl (take_ofW HT_.out HW_.out (by kernel_rfl)) (fun _ _ _ h => h) (Or.inl ⟨by rfl, ?_⟩) hHeld ?_ ?_
  rotate_left
  ·rintro w' ⟨s0, s1, s2, s3⟩
   go_simp
   with_reducible rfl
  rotate_left
  ·simp only [Act.put, zsa, zsz, zss, i64_w, i32_w]
   rfl
  refine one_ (i := 3) (N := some 16) #[true, true, true, true, true, true, true, false, true, true, true, false, true, true, true, false, false, false] rfl rfl (one_of HT_.out (by kernel_rfl)) (by decide) (fun K hK => ?_)
  refine goes_ Try.func118 (by kernel_rfl) rfl #[.int .i64 a0_0] (by rfl) rfl rfl (by (try simp only [zmt, List.map_cons, List.map_nil]); first | done | rfl | (simp only [zld, zlt]; rfl)) ?_
  with_reducible refine (bound_amount.calls a0_0 t106 _ A4.out).mono ?_
  rintro e w30 ⟨rfl, hb⟩
  refine ⟨_, rfl, ?_⟩
  have n0_ := zam (Kd.R_below (by (with_reducible repeat (first | apply zRa | apply zRn | apply zRd)); exact HO104.out) hb)
  have n1_ := zam (zkb (g := gb101) (o := .cells #[.int .i64 a0_0, .int .i64 a0_1, .int .i64 a0_2, .int .i64 a0_3] 29 (0, 0)) (by (with_reducible repeat (first | refine zkn ?_ _ | refine zkd ?_ | refine zka ?_ _)); exact BK101.out) hb)
  have n2_ := zam (zbt (by repeat (first | (with_reducible first | exact HB.out | apply zba | apply zbn | apply zb1 | refine zbs ?_ GE101.out) | exact HB.out)) hb)
  clear HO104
  clear BK101
  clear HB
  have HO104 := n0_
  have BK101 := n1_
  have HB := n2_
  clear n0_ n1_ n2_
  (try clear hb)
  (try clear hb2)
  (try clear hk)
  (try clear hi)
  refine hK.out _ _ ⟨(zkc BK101.out 0).trans rfl, (zkc BK101.out 1).trans rfl, (zkc BK101.out 2).trans rfl, (zkc BK101.out 3).trans rfl⟩ (fun hHeld => ?_)
  clear hK K
  refine norm_ (a' := ?_) ?_ ?_
  rotate_left
  ·show Act.put _ (some 16) _ = _
   simp only [Act.put, zsa, zsz, zss, i64_w, i32_w]
   rfl
  refine one_ (i := 7) (N := some 20) #[true, true, true, true, true, true, true, true, true, true, true, false, true, true, true, false, false, false] rfl rfl (one_of HT_.out (by kernel_rfl)) (by decide) (fun K hK => ?_)
  refine goes_ Try.func118 (by kernel_rfl) rfl #[.int .i64 a0_1] (by rfl) rfl rfl (by (try simp only [zmt, List.map_cons, List.map_nil]); first | done | rfl | (simp only [zld, zlt]; rfl)) ?_
  with_reducible refine (bound_amount.calls a0_1 t107 _ A5.out).mono ?_
  rintro e w31 ⟨rfl, hb⟩
  refine ⟨_, rfl, ?_⟩
  have n0_ := zam (Kd.R_below (by (with_reducible repeat (first | apply zRa | apply zRn | apply zRd)); exact HO104.out) hb)
  have n1_ := zam (zkb (g := gb101) (o := .cells #[.int .i64 a0_0, .int .i64 a0_1, .int .i64 a0_2, .int .i64 a0_3] 29 (0, 0)) (by (with_reducible repeat (first | refine zkn ?_ _ | refine zkd ?_ | refine zka ?_ _)); exact BK101.out) hb)
  have n2_ := zam (zbt (by repeat (first | (with_reducible first | exact HB.out | apply zba | apply zbn | apply zb1 | refine zbs ?_ GE101.out) | exact HB.out)) hb)
  clear HO104
  clear BK101
  clear HB
  have HO104 := n0_
  have BK101 := n1_
  have HB := n2_
  clear n0_ n1_ n2_
  (try clear hb)
  (try clear hb2)
  (try clear hk)
  (try clear hi)
  refine hK.out _ _ ⟨(zkc BK101.out 0).trans rfl, (zkc BK101.out 1).trans rfl, (zkc BK101.out 2).trans rfl, (zkc BK101.out 3).trans rfl⟩ (fun hHeld => ?_)
  clear hK K
  refine norm_ (a' := ?_) ?_ ?_
  rotate_left
  ·show Act.put _ (some 20) _ = _
   simp only [Act.put, zsa, zsz, zss, i64_w, i32_w]
   rfl
  refine one_ (i := 11) (N := some 24) #[true, true, true, true, true, true, true, true, true, true, true, true, true, true, true, false, false, false] rfl rfl (one_of HT_.out (by kernel_rfl)) (by decide) (fun K hK => ?_)
  refine goes_ Try.func118 (by kernel_rfl) rfl #[.int .i64 a0_2] (by rfl) rfl rfl (by (try simp only [zmt, List.map_cons, List.map_nil]); first | done | rfl | (simp only [zld, zlt]; rfl)) ?_
  with_reducible refine (bound_amount.calls a0_2 t108 _ A6.out).mono ?_
  rintro e w32 ⟨rfl, hb⟩
  refine ⟨_, rfl, ?_⟩
  have n0_ := zam (Kd.R_below (by (with_reducible repeat (first | apply zRa | apply zRn | apply zRd)); exact HO104.out) hb)
  have n1_ := zam (zkb (g := gb101) (o := .cells #[.int .i64 a0_0, .int .i64 a0_1, .int .i64 a0_2, .int .i64 a0_3] 29 (0, 0)) (by (with_reducible repeat (first | refine zkn ?_ _ | refine zkd ?_ | refine zka ?_ _)); exact BK101.out) hb)
  have n2_ := zam (zbt (by repeat (first | (with_reducible first | exact HB.out | apply zba | apply zbn | apply zb1 | refine zbs ?_ GE101.out) | exact HB.out)) hb)
  clear HO104
  clear BK101
  clear HB
  have HO104 := n0_
  have BK101 := n1_
  have HB := n2_
  clear n0_ n1_ n2_
  (try clear hb)
  (try clear hb2)
  (try clear hk)
  (try clear hi)
  refine hK.out _ _ ⟨(zkc BK101.out 0).trans rfl, (zkc BK101.out 1).trans rfl, (zkc BK101.out 2).trans rfl, (zkc BK101.out 3).trans rfl⟩ (fun hHeld => ?_)
  clear hK K
  refine norm_ (a' := ?_) ?_ ?_
  rotate_left
  ·show Act.put _ (some 24) _ = _
   simp only [Act.put, zsa, zsz, zss, i64_w, i32_w]
   rfl
  refine one_ (i := 15) (N := some 28) #[true, true, true, true, true, true, true, true, true, true, true, true, true, true, true, true, false, false] rfl rfl (one_of HT_.out (by kernel_rfl)) (by decide) (fun K hK => ?_)
  refine goes_ Try.func118 (by kernel_rfl) rfl #[.int .i64 a0_3] (by rfl) rfl rfl (by (try simp only [zmt, List.map_cons, List.map_nil]); first | done | rfl | (simp only [zld, zlt]; rfl)) ?_
  with_reducible refine (bound_amount.calls a0_3 t109 _ A7.out).mono ?_
  rintro e w33 ⟨rfl, hb⟩
  refine ⟨_, rfl, ?_⟩
  have n0_ := zam (Kd.R_below (by (with_reducible repeat (first | apply zRa | apply zRn | apply zRd)); exact HO104.out) hb)
  have n1_ := zam (zkb (g := gb101) (o := .cells #[.int .i64 a0_0, .int .i64 a0_1, .int .i64 a0_2, .int .i64 a0_3] 29 (0, 0)) (by (with_reducible repeat (first | refine zkn ?_ _ | refine zkd ?_ | refine zka ?_ _)); exact BK101.out) hb)
  have n2_ := zam (zbt (by repeat (first | (with_reducible first | exact HB.out | apply zba | apply zbn | apply zb1 | refine zbs ?_ GE101.out) | exact HB.out)) hb)
  clear HO104
  clear BK101
  clear HB
  have HO104 := n0_
  have BK101 := n1_
  have HB := n2_
  clear n0_ n1_ n2_
  (try clear hb)
  (try clear hb2)
  (try clear hk)
  (try clear hi)
  refine hK.out _ _ ⟨(zkc BK101.out 0).trans rfl, (zkc BK101.out 1).trans rfl, (zkc BK101.out 2).trans rfl, (zkc BK101.out 3).trans rfl⟩ (fun hHeld => ?_)
  clear hK K
  refine norm_ (a' := ?_) ?_ ?_
  rotate_left
  ·show Act.put _ (some 28) _ = _
   simp only [Act.put, zsa, zsz, zss, i64_w, i32_w]
   rfl
  refine pure_ (i := 16) (N := some 29) (v := ?_) (a' := ?_) #[true, true, true, true, true, true, true, true, true, true, true, true, true, true, true, true, true, false] rfl rfl (any_of HT_.out (by kernel_rfl)) (fun _ _ _ h => h) (Or.inl ⟨by rfl, ?_⟩) ?_ ?_
  rotate_left
  ·intro w'
   go_simp
   with_reducible rfl
  rotate_left
  ·simp only [Act.put, zsa, zsz, zss, i64_w, i32_w]
   rfl
  refine pure_ (i := 17) (N := some 30) (v := ?_) (a' := ?_) #[true, true, true, true, true, true, true, true, true, true, true, true, true, true, true, true, true, true] rfl rfl (any_of HT_.out (by kernel_rfl)) (fun _ _ _ h => h) (Or.inl ⟨by rfl, ?_⟩) ?_ ?_
  rotate_left
  ·intro w'
   go_simp
   with_reducible rfl
  rotate_left
  ·simp only [Act.put, zsa, zsz, zss, i64_w, i32_w]
   rfl
  refine done_ (done_of HT_.out (by kernel_rfl)) ?_
  try go_wp2
  go_ret
  exact ⟨by first | rfl | (simp [errW_none, errW_some] <;> rfl) | (simp only [← hji8, ← hji9, ← hji10]; first | rfl | (simp [errW_none, errW_some] <;> rfl)) | (simp [*, errW_none, errW_some] <;> rfl), by repeat (first | (with_reducible first | exact HB.out | apply zba | apply zbn | apply zb1 | refine zbs ?_ GE101.out) | exact HB.out)⟩
 rw [if_neg c3] at H
 have c3b0 : (t105 == 0) = false := beq_eq_false_iff_ne.mpr c3
 have c3b1 : (t105 != 0) = true := bne_iff_ne.mpr c3
 obtain rfl := zsi H
 go_enter Try.func79, Try.ntmps79
 go_wp2_with (first | ((with_reducible refine zgd (N := 1) rfl ?_); refine box_event ?hg (N := 1) ?hd (cs := #[.int .i64 a0_0, .int .i64 a0_1, .int .i64 a0_2, .int .i64 a0_3]) (t := 29) ?hr ?_; (case hd => rfl); (case hg => rfl); (case hr => first | (go_simp; done) | (go_simp; rfl)); intro gb101 hg w34 hbox hb; have n0_ := zam (zbt (by repeat (first | (with_reducible first | exact HB.out | apply zba | apply zbn | apply zb1) | exact HB.out)) hb); have n1_ := zam (hbox); have n2_ := zam ((by rw [hg]; exact (zbz (by repeat (first | (with_reducible first | exact HB.out | apply zba | apply zbn | apply zb1) | exact HB.out))) : w.heap.size ≤ gb101)); have n3_ := zam ((by rw [hg]; exact (zbz (by repeat (first | (with_reducible first | exact HB.out | apply zba | apply zbn | apply zb1) | exact HB.out))) : w.heap.size ≤ gb101)); clear HB; have HB := n0_; have BK101 := n1_; have GW101 := n2_; have GE101 := n3_; clear n0_ n1_ n2_ n3_; clear hb hbox hg; have hcz35_0 : w34.cell? ⟨gb101, 0, none⟩ = some (.int .i64 a0_0) := (zkc BK101.out 0).trans rfl; have hcz35_1 : w34.cell? ⟨gb101, 1, none⟩ = some (.int .i64 a0_1) := (zkc BK101.out 1).trans rfl; have hcz35_2 : w34.cell? ⟨gb101, 2, none⟩ = some (.int .i64 a0_2) := (zkc BK101.out 2).trans rfl; have hcz35_3 : w34.cell? ⟨gb101, 3, none⟩ = some (.int .i64 a0_3) := (zkc BK101.out 3).trans rfl; have hfz35_0 := zkz BK101.out 0; have hfz35_1 := zkz BK101.out 1; have hfz35_2 := zkz BK101.out 2; have hfz35_3 := zkz BK101.out 3) | ((with_reducible refine zgd (N := 8) rfl ?_); refine Kd.R_lit k24 _ 24 ?hg (N := 8) ?hd (xs := ([(⟨a0_0, a0_1⟩ : S24), (⟨a0_2, a0_3⟩ : S24)] : List (S24))) (inner := [.int .i64 a0_0, .int .i64 a0_1, .int .i64 a0_2, .int .i64 a0_3]) (ok := fun _ => True) (okp := fun _ => True) ?hr ?hp (fun _ hk => hk) trivial (Below.refl _ _) (Nat.le_refl _) (by simp) ?_; (case hd => rfl); (case hg => rfl); (case hr => first | (go_simp; done) | (go_simp; rfl)); (case hp => exact (Reps.c2 (show Kd.M k24 _ _ _ (⟨a0_0, a0_1⟩ : S24) [.int .i64 a0_0, .int .i64 a0_1] from (k24_mkM _ _ _ (⟨a0_0, a0_1⟩ : S24) )) (Reps.c2 (show Kd.M k24 _ _ _ (⟨a0_2, a0_3⟩ : S24) [.int .i64 a0_2, .int .i64 a0_3] from (k24_mkM _ _ _ (⟨a0_2, a0_3⟩ : S24) )) (Reps.none _ _)))); intro v103 w36 ho37 hb hg_ hnew_; clear hg_ hnew_; (first | rw [← Ny102.out] at ho37 | (simp only [Int.reduceToNat] at ho37; rw [← Ny102.out] at ho37)); have n0_ := zam (Kd.R_lower ho37 (zbz (by repeat (first | (with_reducible first | exact HB.out | apply zba | apply zbn | apply zb1 | refine zbs ?_ GE101.out) | exact HB.out)))); have n1_ := zam (zkb (g := gb101) (o := .cells #[.int .i64 a0_0, .int .i64 a0_1, .int .i64 a0_2, .int .i64 a0_3] 29 (0, 0)) (by (with_reducible repeat (first | refine zkn ?_ _ | refine zkd ?_ | refine zka ?_ _)); exact BK101.out) hb); have n2_ := zam (zbt (by repeat (first | (with_reducible first | exact HB.out | apply zba | apply zbn | apply zb1 | refine zbs ?_ GE101.out) | exact HB.out)) hb); clear BK101; clear HB; have HO104 := n0_; have BK101 := n1_; have HB := n2_; clear n0_ n1_ n2_; clear hb ho37; obtain ⟨Ao38, co38, eo38⟩ := Kd.R_slice HO104.out; subst eo38) | ((with_reducible refine zgc (f := 117) rfl ?_); refine goesL_ (some 9) rfl rfl Try.func117 (by kernel_rfl) rfl #[.slice Ao38 y102.length co38] rfl (by (try simp only [zmt, List.map_cons, List.map_nil]); first | done | rfl | (simp only [zld, zlt]; rfl)) ?_; (with_reducible refine (bound_check.calls k _ _ y102 t105 _ ?side1 ?side2 A2.out).mono ?_); (case side1 => repeat (first | exact (Kd.R_reads' HO104.out).2.2 | (with_reducible refine Kd.C_alloc ?_ _) | (with_reducible refine Kd.C_drewN ?_ _) | (with_reducible refine Kd.C_drew ?_))); (case side2 => exact (Kd.R_reads' HO104.out).2.1); rintro e w39 ⟨rfl, hb⟩; refine ⟨_, rfl, ?_⟩; have n0_ := zam (Kd.R_below (by (with_reducible repeat (first | apply zRa | apply zRn | apply zRd)); exact HO104.out) hb); have n1_ := zam (zkb (g := gb101) (o := .cells #[.int .i64 a0_0, .int .i64 a0_1, .int .i64 a0_2, .int .i64 a0_3] 29 (0, 0)) (by (with_reducible repeat (first | refine zkn ?_ _ | refine zkd ?_ | refine zka ?_ _)); exact BK101.out) hb); have n2_ := zam (zbt (by repeat (first | (with_reducible first | exact HB.out | apply zba | apply zbn | apply zb1 | refine zbs ?_ GE101.out) | exact HB.out)) hb); clear HO104; clear BK101; clear HB; have HO104 := n0_; have BK101 := n1_; have HB := n2_; clear n0_ n1_ n2_; (try clear hb); (try clear hb2); (try clear hk); (try clear hi)))
 go_ret
 exact ⟨by first | rfl | (simp [errW_none, errW_some] <;> rfl) | (simp [*, errW_none, errW_some] <;> rfl), by repeat (first | (with_reducible first | exact HB.out | apply zba | apply zbn | apply zb1 | refine zbs ?_ GE101.out) | exact HB.out)⟩
def sound_CheckNet_1.f (k : Nat) (a0_0 : Int) (a0_1 : Int) (a0_2 : Int) (a0_3 : Int) : Option (Bool) := (bound_CheckBox.f k a0_0 a0_1 a0_2 a0_3).bind fun t102 => (some (t102 != 0))
set_option maxHeartbeats 8000000 in
set_option maxRecDepth 100000 in
theorem sound_CheckNet_1.calls (k : Nat) (a0_0 : Int) (a0_1 : Int) (a0_2 : Int) (a0_3 : Int) (r : Bool) (w : World) (h : sound_CheckNet_1.f k a0_0 a0_1 a0_2 a0_3 = some r) :
  Calls Try.prog 98 #[.agg #[.int .i64 a0_0, .int .i64 a0_1, .int .i64 a0_2, .int .i64 a0_3]] w fun e w' => e = .returned (.bool r) ∧ Below w.heap.size w w' := by
 have hu29 := Try.underlying29
 have HB := zam (Below.refl w.heap.size w)
 have H : ((bound_CheckBox.f k a0_0 a0_1 a0_2 a0_3).bind fun t102 => (some (t102 != 0))) = some r := h
 clear h
 replace H := Option.bind_eq_some_iff.mp H
 obtain ⟨t102, A20, H⟩ := H
 replace H : (some (t102 != 0)) = some r := H
 have A2 := zam A20
 clear A20
 obtain rfl := zsi H
 go_enter Try.func98, Try.ntmps98
 go_wp2_with (first | ((with_reducible refine zgd (N := 1) rfl ?_); refine box_event ?hg (N := 1) ?hd (cs := #[.int .i64 a0_0, .int .i64 a0_1, .int .i64 a0_2, .int .i64 a0_3]) (t := 29) ?hr ?_; (case hd => rfl); (case hg => rfl); (case hr => first | (go_simp; done) | (go_simp; rfl)); intro gb101 hg w3 hbox hb; have n0_ := zam (zbt (by repeat (first | (with_reducible first | exact HB.out | apply zba | apply zbn | apply zb1) | exact HB.out)) hb); have n1_ := zam (hbox); have n2_ := zam ((by rw [hg]; exact (zbz (by repeat (first | (with_reducible first | exact HB.out | apply zba | apply zbn | apply zb1) | exact HB.out))) : w.heap.size ≤ gb101)); have n3_ := zam ((by rw [hg]; exact (zbz (by repeat (first | (with_reducible first | exact HB.out | apply zba | apply zbn | apply zb1) | exact HB.out))) : w.heap.size ≤ gb101)); clear HB; have HB := n0_; have BK101 := n1_; have GW101 := n2_; have GE101 := n3_; clear n0_ n1_ n2_ n3_; clear hb hbox hg; have hcz4_0 : w3.cell? ⟨gb101, 0, none⟩ = some (.int .i64 a0_0) := (zkc BK101.out 0).trans rfl; have hcz4_1 : w3.cell? ⟨gb101, 1, none⟩ = some (.int .i64 a0_1) := (zkc BK101.out 1).trans rfl; have hcz4_2 : w3.cell? ⟨gb101, 2, none⟩ = some (.int .i64 a0_2) := (zkc BK101.out 2).trans rfl; have hcz4_3 : w3.cell? ⟨gb101, 3, none⟩ = some (.int .i64 a0_3) := (zkc BK101.out 3).trans rfl; have hfz4_0 := zkz BK101.out 0; have hfz4_1 := zkz BK101.out 1; have hfz4_2 := zkz BK101.out 2; have hfz4_3 := zkz BK101.out 3) | ((with_reducible refine zgc (f := 79) rfl ?_); refine goesL_ (some 4) rfl rfl Try.func79 (by kernel_rfl) rfl #[.agg #[.int .i64 a0_0, .int .i64 a0_1, .int .i64 a0_2, .int .i64 a0_3]] rfl (by (try simp only [zmt, List.map_cons, List.map_nil]); first | done | rfl | (simp only [zld, zlt]; rfl)) ?_; (with_reducible refine (bound_CheckBox.calls k a0_0 a0_1 a0_2 a0_3 t102 _ A2.out).mono ?_); rintro e w5 ⟨rfl, hb⟩; refine ⟨_, rfl, ?_⟩; have n0_ := zam (zkb (g := gb101) (o := .cells #[.int .i64 a0_0, .int .i64 a0_1, .int .i64 a0_2, .int .i64 a0_3] 29 (0, 0)) (by (with_reducible repeat (first | refine zkn ?_ _ | refine zkd ?_ | refine zka ?_ _)); exact BK101.out) hb); have n1_ := zam (zbt (by repeat (first | (with_reducible first | exact HB.out | apply zba | apply zbn | apply zb1 | refine zbs ?_ GE101.out) | exact HB.out)) hb); clear BK101; clear HB; have BK101 := n0_; have HB := n1_; clear n0_ n1_; (try clear hb); (try clear hb2); (try clear hk); (try clear hi)))
 go_ret
 exact ⟨by first | rfl | (simp [errW_none, errW_some] <;> rfl) | (simp [*, errW_none, errW_some] <;> rfl), by repeat (first | (with_reducible first | exact HB.out | apply zba | apply zbn | apply zb1 | refine zbs ?_ GE101.out) | exact HB.out)⟩
def slices_IndexFunc_Box_sound_CheckNet_1.l0 : Nat → List (S29) → Int → Int → Option (Int)
 | 0, _, _, _ => none
 | k + 1, x0, x7, x8 => if x8 < x7 then (if 0 ≤ x8 then (if x8 < (x0.length : Int) then ((sound_CheckNet_1.f k ((rd_T29 x0 x8).f0.f0) ((rd_T29 x0 x8).f0.f1) ((rd_T29 x0 x8).f1.f0) ((rd_T29 x0 x8).f1.f1)).bind fun t102 => (if t102 = true then (some x8) else (slices_IndexFunc_Box_sound_CheckNet_1.l0 k x0 x7 (wrap64 (x8 + 1))))) else (none)) else (none)) else (some (-1))
def slices_IndexFunc_Box_sound_CheckNet_1.f (k : Nat) (l0 : List (S29))  : Option (Int) := slices_IndexFunc_Box_sound_CheckNet_1.l0 k l0 (l0.length : Int) 0
set_option maxHeartbeats 8000000 in
set_option maxRecDepth 100000 in
theorem slices_IndexFunc_Box_sound_CheckNet_1.calls (k : Nat) (A0 : Option Addr) (c0 : Nat) (l0 : List (S29))  (r : Int) (w : World) (hr0 : Kd.C k29 w A0 l0.length l0) (hc0 : l0.length ≤ c0) (h : slices_IndexFunc_Box_sound_CheckNet_1.f k l0 = some r) :
  Calls Try.prog 124 #[.slice A0 l0.length c0, .func (.func 98) #[] #[]] w fun e w' => e = .returned (.int .i64 r) ∧ Below w.heap.size w w' := by
 have hu29 := Try.underlying29
 have HR0 := zam hr0
 have HC0 := zam hc0
 clear hr0 hc0
 have HB := zam (Below.refl w.heap.size w)
 have H : (slices_IndexFunc_Box_sound_CheckNet_1.l0 k l0 (l0.length : Int) 0) = some r := h
 clear h
 have H' := zam H
 clear H
 go_enter Try.func124, Try.ntmps124
 go_wp2
 go_loopg [8] k (fun kq v8 w' => ∃ (x8_1 : Int), v8 = .int .i64 x8_1 ∧ Aside0 (slices_IndexFunc_Box_sound_CheckNet_1.l0 kq l0 (l0.length : Int) x8_1 = some r) ∧ Aside0 (kq ≤ k) ∧ Aside0 (Below w.heap.size w w'))
 case atStart => exact ⟨(0), (by first | rfl | (simp; done) | (simp [*]; done)), H', ⟨Nat.le_refl _⟩, ⟨by repeat (first | (with_reducible first | exact HB.out | apply zba | apply zbn | apply zb1) | exact HB.out)⟩⟩
 case round =>
  clear H'
  try clear p2
  obtain ⟨x8_1, rfl, HA, HK1, HB⟩ := hrel
  cases gk with
  | zero => exact absurd HA.out (by simp [slices_IndexFunc_Box_sound_CheckNet_1.l0])
  | succ k1 =>
   have H := HA.out
   clear HA
   simp only [slices_IndexFunc_Box_sound_CheckNet_1.l0] at H
   by_cases c3 : x8_1 < (l0.length : Int)
   ·rw [if_pos c3] at H
    have c3b0 : decide (x8_1 < (l0.length : Int)) = true := zdt c3
    clear c3
    by_cases c4 : 0 ≤ x8_1
    ·rw [if_pos c4] at H
     have c4b0 : decide (0 ≤ x8_1) = true := zdt c4
     clear c4
     by_cases c5 : x8_1 < (l0.length : Int)
     ·rw [if_pos c5] at H
      have c5b0 : decide (x8_1 < (l0.length : Int)) = true := zdt c5
      clear c5
      replace H := Option.bind_eq_some_iff.mp H
      obtain ⟨t102, A60, H⟩ := H
      replace H : (if t102 = true then (some x8_1) else (slices_IndexFunc_Box_sound_CheckNet_1.l0 k1 l0 (l0.length : Int) (wrap64 (x8_1 + 1)))) = some r := H
      have A6 := zam A60
      clear A60
      by_cases c7 : t102 = true
      ·subst c7
       have H1 : (some x8_1) = some r := by rw [if_pos rfl] at H; exact H
       clear H
       have H := H1
       clear H1
       obtain rfl := zsi H
       have p101 : 0 ≤ (x8_1 : Int) := zod (by first | (with_reducible assumption) | assumption)
       have q101 : x8_1 < (l0.length : Int) := zod (by first | (with_reducible assumption) | assumption)
       obtain ⟨ad101, e101, hx101_0, hx101_1, hx101_2, hx101_3⟩ := at_T29 HR0.out x8_1 p101 q101
       cases e101
       replace hx101_0 := (HB.out.cell (zwb w _ hx101_0)).trans hx101_0
       replace hx101_1 := (HB.out.cell (zwb w _ hx101_1)).trans hx101_1
       replace hx101_2 := (HB.out.cell (zwb w _ hx101_2)).trans hx101_2
       replace hx101_3 := (HB.out.cell (zwb w _ hx101_3)).trans hx101_3
       replace p101 := eq_true p101
       replace q101 := eq_true q101
       go_wp2_with (first | (go_at_call 98; (with_reducible refine (sound_CheckNet_1.calls k1 ((rd_T29 l0 x8_1).f0.f0) ((rd_T29 l0 x8_1).f0.f1) ((rd_T29 l0 x8_1).f1.f0) ((rd_T29 l0 x8_1).f1.f1) true _ A6.out).mono ?_); rintro e w8 ⟨rfl, hb⟩; have n0_ := zam (zbt (by repeat (first | (with_reducible first | exact HB.out | apply zba | apply zbn | apply zb1) | exact HB.out)) hb); clear HB; have HB := n0_; clear n0_; (try clear hb); (try clear hb2); (try clear hk); (try clear hi)))
       go_ret
       exact ⟨by first | rfl | (simp [errW_none, errW_some] <;> rfl) | (simp [*, errW_none, errW_some] <;> rfl), by repeat (first | (with_reducible first | exact HB.out | apply zba | apply zbn | apply zb1) | exact HB.out)⟩
      replace c7 := Bool.eq_false_iff.mpr c7
      subst c7
      have H1 : (slices_IndexFunc_Box_sound_CheckNet_1.l0 k1 l0 (l0.length : Int) (wrap64 (x8_1 + 1))) = some r := by rw [if_neg (show ¬ (false = true) by decide)] at H; exact H
      clear H
      have H := H1
      clear H1
      have H' := zam H
      clear H
      have p101 : 0 ≤ (x8_1 : Int) := zod (by first | (with_reducible assumption) | assumption)
      have q101 : x8_1 < (l0.length : Int) := zod (by first | (with_reducible assumption) | assumption)
      obtain ⟨ad101, e101, hx101_0, hx101_1, hx101_2, hx101_3⟩ := at_T29 HR0.out x8_1 p101 q101
      cases e101
      replace hx101_0 := (HB.out.cell (zwb w _ hx101_0)).trans hx101_0
      replace hx101_1 := (HB.out.cell (zwb w _ hx101_1)).trans hx101_1
      replace hx101_2 := (HB.out.cell (zwb w _ hx101_2)).trans hx101_2
      replace hx101_3 := (HB.out.cell (zwb w _ hx101_3)).trans hx101_3
      replace p101 := eq_true p101
      replace q101 := eq_true q101
      go_wp2_with (first | (go_at_call 98; (with_reducible refine (sound_CheckNet_1.calls k1 ((rd_T29 l0 x8_1).f0.f0) ((rd_T29 l0 x8_1).f0.f1) ((rd_T29 l0 x8_1).f1.f0) ((rd_T29 l0 x8_1).f1.f1) false _ A6.out).mono ?_); rintro e w9 ⟨rfl, hb⟩; have n0_ := zam (zbt (by repeat (first | (with_reducible first | exact HB.out | apply zba | apply zbn | apply zb1) | exact HB.out)) hb); clear HB; have HB := n0_; clear n0_; (try clear hb); (try clear hb2); (try clear hk); (try clear hi)))
      go_roundg k1
      case measure => have := HK1.out; omega
      case rel => exact ⟨(wrap64 (x8_1 + 1)), (by first | rfl | (simp; done) | (simp [*]; done)), H', ⟨by have := HK1.out; omega⟩, ⟨by repeat (first | (with_reducible first | exact HB.out | apply zba | apply zbn | apply zb1) | exact HB.out)⟩⟩
     rw [if_neg c5] at H
     exact absurd H (by simp)
    rw [if_neg c4] at H
    exact absurd H (by simp)
   rw [if_neg c3] at H
   have c3b0 : decide (x8_1 < (l0.length : Int)) = false := zdf c3
   clear c3
   obtain rfl := zsi H
   go_wp2
   go_ret
   exact ⟨by first | rfl | (simp [errW_none, errW_some] <;> rfl) | (simp [*, errW_none, errW_some] <;> rfl), by repeat (first | (with_reducible first | exact HB.out | apply zba | apply zbn | apply zb1) | exact HB.out)⟩
def slices_ContainsFunc_Box_sound_CheckNet_1.f (k : Nat) (l0 : List (S29))  : Option (Bool) := (slices_IndexFunc_Box_sound_CheckNet_1.f k l0).bind fun t101 => (some (decide (t101 ≥ 0)))
set_option maxHeartbeats 8000000 in
set_option maxRecDepth 100000 in
theorem slices_ContainsFunc_Box_sound_CheckNet_1.calls (k : Nat) (A0 : Option Addr) (c0 : Nat) (l0 : List (S29))  (r : Bool) (w : World) (hr0 : Kd.C k29 w A0 l0.length l0) (hc0 : l0.length ≤ c0) (h : slices_ContainsFunc_Box_sound_CheckNet_1.f k l0 = some r) :
  Calls Try.prog 97 #[.slice A0 l0.length c0, .func (.func 98) #[] #[]] w fun e w' => e = .returned (.bool r) ∧ Below w.heap.size w w' := by
 have HR0 := zam hr0
 have HC0 := zam hc0
 clear hr0 hc0
 have HB := zam (Below.refl w.heap.size w)
 have H : ((slices_IndexFunc_Box_sound_CheckNet_1.f k l0).bind fun t101 => (some (decide (t101 ≥ 0)))) = some r := h
 clear h
 replace H := Option.bind_eq_some_iff.mp H
 obtain ⟨t101, A30, H⟩ := H
 replace H : (some (decide (t101 ≥ 0))) = some r := H
 have A3 := zam A30
 clear A30
 obtain rfl := zsi H
 go_enter Try.func97, Try.ntmps97
 go_wp2_with (first | ((with_reducible refine zgc (f := 124) rfl ?_); refine goesL_ (some 7) rfl rfl Try.func124 (by kernel_rfl) rfl #[.slice A0 l0.length c0, .func (.func 98) #[] #[]] rfl (by (try simp only [zmt, List.map_cons, List.map_nil]); first | done | rfl | (simp only [zld, zlt]; rfl)) ?_; (with_reducible refine (slices_IndexFunc_Box_sound_CheckNet_1.calls k _ _ l0  t101 _ ?side1 ?side2 A3.out).mono ?_); (case side1 => repeat (first | exact HR0.out | (with_reducible refine Kd.C_alloc ?_ _) | (with_reducible refine Kd.C_drewN ?_ _) | (with_reducible refine Kd.C_drew ?_))); (case side2 => exact HC0.out); rintro e w4 ⟨rfl, hb⟩; refine ⟨_, rfl, ?_⟩; have n0_ := zam (zbt (by repeat (first | (with_reducible first | exact HB.out | apply zba | apply zbn | apply zb1) | exact HB.out)) hb); clear HB; have HB := n0_; clear n0_; (try clear hb); (try clear hb2); (try clear hk); (try clear hi)))
 go_ret
 exact ⟨by first | rfl | (simp [errW_none, errW_some] <;> rfl) | (simp [*, errW_none, errW_some] <;> rfl), by repeat (first | (with_reducible first | exact HB.out | apply zba | apply zbn | apply zb1) | exact HB.out)⟩
def sound_CheckNet.j0 : Nat → Bool → List (S29) → Int → Int → Option (Int)
 | 0, _, _, _, _ => none
 | k + 1, x30, x102000, x102001, x102002 => if x30 = true then (some 2) else ((slices_ContainsFunc_Box_sound_CheckNet_1.f k x102000).bind fun t103 => (if t103 = true then (some 2) else (some 0)))
def sound_CheckNet.f (k : Nat) (l0_0 : List (S29)) (a0_1 : Int) (a0_2 : Int) : Option (Int) := if (l0_0.length : Int) < 2 then (sound_CheckNet.j0 k true l0_0 a0_1 a0_2) else (if (l0_0.length : Int) > 8 then (sound_CheckNet.j0 k true l0_0 a0_1 a0_2) else ((bound_Check.f k a0_1 a0_2).bind fun t102 => (if t102 = 0 then (if a0_1 < 1 then (sound_CheckNet.j0 k true l0_0 a0_1 a0_2) else (sound_CheckNet.j0 k (decide (a0_2 > 20000)) l0_0 a0_1 a0_2)) else (sound_CheckNet.j0 k true l0_0 a0_1 a0_2))))
set_option maxHeartbeats 8000000 in
set_option maxRecDepth 100000 in
theorem sound_CheckNet.calls (k : Nat) (A0_0 : Option Addr) (c0_0 : Nat) (l0_0 : List (S29)) (a0_1 : Int) (a0_2 : Int) (r : Int) (w : World) (hr0_0 : Kd.C k29 w A0_0 l0_0.length l0_0) (hc0_0 : l0_0.length ≤ c0_0) (h : sound_CheckNet.f k l0_0 a0_1 a0_2 = some r) :
  Calls Try.prog 52 #[.agg #[.slice A0_0 l0_0.length c0_0, .int .i64 a0_1, .int .i64 a0_2]] w fun e w' => e = .returned (.int .i64 r) ∧ Below w.heap.size w w' := by
 have hu26 := Try.underlying26
 have hu24 := Try.underlying24
 have HR0_0 := zam hr0_0
 have HC0_0 := zam hc0_0
 clear hr0_0 hc0_0
 have HB := zam (Below.refl w.heap.size w)
 have H : (if (l0_0.length : Int) < 2 then (sound_CheckNet.j0 k true l0_0 a0_1 a0_2) else (if (l0_0.length : Int) > 8 then (sound_CheckNet.j0 k true l0_0 a0_1 a0_2) else ((bound_Check.f k a0_1 a0_2).bind fun t102 => (if t102 = 0 then (if a0_1 < 1 then (sound_CheckNet.j0 k true l0_0 a0_1 a0_2) else (sound_CheckNet.j0 k (decide (a0_2 > 20000)) l0_0 a0_1 a0_2)) else (sound_CheckNet.j0 k true l0_0 a0_1 a0_2))))) = some r := h
 clear h
 have HC2 := zam H
 clear H
 go_enter Try.func52, Try.ntmps52
 go_upto_region 1 with (first | ((with_reducible refine zgd (N := 1) rfl ?_); (try (refine gate_guard (by rfl) ?_; dsimp only)); refine box_event ?hg (N := 1) ?hd (cs := #[.slice A0_0 l0_0.length c0_0, .int .i64 a0_1, .int .i64 a0_2]) (t := 26) ?hr ?_; (case hd => rfl); (case hg => rfl); (case hr => first | (go_simp; done) | (go_simp; rfl)); intro gb101 hg w3 hbox hb; have n0_ := zam (zbt (by repeat (first | (with_reducible first | exact HB.out | apply zba | apply zbn | apply zb1) | exact HB.out)) hb); have n1_ := zam (hbox); have n2_ := zam ((by rw [hg]; exact (zbz (by repeat (first | (with_reducible first | exact HB.out | apply zba | apply zbn | apply zb1) | exact HB.out))) : w.heap.size ≤ gb101)); have n3_ := zam ((by rw [hg]; exact (zbz (by repeat (first | (with_reducible first | exact HB.out | apply zba | apply zbn | apply zb1) | exact HB.out))) : w.heap.size ≤ gb101)); clear HB; have HB := n0_; have BK101 := n1_; have GW101 := n2_; have GE101 := n3_; clear n0_ n1_ n2_ n3_; clear hb hbox hg))
 (try simp only [Act.put, zsa, zsz, zss])
 go_cut [30] (fun v30 wc => ∃ (kq : Nat) (x30_1 : Bool), v30 = .bool x30_1 ∧ Aside0 (sound_CheckNet.j0 kq x30_1 l0_0 a0_1 a0_2 = some r) ∧ Aside0 (kq ≤ k) ∧ Aside0 (wc.heap[gb101]? = some (.cells #[(.slice A0_0 l0_0.length c0_0), .int .i64 a0_1, .int .i64 a0_2] 26 (0, 0))) ∧ Aside0 (Below w.heap.size w wc))
 case first =>
  have H := HC2.out
  clear HC2
  by_cases c4 : (l0_0.length : Int) < 2
  ·rw [if_pos c4] at H
   have c4b0 : decide ((l0_0.length : Int) < 2) = true := zdt c4
   have c4b1 : decide (l0_0.length < 2) = true := zdt (by omega)
   clear c4
   (first | rw [c4b0] | (simp only [i64_w, i32_w]; rw [c4b0]) | skip)
   have H' := zam H
   clear H
   have hcz5_0 : w3.cell? ⟨gb101, 0, none⟩ = some (.slice A0_0 l0_0.length c0_0) := (zkc BK101.out 0).trans rfl
   have hcz5_1 : w3.cell? ⟨gb101, 1, none⟩ = some (.int .i64 a0_1) := (zkc BK101.out 1).trans rfl
   have hcz5_2 : w3.cell? ⟨gb101, 2, none⟩ = some (.int .i64 a0_2) := (zkc BK101.out 2).trans rfl
   have hfz5_0 := zkz BK101.out 0
   have hfz5_1 := zkz BK101.out 1
   have hfz5_2 := zkz BK101.out 2
   go_wp2
   go_meet
   case rel => exact ⟨_, (true), (by first | rfl | (simp; done) | (simp [*]; done)), H', ⟨by first | omega | exact Nat.le_refl _⟩, ⟨by (with_reducible repeat (first | refine zkn ?_ _ | refine zkd ?_ | refine zka ?_ _)); exact BK101.out⟩, ⟨by repeat (first | (with_reducible first | exact HB.out | apply zba | apply zbn | apply zb1 | refine zbs ?_ GE101.out) | exact HB.out)⟩⟩
  rw [if_neg c4] at H
  have c4b0 : decide ((l0_0.length : Int) < 2) = false := zdf c4
  have c4b1 : decide (l0_0.length < 2) = false := zdf (by omega)
  clear c4
  (first | rw [c4b0] | (simp only [i64_w, i32_w]; rw [c4b0]) | skip)
  by_cases c6 : (l0_0.length : Int) > 8
  ·rw [if_pos c6] at H
   have c6b0 : decide (8 < (l0_0.length : Int)) = true := zdt c6
   have c6b1 : decide (8 < l0_0.length) = true := zdt (by omega)
   clear c6
   have H' := zam H
   clear H
   have hcz7_0 : w3.cell? ⟨gb101, 0, none⟩ = some (.slice A0_0 l0_0.length c0_0) := (zkc BK101.out 0).trans rfl
   have hcz7_1 : w3.cell? ⟨gb101, 1, none⟩ = some (.int .i64 a0_1) := (zkc BK101.out 1).trans rfl
   have hcz7_2 : w3.cell? ⟨gb101, 2, none⟩ = some (.int .i64 a0_2) := (zkc BK101.out 2).trans rfl
   have hfz7_0 := zkz BK101.out 0
   have hfz7_1 := zkz BK101.out 1
   have hfz7_2 := zkz BK101.out 2
   go_wp2
   go_meet
   case rel => exact ⟨_, (true), (by first | rfl | (simp; done) | (simp [*]; done)), H', ⟨by first | omega | exact Nat.le_refl _⟩, ⟨by (with_reducible repeat (first | refine zkn ?_ _ | refine zkd ?_ | refine zka ?_ _)); exact BK101.out⟩, ⟨by repeat (first | (with_reducible first | exact HB.out | apply zba | apply zbn | apply zb1 | refine zbs ?_ GE101.out) | exact HB.out)⟩⟩
  rw [if_neg c6] at H
  have c6b0 : decide (8 < (l0_0.length : Int)) = false := zdf c6
  have c6b1 : decide (8 < l0_0.length) = false := zdf (by omega)
  clear c6
  replace H := Option.bind_eq_some_iff.mp H
  obtain ⟨t102, A80, H⟩ := H
  replace H : (if t102 = 0 then (if a0_1 < 1 then (sound_CheckNet.j0 k true l0_0 a0_1 a0_2) else (sound_CheckNet.j0 k (decide (a0_2 > 20000)) l0_0 a0_1 a0_2)) else (sound_CheckNet.j0 k true l0_0 a0_1 a0_2)) = some r := H
  have A8 := zam A80
  clear A80
  by_cases c9 : t102 = 0
  ·rw [if_pos c9] at H
   have c9b0 : (t102 == 0) = true := beq_iff_eq.mpr c9
   have c9b1 : (t102 != 0) = false := bne_eq_false_iff_eq.mpr c9
   clear c9
   by_cases c10 : a0_1 < 1
   ·rw [if_pos c10] at H
    have c10b0 : decide (a0_1 < 1) = true := zdt c10
    clear c10
    have H' := zam H
    clear H
    have hcz11_0 : w3.cell? ⟨gb101, 0, none⟩ = some (.slice A0_0 l0_0.length c0_0) := (zkc BK101.out 0).trans rfl
    have hcz11_1 : w3.cell? ⟨gb101, 1, none⟩ = some (.int .i64 a0_1) := (zkc BK101.out 1).trans rfl
    have hcz11_2 : w3.cell? ⟨gb101, 2, none⟩ = some (.int .i64 a0_2) := (zkc BK101.out 2).trans rfl
    have hfz11_0 := zkz BK101.out 0
    have hfz11_1 := zkz BK101.out 1
    have hfz11_2 := zkz BK101.out 2
    go_wp2_with (first | (go_at_call 96; (with_reducible refine (bound_Check.calls k a0_1 a0_2 t102 _ A8.out).mono ?_); rintro e w12 ⟨rfl, hb⟩; have n0_ := zam (zkb (g := gb101) (o := .cells #[.slice A0_0 l0_0.length c0_0, .int .i64 a0_1, .int .i64 a0_2] 26 (0, 0)) (by (with_reducible repeat (first | refine zkn ?_ _ | refine zkd ?_ | refine zka ?_ _)); exact BK101.out) hb); have n1_ := zam (zbt (by repeat (first | (with_reducible first | exact HB.out | apply zba | apply zbn | apply zb1 | refine zbs ?_ GE101.out) | exact HB.out)) hb); clear BK101; clear HB; have BK101 := n0_; have HB := n1_; clear n0_ n1_; (try clear hb); (try clear hb2); (try clear hk); (try clear hi); have hcz13_0 : w12.cell? ⟨gb101, 0, none⟩ = some (.slice A0_0 l0_0.length c0_0) := (zkc BK101.out 0).trans rfl; have hcz13_1 : w12.cell? ⟨gb101, 1, none⟩ = some (.int .i64 a0_1) := (zkc BK101.out 1).trans rfl; have hcz13_2 : w12.cell? ⟨gb101, 2, none⟩ = some (.int .i64 a0_2) := (zkc BK101.out 2).trans rfl; have hfz13_0 := zkz BK101.out 0; have hfz13_1 := zkz BK101.out 1; have hfz13_2 := zkz BK101.out 2))
    go_meet
    case rel => exact ⟨_, (true), (by first | rfl | (simp; done) | (simp [*]; done)), H', ⟨by first | omega | exact Nat.le_refl _⟩, ⟨by (with_reducible repeat (first | refine zkn ?_ _ | refine zkd ?_ | refine zka ?_ _)); exact BK101.out⟩, ⟨by repeat (first | (with_reducible first | exact HB.out | apply zba | apply zbn | apply zb1 | refine zbs ?_ GE101.out) | exact HB.out)⟩⟩
   rw [if_neg c10] at H
   have c10b0 : decide (a0_1 < 1) = false := zdf c10
   clear c10
   have H' := zam H
   clear H
   have hcz14_0 : w3.cell? ⟨gb101, 0, none⟩ = some (.slice A0_0 l0_0.length c0_0) := (zkc BK101.out 0).trans rfl
   have hcz14_1 : w3.cell? ⟨gb101, 1, none⟩ = some (.int .i64 a0_1) := (zkc BK101.out 1).trans rfl
   have hcz14_2 : w3.cell? ⟨gb101, 2, none⟩ = some (.int .i64 a0_2) := (zkc BK101.out 2).trans rfl
   have hfz14_0 := zkz BK101.out 0
   have hfz14_1 := zkz BK101.out 1
   have hfz14_2 := zkz BK101.out 2
   go_wp2_with (first | (go_at_call 96; (with_reducible refine (bound_Check.calls k a0_1 a0_2 t102 _ A8.out).mono ?_); rintro e w15 ⟨rfl, hb⟩; have n0_ := zam (zkb (g := gb101) (o := .cells #[.slice A0_0 l0_0.length c0_0, .int .i64 a0_1, .int .i64 a0_2] 26 (0, 0)) (by (with_reducible repeat (first | refine zkn ?_ _ | refine zkd ?_ | refine zka ?_ _)); exact BK101.out) hb); have n1_ := zam (zbt (by repeat (first | (with_reducible first | exact HB.out | apply zba | apply zbn | apply zb1 | refine zbs ?_ GE101.out) | exact HB.out)) hb); clear BK101; clear HB; have BK101 := n0_; have HB := n1_; clear n0_ n1_; (try clear hb); (try clear hb2); (try clear hk); (try clear hi); have hcz16_0 : w15.cell? ⟨gb101, 0, none⟩ = some (.slice A0_0 l0_0.length c0_0) := (zkc BK101.out 0).trans rfl; have hcz16_1 : w15.cell? ⟨gb101, 1, none⟩ = some (.int .i64 a0_1) := (zkc BK101.out 1).trans rfl; have hcz16_2 : w15.cell? ⟨gb101, 2, none⟩ = some (.int .i64 a0_2) := (zkc BK101.out 2).trans rfl; have hfz16_0 := zkz BK101.out 0; have hfz16_1 := zkz BK101.out 1; have hfz16_2 := zkz BK101.out 2))
   go_meet
   case rel => exact ⟨_, (decide (a0_2 > 20000)), (by first | rfl | (simp; done) | (simp [*]; done)), H', ⟨by first | omega | exact Nat.le_refl _⟩, ⟨by (with_reducible repeat (first | refine zkn ?_ _ | refine zkd ?_ | refine zka ?_ _)); exact BK101.out⟩, ⟨by repeat (first | (with_reducible first | exact HB.out | apply zba | apply zbn | apply zb1 | refine zbs ?_ GE101.out) | exact HB.out)⟩⟩
  rw [if_neg c9] at H
  have c9b0 : (t102 == 0) = false := beq_eq_false_iff_ne.mpr c9
  have c9b1 : (t102 != 0) = true := bne_iff_ne.mpr c9
  have H' := zam H
  clear H
  have hcz17_0 : w3.cell? ⟨gb101, 0, none⟩ = some (.slice A0_0 l0_0.length c0_0) := (zkc BK101.out 0).trans rfl
  have hcz17_1 : w3.cell? ⟨gb101, 1, none⟩ = some (.int .i64 a0_1) := (zkc BK101.out 1).trans rfl
  have hcz17_2 : w3.cell? ⟨gb101, 2, none⟩ = some (.int .i64 a0_2) := (zkc BK101.out 2).trans rfl
  have hfz17_0 := zkz BK101.out 0
  have hfz17_1 := zkz BK101.out 1
  have hfz17_2 := zkz BK101.out 2
  go_wp2_with (first | (go_at_call 96; (with_reducible refine (bound_Check.calls k a0_1 a0_2 t102 _ A8.out).mono ?_); rintro e w18 ⟨rfl, hb⟩; have n0_ := zam (zkb (g := gb101) (o := .cells #[.slice A0_0 l0_0.length c0_0, .int .i64 a0_1, .int .i64 a0_2] 26 (0, 0)) (by (with_reducible repeat (first | refine zkn ?_ _ | refine zkd ?_ | refine zka ?_ _)); exact BK101.out) hb); have n1_ := zam (zbt (by repeat (first | (with_reducible first | exact HB.out | apply zba | apply zbn | apply zb1 | refine zbs ?_ GE101.out) | exact HB.out)) hb); clear BK101; clear HB; have BK101 := n0_; have HB := n1_; clear n0_ n1_; (try clear hb); (try clear hb2); (try clear hk); (try clear hi)))
  go_meet
  case rel => exact ⟨_, (true), (by first | rfl | (simp; done) | (simp [*]; done)), H', ⟨by first | omega | exact Nat.le_refl _⟩, ⟨by (with_reducible repeat (first | refine zkn ?_ _ | refine zkd ?_ | refine zka ?_ _)); exact BK101.out⟩, ⟨by repeat (first | (with_reducible first | exact HB.out | apply zba | apply zbn | apply zb1 | refine zbs ?_ GE101.out) | exact HB.out)⟩⟩
 case rest =>
  clear HC2
  try clear c1
  try clear p2
  try clear c4
  try clear c4b0
  try clear c4b1
  try clear c5
  try clear c6
  try clear c6b0
  try clear c6b1
  try clear c9
  try clear c9b0
  try clear c9b1
  try clear c10
  try clear c10b0
  try clear hcz11_0
  try clear hcz11_1
  try clear hcz11_2
  try clear hcz13_0
  try clear hcz13_1
  try clear hcz13_2
  try clear hcz14_0
  try clear hcz14_1
  try clear hcz14_2
  try clear hcz16_0
  try clear hcz16_1
  try clear hcz16_2
  try clear hcz17_0
  try clear hcz17_1
  try clear hcz17_2
  try clear hcz5_0
  try clear hcz5_1
  try clear hcz5_2
  try clear hcz7_0
  try clear hcz7_1
  try clear hcz7_2
  try clear hfz11_0
  try clear hfz11_1
  try clear hfz11_2
  try clear hfz13_0
  try clear hfz13_1
  try clear hfz13_2
  try clear hfz14_0
  try clear hfz14_1
  try clear hfz14_2
  try clear hfz16_0
  try clear hfz16_1
  try clear hfz16_2
  try clear hfz17_0
  try clear hfz17_1
  try clear hfz17_2
  try clear hfz5_0
  try clear hfz5_1
  try clear hfz5_2
  try clear hfz7_0
  try clear hfz7_1
  try clear hfz7_2
  obtain ⟨kq, x30_1, rfl, HA, HJ1, BK101, HB⟩ := hcut
  cases kq with
  | zero => exact absurd HA.out (by simp [sound_CheckNet.j0])
  | succ kj1 =>
   have H := HA.out
   clear HA
   simp only [sound_CheckNet.j0] at H
   by_cases c19 : x30_1 = true
   ·subst c19
    have H1 : (some 2) = some r := by rw [if_pos rfl] at H; exact H
    clear H
    have H := H1
    clear H1
    obtain rfl := zsi H
    go_wp2
    go_ret
    exact ⟨by first | rfl | (simp [errW_none, errW_some] <;> rfl) | (simp [*, errW_none, errW_some] <;> rfl), by repeat (first | (with_reducible first | exact HB.out | apply zba | apply zbn | apply zb1 | refine zbs ?_ GE101.out) | exact HB.out)⟩
   replace c19 := Bool.eq_false_iff.mpr c19
   subst c19
   have H1 : ((slices_ContainsFunc_Box_sound_CheckNet_1.f kj1 l0_0).bind fun t103 => (if t103 = true then (some 2) else (some 0))) = some r := by rw [if_neg (show ¬ (false = true) by decide)] at H; exact H
   clear H
   have H := H1
   clear H1
   replace H := Option.bind_eq_some_iff.mp H
   obtain ⟨t103, A200, H⟩ := H
   replace H : (if t103 = true then (some 2) else (some 0)) = some r := H
   have A20 := zam A200
   clear A200
   by_cases c21 : t103 = true
   ·subst c21
    have H1 : (some 2) = some r := by rw [if_pos rfl] at H; exact H
    clear H
    have H := H1
    clear H1
    obtain rfl := zsi H
    have hcz22_0 : wc.cell? ⟨gb101, 0, none⟩ = some (.slice A0_0 l0_0.length c0_0) := (zkc BK101.out 0).trans rfl
    have hcz22_1 : wc.cell? ⟨gb101, 1, none⟩ = some (.int .i64 a0_1) := (zkc BK101.out 1).trans rfl
    have hcz22_2 : wc.cell? ⟨gb101, 2, none⟩ = some (.int .i64 a0_2) := (zkc BK101.out 2).trans rfl
    have hfz22_0 := zkz BK101.out 0
    have hfz22_1 := zkz BK101.out 1
    have hfz22_2 := zkz BK101.out 2
    go_wp2_with (first | ((with_reducible refine zgc (f := 97) rfl ?_); refine goesL_ (some 33) rfl rfl Try.func97 (by kernel_rfl) rfl #[.slice A0_0 l0_0.length c0_0, .func (.func 98) #[] #[]] rfl (by (try simp only [zmt, List.map_cons, List.map_nil]); first | done | rfl | (simp only [zld, zlt]; rfl)) ?_; (with_reducible refine (slices_ContainsFunc_Box_sound_CheckNet_1.calls kj1 _ _ l0_0  true _ ?side1 ?side2 A20.out).mono ?_); (case side1 => repeat (first | exact (Kd.C_below HR0_0.out HB.out) | (with_reducible refine Kd.C_alloc ?_ _) | (with_reducible refine Kd.C_drewN ?_ _) | (with_reducible refine Kd.C_drew ?_))); (case side2 => exact HC0_0.out); rintro e w23 ⟨rfl, hb⟩; refine ⟨_, rfl, ?_⟩; have n0_ := zam (zkb (g := gb101) (o := .cells #[.slice A0_0 l0_0.length c0_0, .int .i64 a0_1, .int .i64 a0_2] 26 (0, 0)) (by (with_reducible repeat (first | refine zkn ?_ _ | refine zkd ?_ | refine zka ?_ _)); exact BK101.out) hb); have n1_ := zam (zbt (by repeat (first | (with_reducible first | exact HB.out | apply zba | apply zbn | apply zb1 | refine zbs ?_ GE101.out) | exact HB.out)) hb); clear BK101; clear HB; have BK101 := n0_; have HB := n1_; clear n0_ n1_; (try clear hb); (try clear hb2); (try clear hk); (try clear hi)))
    go_ret
    exact ⟨by first | rfl | (simp [errW_none, errW_some] <;> rfl) | (simp [*, errW_none, errW_some] <;> rfl), by repeat (first | (with_reducible first | exact HB.out | apply zba | apply zbn | apply zb1 | refine zbs ?_ GE101.out) | exact HB.out)⟩
   replace c21 := Bool.eq_false_iff.mpr c21
   subst c21
   have H1 : (some 0) = some r := by rw [if_neg (show ¬ (false = true) by decide)] at H; exact H
   clear H
   have H := H1
   clear H1
   obtain rfl := zsi H
   have hcz24_0 : wc.cell? ⟨gb101, 0, none⟩ = some (.slice A0_0 l0_0.length c0_0) := (zkc BK101.out 0).trans rfl
   have hcz24_1 : wc.cell? ⟨gb101, 1, none⟩ = some (.int .i64 a0_1) := (zkc BK101.out 1).trans rfl
   have hcz24_2 : wc.cell? ⟨gb101, 2, none⟩ = some (.int .i64 a0_2) := (zkc BK101.out 2).trans rfl
   have hfz24_0 := zkz BK101.out 0
   have hfz24_1 := zkz BK101.out 1
   have hfz24_2 := zkz BK101.out 2
   go_wp2_with (first | ((with_reducible refine zgc (f := 97) rfl ?_); refine goesL_ (some 33) rfl rfl Try.func97 (by kernel_rfl) rfl #[.slice A0_0 l0_0.length c0_0, .func (.func 98) #[] #[]] rfl (by (try simp only [zmt, List.map_cons, List.map_nil]); first | done | rfl | (simp only [zld, zlt]; rfl)) ?_; (with_reducible refine (slices_ContainsFunc_Box_sound_CheckNet_1.calls kj1 _ _ l0_0  false _ ?side1 ?side2 A20.out).mono ?_); (case side1 => repeat (first | exact (Kd.C_below HR0_0.out HB.out) | (with_reducible refine Kd.C_alloc ?_ _) | (with_reducible refine Kd.C_drewN ?_ _) | (with_reducible refine Kd.C_drew ?_))); (case side2 => exact HC0_0.out); rintro e w25 ⟨rfl, hb⟩; refine ⟨_, rfl, ?_⟩; have n0_ := zam (zkb (g := gb101) (o := .cells #[.slice A0_0 l0_0.length c0_0, .int .i64 a0_1, .int .i64 a0_2] 26 (0, 0)) (by (with_reducible repeat (first | refine zkn ?_ _ | refine zkd ?_ | refine zka ?_ _)); exact BK101.out) hb); have n1_ := zam (zbt (by repeat (first | (with_reducible first | exact HB.out | apply zba | apply zbn | apply zb1 | refine zbs ?_ GE101.out) | exact HB.out)) hb); clear BK101; clear HB; have BK101 := n0_; have HB := n1_; clear n0_ n1_; (try clear hb); (try clear hb2); (try clear hk); (try clear hi)))
   go_ret
   exact ⟨by first | rfl | (simp [errW_none, errW_some] <;> rfl) | (simp [*, errW_none, errW_some] <;> rfl), by repeat (first | (with_reducible first | exact HB.out | apply zba | apply zbn | apply zb1 | refine zbs ?_ GE101.out) | exact HB.out)⟩
def IsS137 (w0 W : World) (g : Nat) (f0 : List (S29)) (f1 : Int) (f2 : Int) (f3 : List (S24)) : Prop := ∃ A0 c0, ∃ A3 c3, W.heap[g]? = some (.cells #[.slice A0 f0.length c0, .int .i64 f1, .int .i64 f2, .slice A3 f3.length c3] 137 (0, 0)) ∧ w0.heap.size ≤ g ∧ Kd.C k29 w0 A0 f0.length f0 ∧ Kd.C k24 w0 A3 f3.length f3
theorem IsS137.grown {w0 W : World} {g : Nat} {f0 : List (S29)} {f1 : Int} {f2 : Int} {f3 : List (S24)} {W1 : World} {row : Option Nat} (h : IsS137 w0 W g f0 f1 f2 f3) (hw : W.grownBy W1 row) (hne : some g ≠ row) : IsS137 w0 W1 g f0 f1 f2 f3 := by
 obtain ⟨A0, c0, A3, c3, hb, hg, hr0, hr3⟩ := h
 exact ⟨A0, c0, A3, c3, blk_grown hb hw hne, hg, hr0, hr3⟩
theorem IsS137.kept {w0 W : World} {g : Nat} {f0 : List (S29)} {f1 : Int} {f2 : Int} {f3 : List (S24)} {W1 : World} {S : Nat → Prop} (h : IsS137 w0 W g f0 f1 f2 f3) (hk : Kept W W1 S) (hne : ¬ S g) : IsS137 w0 W1 g f0 f1 f2 f3 := by
 obtain ⟨A0, c0, A3, c3, hb, hg, hr0, hr3⟩ := h
 exact ⟨A0, c0, A3, c3, blk_kept hb hk hne, hg, hr0, hr3⟩
theorem IsS137.below {w0 W : World} {g : Nat} {f0 : List (S29)} {f1 : Int} {f2 : Int} {f3 : List (S24)} {W1 : World} (h : IsS137 w0 W g f0 f1 f2 f3) (hw : Below W.heap.size W W1) : IsS137 w0 W1 g f0 f1 f2 f3 := h.grown (grown_of_below hw none) (by simp)
theorem IsS137.alloc {w0 W : World} {g : Nat} {f0 : List (S29)} {f1 : Int} {f2 : Int} {f3 : List (S24)} (h : IsS137 w0 W g f0 f1 f2 f3) (o : Obj) : IsS137 w0 (W.alloc o) g f0 f1 f2 f3 := h.below (zba (Below.refl _ _) o)
theorem IsS137.drewN {w0 W : World} {g : Nat} {f0 : List (S29)} {f1 : Int} {f2 : Int} {f3 : List (S24)} (h : IsS137 w0 W g f0 f1 f2 f3) (m : Nat) : IsS137 w0 (W.drewN m) g f0 f1 f2 f3 := h
theorem IsS137.drew {w0 W : World} {g : Nat} {f0 : List (S29)} {f1 : Int} {f2 : Int} {f3 : List (S24)} (h : IsS137 w0 W g f0 f1 f2 f3) : IsS137 w0 W.drew g f0 f1 f2 f3 := h
theorem IsS137.at_ {w0 W : World} {g : Nat} {f0 : List (S29)} {f1 : Int} {f2 : Int} {f3 : List (S24)} {w' : World} {m : Nat} (hq : W.drewN m = w') (h : IsS137 w0 W g f0 f1 f2 f3) : IsS137 w0 w' g f0 f1 f2 f3 := by subst hq; exact IsS137.drewN h m
theorem IsS137.apart {w0 W : World} {g : Nat} {f0 : List (S29)} {f1 : Int} {f2 : Int} {f3 : List (S24)} {α : Type} {d : Kd α} {e : Nat} {base : Nat} {ok : Nat → Prop} {v : Value} {xs : List α} (h : IsS137 w0 W g f0 f1 f2 f3) (ho : d.R e W base ok v xs) (ht : ∀ q, q ∈ e :: d.E → q ≠ 137) : d.R e W base (fun k => ok k ∧ k ≠ g) v xs := by
 obtain ⟨A0, c0, A3, c3, hb, hg, hr0, hr3⟩ := h
 exact Kd.R_types ho hb ht
theorem IsS137.own_ne {w0 W : World} {g : Nat} {f0 : List (S29)} {f1 : Int} {f2 : Int} {f3 : List (S24)} {α : Type} {d : Kd α} {e : Nat} {base : Nat} {ok : Nat → Prop} {v : Value} {xs : List α} (h : IsS137 w0 W g f0 f1 f2 f3) (ho : d.R e W base ok v xs) (ht : e ≠ 137) : some g ≠ v.ownBlock := by
 obtain ⟨A0, c0, A3, c3, hb, hg, hr0, hr3⟩ := h
 exact Kd.R_ne ho hb ht
theorem IsS137.far {w0 W : World} {g : Nat} {f0 : List (S29)} {f1 : Int} {f2 : Int} {f3 : List (S24)} {p : Addr} (h : IsS137 w0 W g f0 f1 f2 f3) (hne : g ≠ p.block) (u : Value) : IsS137 w0 (W.setCell p u) g f0 f1 f2 f3 := by
 obtain ⟨A0, c0, A3, c3, hb, hg, hr0, hr3⟩ := h
 exact ⟨A0, c0, A3, c3, zkf hb hne u, hg, hr0, hr3⟩
def bound_apart.f (a0_0 : Int) (a0_1 : Int) (a1_0 : Int) (a1_1 : Int) : Option (Int × Int) := some (mx (mx 0 (wrap64 (a0_0 - a1_1))) (wrap64 (a1_0 - a0_1)), mx (wrap64 (a0_1 - a1_0)) (wrap64 (a1_1 - a0_0)))
set_option maxHeartbeats 8000000 in
set_option maxRecDepth 100000 in
theorem bound_apart.calls (a0_0 : Int) (a0_1 : Int) (a1_0 : Int) (a1_1 : Int) (r1 : Int) (r2 : Int) (w : World) (h : bound_apart.f a0_0 a0_1 a1_0 a1_1 = some (r1, r2)) :
  Calls Try.prog 135 #[.agg #[.int .i64 a0_0, .int .i64 a0_1], .agg #[.int .i64 a1_0, .int .i64 a1_1]] w fun e w' => e = .returned (.tuple #[.int .i64 r1, .int .i64 r2]) ∧ Below w.heap.size w w' := by
 have hu24 := Try.underlying24
 have HB := zam (Below.refl w.heap.size w)
 have H : (some (mx (mx 0 (wrap64 (a0_0 - a1_1))) (wrap64 (a1_0 - a0_1)), mx (wrap64 (a0_1 - a1_0)) (wrap64 (a1_1 - a0_0)))) = some (r1, r2) := h
 clear h
 obtain ⟨ji3, hji3⟩ : ∃ j_ : Int, (mx 0 (wrap64 (a0_0 - a1_1))) = j_ := ⟨_, rfl⟩
 replace H : (some (mx (ji3) (wrap64 (a1_0 - a0_1)), mx (wrap64 (a0_1 - a1_0)) (wrap64 (a1_1 - a0_0)))) = some (r1, r2) := by first | (rw [hji3] at H; exact H) | (simp only [hji3] at H ⊢; exact H)
 (try (have hji3l : 0 ≤ ji3 := by (rw [← hji3]; unfold mx; (repeat' split) <;> omega)))
 (try (have hji3m : 0 ≤ ji3 := by omega))
 have hji3_ : (if 0 < (wrap64 (a0_0 - a1_1)) then (wrap64 (a0_0 - a1_1)) else 0) = ji3 := hji3
 obtain ⟨ji4, hji4⟩ : ∃ j_ : Int, (mx (ji3) (wrap64 (a1_0 - a0_1))) = j_ := ⟨_, rfl⟩
 replace H : (some (ji4, mx (wrap64 (a0_1 - a1_0)) (wrap64 (a1_1 - a0_0)))) = some (r1, r2) := by first | (rw [hji4] at H; exact H) | (simp only [hji4] at H ⊢; exact H)
 have hji4_ : (if (ji3) < (wrap64 (a1_0 - a0_1)) then (wrap64 (a1_0 - a0_1)) else (ji3)) = ji4 := hji4
 obtain ⟨ji5, hji5⟩ : ∃ j_ : Int, (mx (wrap64 (a0_1 - a1_0)) (wrap64 (a1_1 - a0_0))) = j_ := ⟨_, rfl⟩
 replace H : (some (ji4, ji5)) = some (r1, r2) := by first | (rw [hji5] at H; exact H) | (simp only [hji5] at H ⊢; exact H)
 have hji5_ : (if (wrap64 (a0_1 - a1_0)) < (wrap64 (a1_1 - a0_0)) then (wrap64 (a1_1 - a0_0)) else (wrap64 (a0_1 - a1_0))) = ji5 := hji5
 simp only [Option.some.injEq, Prod.mk.injEq] at H
 obtain ⟨rfl, rfl⟩ := H
 go_enter Try.func135, Try.ntmps135
 go_wp2_with (first | ((with_reducible refine zgd (N := 2) rfl ?_); refine box_event ?hg (N := 2) ?hd (cs := #[.int .i64 a0_0, .int .i64 a0_1]) (t := 24) ?hr ?_; (case hd => rfl); (case hg => rfl); (case hr => first | (go_simp; done) | (go_simp; rfl)); intro gb101 hg w6 hbox hb; have n0_ := zam (zbt (by repeat (first | (with_reducible first | exact HB.out | apply zba | apply zbn | apply zb1) | exact HB.out)) hb); have n1_ := zam (hbox); have n2_ := zam ((by rw [hg]; exact (zbz (by repeat (first | (with_reducible first | exact HB.out | apply zba | apply zbn | apply zb1) | exact HB.out))) : w.heap.size ≤ gb101)); have n3_ := zam ((by rw [hg]; exact (zbz (by repeat (first | (with_reducible first | exact HB.out | apply zba | apply zbn | apply zb1) | exact HB.out))) : w.heap.size ≤ gb101)); clear HB; have HB := n0_; have BK101 := n1_; have GW101 := n2_; have GE101 := n3_; clear n0_ n1_ n2_ n3_; clear hb hbox hg) | ((with_reducible refine zgd (N := 3) rfl ?_); refine box_event ?hg (N := 3) ?hd (cs := #[.int .i64 a1_0, .int .i64 a1_1]) (t := 24) ?hr ?_; (case hd => rfl); (case hg => rfl); (case hr => first | (go_simp; done) | (go_simp; rfl)); intro gb102 hg w7 hbox hb; have n0_ := zam (zkb (g := gb101) (o := .cells #[.int .i64 a0_0, .int .i64 a0_1] 24 (0, 0)) (by (with_reducible repeat (first | refine zkn ?_ _ | refine zkd ?_ | refine zka ?_ _)); exact BK101.out) hb); have n1_ := zam (zbt (by repeat (first | (with_reducible first | exact HB.out | apply zba | apply zbn | apply zb1 | refine zbs ?_ GE101.out) | exact HB.out)) hb); have n2_ := zam (hbox); have n3_ := zam ((by rw [hg]; exact (zbz (by repeat (first | (with_reducible first | exact HB.out | apply zba | apply zbn | apply zb1 | refine zbs ?_ GE101.out) | exact HB.out))) : w.heap.size ≤ gb102)); have n4_ := zam ((by rw [hg]; exact (zbz (by repeat (first | (with_reducible first | exact HB.out | apply zba | apply zbn | apply zb1 | refine zbs ?_ GE101.out) | exact HB.out))) : w.heap.size ≤ gb102)); have n5_ := zam ((by rw [hg]; exact Nat.ne_of_lt (blk_lt (g := gb101) (o := .cells #[.int .i64 a0_0, .int .i64 a0_1] 24 (0, 0)) (by (with_reducible repeat (first | refine zkn ?_ _ | refine zkd ?_ | refine zka ?_ _)); exact BK101.out)) : gb101 ≠ gb102)); have n6_ := zam ((by rw [hg]; exact Nat.ne_of_gt (blk_lt (g := gb101) (o := .cells #[.int .i64 a0_0, .int .i64 a0_1] 24 (0, 0)) (by (with_reducible repeat (first | refine zkn ?_ _ | refine zkd ?_ | refine zka ?_ _)); exact BK101.out)) : gb102 ≠ gb101)); clear BK101; clear HB; have BK101 := n0_; have HB := n1_; have BK102 := n2_; have GW102 := n3_; have GE102 := n4_; have NB101_102 := n5_; have NB102_101 := n6_; clear n0_ n1_ n2_ n3_ n4_ n5_ n6_; clear hb hbox hg; have hnb8 := NB101_102.out; have hnc8 := NB102_101.out; have hcz9_0 : w7.cell? ⟨gb101, 0, none⟩ = some (.int .i64 a0_0) := (zkc BK101.out 0).trans rfl; have hcz9_1 : w7.cell? ⟨gb101, 1, none⟩ = some (.int .i64 a0_1) := (zkc BK101.out 1).trans rfl; have hfz9_0 := zkz BK101.out 0; have hfz9_1 := zkz BK101.out 1; have hcz10_0 : w7.cell? ⟨gb102, 0, none⟩ = some (.int .i64 a1_0) := (zkc BK102.out 0).trans rfl; have hcz10_1 : w7.cell? ⟨gb102, 1, none⟩ = some (.int .i64 a1_1) := (zkc BK102.out 1).trans rfl; have hfz10_0 := zkz BK102.out 0; have hfz10_1 := zkz BK102.out 1))
 repeat (go_quiet (first | ((with_reducible refine zgd (N := 2) rfl ?_); refine box_event ?hg (N := 2) ?hd (cs := #[.int .i64 a0_0, .int .i64 a0_1]) (t := 24) ?hr ?_; (case hd => rfl); (case hg => rfl); (case hr => first | (go_simp; done) | (go_simp; rfl)); intro gb101 hg w6 hbox hb; have n0_ := zam (zbt (by repeat (first | (with_reducible first | exact HB.out | apply zba | apply zbn | apply zb1) | exact HB.out)) hb); have n1_ := zam (hbox); have n2_ := zam ((by rw [hg]; exact (zbz (by repeat (first | (with_reducible first | exact HB.out | apply zba | apply zbn | apply zb1) | exact HB.out))) : w.heap.size ≤ gb101)); have n3_ := zam ((by rw [hg]; exact (zbz (by repeat (first | (with_reducible first | exact HB.out | apply zba | apply zbn | apply zb1) | exact HB.out))) : w.heap.size ≤ gb101)); clear HB; have HB := n0_; have BK101 := n1_; have GW101 := n2_; have GE101 := n3_; clear n0_ n1_ n2_ n3_; clear hb hbox hg) | ((with_reducible refine zgd (N := 3) rfl ?_); refine box_event ?hg (N := 3) ?hd (cs := #[.int .i64 a1_0, .int .i64 a1_1]) (t := 24) ?hr ?_; (case hd => rfl); (case hg => rfl); (case hr => first | (go_simp; done) | (go_simp; rfl)); intro gb102 hg w7 hbox hb; have n0_ := zam (zkb (g := gb101) (o := .cells #[.int .i64 a0_0, .int .i64 a0_1] 24 (0, 0)) (by (with_reducible repeat (first | refine zkn ?_ _ | refine zkd ?_ | refine zka ?_ _)); exact BK101.out) hb); have n1_ := zam (zbt (by repeat (first | (with_reducible first | exact HB.out | apply zba | apply zbn | apply zb1 | refine zbs ?_ GE101.out) | exact HB.out)) hb); have n2_ := zam (hbox); have n3_ := zam ((by rw [hg]; exact (zbz (by repeat (first | (with_reducible first | exact HB.out | apply zba | apply zbn | apply zb1 | refine zbs ?_ GE101.out) | exact HB.out))) : w.heap.size ≤ gb102)); have n4_ := zam ((by rw [hg]; exact (zbz (by repeat (first | (with_reducible first | exact HB.out | apply zba | apply zbn | apply zb1 | refine zbs ?_ GE101.out) | exact HB.out))) : w.heap.size ≤ gb102)); have n5_ := zam ((by rw [hg]; exact Nat.ne_of_lt (blk_lt (g := gb101) (o := .cells #[.int .i64 a0_0, .int .i64 a0_1] 24 (0, 0)) (by (with_reducible repeat (first | refine zkn ?_ _ | refine zkd ?_ | refine zka ?_ _)); exact BK101.out)) : gb101 ≠ gb102)); have n6_ := zam ((by rw [hg]; exact Nat.ne_of_gt (blk_lt (g := gb101) (o := .cells #[.int .i64 a0_0, .int .i64 a0_1] 24 (0, 0)) (by (with_reducible repeat (first | refine zkn ?_ _ | refine zkd ?_ | refine zka ?_ _)); exact BK101.out)) : gb102 ≠ gb101)); clear BK101; clear HB; have BK101 := n0_; have HB := n1_; have BK102 := n2_; have GW102 := n3_; have GE102 := n4_; have NB101_102 := n5_; have NB102_101 := n6_; clear n0_ n1_ n2_ n3_ n4_ n5_ n6_; clear hb hbox hg; have hnb8 := NB101_102.out; have hnc8 := NB102_101.out; have hcz9_0 : w7.cell? ⟨gb101, 0, none⟩ = some (.int .i64 a0_0) := (zkc BK101.out 0).trans rfl; have hcz9_1 : w7.cell? ⟨gb101, 1, none⟩ = some (.int .i64 a0_1) := (zkc BK101.out 1).trans rfl; have hfz9_0 := zkz BK101.out 0; have hfz9_1 := zkz BK101.out 1; have hcz10_0 : w7.cell? ⟨gb102, 0, none⟩ = some (.int .i64 a1_0) := (zkc BK102.out 0).trans rfl; have hcz10_1 : w7.cell? ⟨gb102, 1, none⟩ = some (.int .i64 a1_1) := (zkc BK102.out 1).trans rfl; have hfz10_0 := zkz BK102.out 0; have hfz10_1 := zkz BK102.out 1)); try go_wp2_with (first | ((with_reducible refine zgd (N := 2) rfl ?_); refine box_event ?hg (N := 2) ?hd (cs := #[.int .i64 a0_0, .int .i64 a0_1]) (t := 24) ?hr ?_; (case hd => rfl); (case hg => rfl); (case hr => first | (go_simp; done) | (go_simp; rfl)); intro gb101 hg w6 hbox hb; have n0_ := zam (zbt (by repeat (first | (with_reducible first | exact HB.out | apply zba | apply zbn | apply zb1) | exact HB.out)) hb); have n1_ := zam (hbox); have n2_ := zam ((by rw [hg]; exact (zbz (by repeat (first | (with_reducible first | exact HB.out | apply zba | apply zbn | apply zb1) | exact HB.out))) : w.heap.size ≤ gb101)); have n3_ := zam ((by rw [hg]; exact (zbz (by repeat (first | (with_reducible first | exact HB.out | apply zba | apply zbn | apply zb1) | exact HB.out))) : w.heap.size ≤ gb101)); clear HB; have HB := n0_; have BK101 := n1_; have GW101 := n2_; have GE101 := n3_; clear n0_ n1_ n2_ n3_; clear hb hbox hg) | ((with_reducible refine zgd (N := 3) rfl ?_); refine box_event ?hg (N := 3) ?hd (cs := #[.int .i64 a1_0, .int .i64 a1_1]) (t := 24) ?hr ?_; (case hd => rfl); (case hg => rfl); (case hr => first | (go_simp; done) | (go_simp; rfl)); intro gb102 hg w7 hbox hb; have n0_ := zam (zkb (g := gb101) (o := .cells #[.int .i64 a0_0, .int .i64 a0_1] 24 (0, 0)) (by (with_reducible repeat (first | refine zkn ?_ _ | refine zkd ?_ | refine zka ?_ _)); exact BK101.out) hb); have n1_ := zam (zbt (by repeat (first | (with_reducible first | exact HB.out | apply zba | apply zbn | apply zb1 | refine zbs ?_ GE101.out) | exact HB.out)) hb); have n2_ := zam (hbox); have n3_ := zam ((by rw [hg]; exact (zbz (by repeat (first | (with_reducible first | exact HB.out | apply zba | apply zbn | apply zb1 | refine zbs ?_ GE101.out) | exact HB.out))) : w.heap.size ≤ gb102)); have n4_ := zam ((by rw [hg]; exact (zbz (by repeat (first | (with_reducible first | exact HB.out | apply zba | apply zbn | apply zb1 | refine zbs ?_ GE101.out) | exact HB.out))) : w.heap.size ≤ gb102)); have n5_ := zam ((by rw [hg]; exact Nat.ne_of_lt (blk_lt (g := gb101) (o := .cells #[.int .i64 a0_0, .int .i64 a0_1] 24 (0, 0)) (by (with_reducible repeat (first | refine zkn ?_ _ | refine zkd ?_ | refine zka ?_ _)); exact BK101.out)) : gb101 ≠ gb102)); have n6_ := zam ((by rw [hg]; exact Nat.ne_of_gt (blk_lt (g := gb101) (o := .cells #[.int .i64 a0_0, .int .i64 a0_1] 24 (0, 0)) (by (with_reducible repeat (first | refine zkn ?_ _ | refine zkd ?_ | refine zka ?_ _)); exact BK101.out)) : gb102 ≠ gb101)); clear BK101; clear HB; have BK101 := n0_; have HB := n1_; have BK102 := n2_; have GW102 := n3_; have GE102 := n4_; have NB101_102 := n5_; have NB102_101 := n6_; clear n0_ n1_ n2_ n3_ n4_ n5_ n6_; clear hb hbox hg; have hnb8 := NB101_102.out; have hnc8 := NB102_101.out; have hcz9_0 : w7.cell? ⟨gb101, 0, none⟩ = some (.int .i64 a0_0) := (zkc BK101.out 0).trans rfl; have hcz9_1 : w7.cell? ⟨gb101, 1, none⟩ = some (.int .i64 a0_1) := (zkc BK101.out 1).trans rfl; have hfz9_0 := zkz BK101.out 0; have hfz9_1 := zkz BK101.out 1; have hcz10_0 : w7.cell? ⟨gb102, 0, none⟩ = some (.int .i64 a1_0) := (zkc BK102.out 0).trans rfl; have hcz10_1 : w7.cell? ⟨gb102, 1, none⟩ = some (.int .i64 a1_1) := (zkc BK102.out 1).trans rfl; have hfz10_0 := zkz BK102.out 0; have hfz10_1 := zkz BK102.out 1)))
 go_ret2
 exact ⟨by first | rfl | (simp [errW_none, errW_some] <;> rfl) | (simp only [← hji3, ← hji4, ← hji5]; first | rfl | (simp [errW_none, errW_some] <;> rfl)) | (simp [*, errW_none, errW_some] <;> rfl), by repeat (first | (with_reducible first | exact HB.out | apply zba | apply zbn | apply zb1 | refine zbs ?_ GE101.out | refine zbs ?_ GE102.out) | exact HB.out)⟩
def bound_Square.j0 : Nat → Bool → Int → Int → Int → Int → Int → Int → Int → Int → Option (Int × Int × Int)
 | 0, _, _, _, _, _, _, _, _, _ => none
 | k + 1, x18, x102000, x102001, x102002, x102003, x103000, x103001, x103002, x103003 => if x18 = true then (some (0, 0, 2)) else ((bound_apart.f x102000 x102001 x103000 x103001).bind fun bt105 => ((bound_apart.f x102002 x102003 x103002 x103003).bind fun bt107 => (some (wrap64 ((wrap64 (bt105.1 * bt105.1)) + (wrap64 (bt107.1 * bt107.1))), wrap64 ((wrap64 (bt105.2 * bt105.2)) + (wrap64 (bt107.2 * bt107.2))), 0))))
def bound_Square.f (k : Nat) (a0_0 : Int) (a0_1 : Int) (a0_2 : Int) (a0_3 : Int) (a1_0 : Int) (a1_1 : Int) (a1_2 : Int) (a1_3 : Int) : Option (Int × Int × Int) := (bound_CheckBox.f k a0_0 a0_1 a0_2 a0_3).bind fun t103 => (if t103 = 0 then ((bound_CheckBox.f k a1_0 a1_1 a1_2 a1_3).bind fun t104 => (bound_Square.j0 k (t104 != 0) a0_0 a0_1 a0_2 a0_3 a1_0 a1_1 a1_2 a1_3)) else (bound_Square.j0 k true a0_0 a0_1 a0_2 a0_3 a1_0 a1_1 a1_2 a1_3))
set_option maxHeartbeats 8000000 in
set_option maxRecDepth 100000 in
theorem bound_Square.calls (k : Nat) (a0_0 : Int) (a0_1 : Int) (a0_2 : Int) (a0_3 : Int) (a1_0 : Int) (a1_1 : Int) (a1_2 : Int) (a1_3 : Int) (r1 : Int) (r2 : Int) (r3 : Int) (w : World) (h : bound_Square.f k a0_0 a0_1 a0_2 a0_3 a1_0 a1_1 a1_2 a1_3 = some (r1, r2, r3)) :
  Calls Try.prog 132 #[.agg #[.int .i64 a0_0, .int .i64 a0_1, .int .i64 a0_2, .int .i64 a0_3], .agg #[.int .i64 a1_0, .int .i64 a1_1, .int .i64 a1_2, .int .i64 a1_3]] w fun e w' => e = .returned (.tuple #[.int .i64 r1, .int .i64 r2, .int .i64 r3]) ∧ Below w.heap.size w w' := by
 have hu29 := Try.underlying29
 have hu24 := Try.underlying24
 have HB := zam (Below.refl w.heap.size w)
 have H : ((bound_CheckBox.f k a0_0 a0_1 a0_2 a0_3).bind fun t103 => (if t103 = 0 then ((bound_CheckBox.f k a1_0 a1_1 a1_2 a1_3).bind fun t104 => (bound_Square.j0 k (t104 != 0) a0_0 a0_1 a0_2 a0_3 a1_0 a1_1 a1_2 a1_3)) else (bound_Square.j0 k true a0_0 a0_1 a0_2 a0_3 a1_0 a1_1 a1_2 a1_3))) = some (r1, r2, r3) := h
 clear h
 have HC3 := zam H
 clear H
 go_enter Try.func132, Try.ntmps132
 go_upto_region 1 with (first | ((with_reducible refine zgd (N := 2) rfl ?_); refine box_event ?hg (N := 2) ?hd (cs := #[.int .i64 a0_0, .int .i64 a0_1, .int .i64 a0_2, .int .i64 a0_3]) (t := 29) ?hr ?_; (case hd => rfl); (case hg => rfl); (case hr => first | (go_simp; done) | (go_simp; rfl)); intro gb101 hg w4 hbox hb; have n0_ := zam (zbt (by repeat (first | (with_reducible first | exact HB.out | apply zba | apply zbn | apply zb1) | exact HB.out)) hb); have n1_ := zam (hbox); have n2_ := zam ((by rw [hg]; exact (zbz (by repeat (first | (with_reducible first | exact HB.out | apply zba | apply zbn | apply zb1) | exact HB.out))) : w.heap.size ≤ gb101)); have n3_ := zam ((by rw [hg]; exact (zbz (by repeat (first | (with_reducible first | exact HB.out | apply zba | apply zbn | apply zb1) | exact HB.out))) : w.heap.size ≤ gb101)); clear HB; have HB := n0_; have BK101 := n1_; have GW101 := n2_; have GE101 := n3_; clear n0_ n1_ n2_ n3_; clear hb hbox hg) | ((with_reducible refine zgd (N := 3) rfl ?_); refine box_event ?hg (N := 3) ?hd (cs := #[.int .i64 a1_0, .int .i64 a1_1, .int .i64 a1_2, .int .i64 a1_3]) (t := 29) ?hr ?_; (case hd => rfl); (case hg => rfl); (case hr => first | (go_simp; done) | (go_simp; rfl)); intro gb102 hg w5 hbox hb; have n0_ := zam (zkb (g := gb101) (o := .cells #[.int .i64 a0_0, .int .i64 a0_1, .int .i64 a0_2, .int .i64 a0_3] 29 (0, 0)) (by (with_reducible repeat (first | refine zkn ?_ _ | refine zkd ?_ | refine zka ?_ _)); exact BK101.out) hb); have n1_ := zam (zbt (by repeat (first | (with_reducible first | exact HB.out | apply zba | apply zbn | apply zb1 | refine zbs ?_ GE101.out) | exact HB.out)) hb); have n2_ := zam (hbox); have n3_ := zam ((by rw [hg]; exact (zbz (by repeat (first | (with_reducible first | exact HB.out | apply zba | apply zbn | apply zb1 | refine zbs ?_ GE101.out) | exact HB.out))) : w.heap.size ≤ gb102)); have n4_ := zam ((by rw [hg]; exact (zbz (by repeat (first | (with_reducible first | exact HB.out | apply zba | apply zbn | apply zb1 | refine zbs ?_ GE101.out) | exact HB.out))) : w.heap.size ≤ gb102)); have n5_ := zam ((by rw [hg]; exact Nat.ne_of_lt (blk_lt (g := gb101) (o := .cells #[.int .i64 a0_0, .int .i64 a0_1, .int .i64 a0_2, .int .i64 a0_3] 29 (0, 0)) (by (with_reducible repeat (first | refine zkn ?_ _ | refine zkd ?_ | refine zka ?_ _)); exact BK101.out)) : gb101 ≠ gb102)); have n6_ := zam ((by rw [hg]; exact Nat.ne_of_gt (blk_lt (g := gb101) (o := .cells #[.int .i64 a0_0, .int .i64 a0_1, .int .i64 a0_2, .int .i64 a0_3] 29 (0, 0)) (by (with_reducible repeat (first | refine zkn ?_ _ | refine zkd ?_ | refine zka ?_ _)); exact BK101.out)) : gb102 ≠ gb101)); clear BK101; clear HB; have BK101 := n0_; have HB := n1_; have BK102 := n2_; have GW102 := n3_; have GE102 := n4_; have NB101_102 := n5_; have NB102_101 := n6_; clear n0_ n1_ n2_ n3_ n4_ n5_ n6_; clear hb hbox hg))
 (try simp only [Act.put, zsa, zsz, zss])
 go_cut [18] (fun v18 wc => ∃ (kq : Nat) (x18_2 : Bool), v18 = .bool x18_2 ∧ Aside0 (bound_Square.j0 kq x18_2 a0_0 a0_1 a0_2 a0_3 a1_0 a1_1 a1_2 a1_3 = some (r1, r2, r3)) ∧ Aside0 (kq ≤ k) ∧ Aside0 (wc.heap[gb101]? = some (.cells #[.int .i64 a0_0, .int .i64 a0_1, .int .i64 a0_2, .int .i64 a0_3] 29 (0, 0))) ∧ Aside0 (wc.heap[gb102]? = some (.cells #[.int .i64 a1_0, .int .i64 a1_1, .int .i64 a1_2, .int .i64 a1_3] 29 (0, 0))) ∧ Aside0 (Below w.heap.size w wc))
 case first =>
  have H := HC3.out
  clear HC3
  replace H := Option.bind_eq_some_iff.mp H
  obtain ⟨t103, A60, H⟩ := H
  replace H : (if t103 = 0 then ((bound_CheckBox.f k a1_0 a1_1 a1_2 a1_3).bind fun t104 => (bound_Square.j0 k (t104 != 0) a0_0 a0_1 a0_2 a0_3 a1_0 a1_1 a1_2 a1_3)) else (bound_Square.j0 k true a0_0 a0_1 a0_2 a0_3 a1_0 a1_1 a1_2 a1_3)) = some (r1, r2, r3) := H
  have A6 := zam A60
  clear A60
  by_cases c7 : t103 = 0
  ·rw [if_pos c7] at H
   have c7b0 : (t103 == 0) = true := beq_iff_eq.mpr c7
   have c7b1 : (t103 != 0) = false := bne_eq_false_iff_eq.mpr c7
   clear c7
   (first | rw [c7b0] | (simp only [i64_w, i32_w]; rw [c7b0]) | skip)
   replace H := Option.bind_eq_some_iff.mp H
   obtain ⟨t104, A80, H⟩ := H
   replace H : (bound_Square.j0 k (t104 != 0) a0_0 a0_1 a0_2 a0_3 a1_0 a1_1 a1_2 a1_3) = some (r1, r2, r3) := H
   have A8 := zam A80
   clear A80
   have H' := zam H
   clear H
   have hnb9 := NB101_102.out
   have hnc9 := NB102_101.out
   have hcz10_0 : w5.cell? ⟨gb101, 0, none⟩ = some (.int .i64 a0_0) := (zkc BK101.out 0).trans rfl
   have hcz10_1 : w5.cell? ⟨gb101, 1, none⟩ = some (.int .i64 a0_1) := (zkc BK101.out 1).trans rfl
   have hcz10_2 : w5.cell? ⟨gb101, 2, none⟩ = some (.int .i64 a0_2) := (zkc BK101.out 2).trans rfl
   have hcz10_3 : w5.cell? ⟨gb101, 3, none⟩ = some (.int .i64 a0_3) := (zkc BK101.out 3).trans rfl
   have hfz10_0 := zkz BK101.out 0
   have hfz10_1 := zkz BK101.out 1
   have hfz10_2 := zkz BK101.out 2
   have hfz10_3 := zkz BK101.out 3
   go_wp2_with (first | ((with_reducible refine zgc (f := 79) rfl ?_); refine goesL_ (some 12) rfl rfl Try.func79 (by kernel_rfl) rfl #[.agg #[.int .i64 a0_0, .int .i64 a0_1, .int .i64 a0_2, .int .i64 a0_3]] rfl (by (try simp only [zmt, List.map_cons, List.map_nil]); first | done | rfl | (simp only [zld, zlt]; rfl)) ?_; (with_reducible refine (bound_CheckBox.calls k a0_0 a0_1 a0_2 a0_3 t103 _ A6.out).mono ?_); rintro e w11 ⟨rfl, hb⟩; refine ⟨_, rfl, ?_⟩; have n0_ := zam (zkb (g := gb101) (o := .cells #[.int .i64 a0_0, .int .i64 a0_1, .int .i64 a0_2, .int .i64 a0_3] 29 (0, 0)) (by (with_reducible repeat (first | refine zkn ?_ _ | refine zkd ?_ | refine zka ?_ _)); exact BK101.out) hb); have n1_ := zam (zkb (g := gb102) (o := .cells #[.int .i64 a1_0, .int .i64 a1_1, .int .i64 a1_2, .int .i64 a1_3] 29 (0, 0)) (by (with_reducible repeat (first | refine zkn ?_ _ | refine zkd ?_ | refine zka ?_ _)); exact BK102.out) hb); have n2_ := zam (zbt (by repeat (first | (with_reducible first | exact HB.out | apply zba | apply zbn | apply zb1 | refine zbs ?_ GE101.out | refine zbs ?_ GE102.out) | exact HB.out)) hb); clear BK101; clear BK102; clear HB; have BK101 := n0_; have BK102 := n1_; have HB := n2_; clear n0_ n1_ n2_; (try clear hb); (try clear hb2); (try clear hk); (try clear hi); have hcz12_0 : w11.cell? ⟨gb102, 0, none⟩ = some (.int .i64 a1_0) := (zkc BK102.out 0).trans rfl; have hcz12_1 : w11.cell? ⟨gb102, 1, none⟩ = some (.int .i64 a1_1) := (zkc BK102.out 1).trans rfl; have hcz12_2 : w11.cell? ⟨gb102, 2, none⟩ = some (.int .i64 a1_2) := (zkc BK102.out 2).trans rfl; have hcz12_3 : w11.cell? ⟨gb102, 3, none⟩ = some (.int .i64 a1_3) := (zkc BK102.out 3).trans rfl; have hfz12_0 := zkz BK102.out 0; have hfz12_1 := zkz BK102.out 1; have hfz12_2 := zkz BK102.out 2; have hfz12_3 := zkz BK102.out 3) | (go_at_call 79; (with_reducible refine (bound_CheckBox.calls k a1_0 a1_1 a1_2 a1_3 t104 _ A8.out).mono ?_); rintro e w13 ⟨rfl, hb⟩; have n0_ := zam (zkb (g := gb101) (o := .cells #[.int .i64 a0_0, .int .i64 a0_1, .int .i64 a0_2, .int .i64 a0_3] 29 (0, 0)) (by (with_reducible repeat (first | refine zkn ?_ _ | refine zkd ?_ | refine zka ?_ _)); exact BK101.out) hb); have n1_ := zam (zkb (g := gb102) (o := .cells #[.int .i64 a1_0, .int .i64 a1_1, .int .i64 a1_2, .int .i64 a1_3] 29 (0, 0)) (by (with_reducible repeat (first | refine zkn ?_ _ | refine zkd ?_ | refine zka ?_ _)); exact BK102.out) hb); have n2_ := zam (zbt (by repeat (first | (with_reducible first | exact HB.out | apply zba | apply zbn | apply zb1 | refine zbs ?_ GE101.out | refine zbs ?_ GE102.out) | exact HB.out)) hb); clear BK101; clear BK102; clear HB; have BK101 := n0_; have BK102 := n1_; have HB := n2_; clear n0_ n1_ n2_; (try clear hb); (try clear hb2); (try clear hk); (try clear hi)))
   go_meet
   case rel => exact ⟨_, ((t104 != 0)), (by first | rfl | (simp; done) | (simp [*]; done)), H', ⟨by first | omega | exact Nat.le_refl _⟩, ⟨by (with_reducible repeat (first | refine zkn ?_ _ | refine zkd ?_ | refine zka ?_ _)); exact BK101.out⟩, ⟨by (with_reducible repeat (first | refine zkn ?_ _ | refine zkd ?_ | refine zka ?_ _)); exact BK102.out⟩, ⟨by repeat (first | (with_reducible first | exact HB.out | apply zba | apply zbn | apply zb1 | refine zbs ?_ GE101.out | refine zbs ?_ GE102.out) | exact HB.out)⟩⟩
  rw [if_neg c7] at H
  have c7b0 : (t103 == 0) = false := beq_eq_false_iff_ne.mpr c7
  have c7b1 : (t103 != 0) = true := bne_iff_ne.mpr c7
  (first | rw [c7b0] | (simp only [i64_w, i32_w]; rw [c7b0]) | skip)
  have H' := zam H
  clear H
  have hnb14 := NB101_102.out
  have hnc14 := NB102_101.out
  have hcz15_0 : w5.cell? ⟨gb101, 0, none⟩ = some (.int .i64 a0_0) := (zkc BK101.out 0).trans rfl
  have hcz15_1 : w5.cell? ⟨gb101, 1, none⟩ = some (.int .i64 a0_1) := (zkc BK101.out 1).trans rfl
  have hcz15_2 : w5.cell? ⟨gb101, 2, none⟩ = some (.int .i64 a0_2) := (zkc BK101.out 2).trans rfl
  have hcz15_3 : w5.cell? ⟨gb101, 3, none⟩ = some (.int .i64 a0_3) := (zkc BK101.out 3).trans rfl
  have hfz15_0 := zkz BK101.out 0
  have hfz15_1 := zkz BK101.out 1
  have hfz15_2 := zkz BK101.out 2
  have hfz15_3 := zkz BK101.out 3
  go_wp2_with (first | ((with_reducible refine zgc (f := 79) rfl ?_); refine goesL_ (some 12) rfl rfl Try.func79 (by kernel_rfl) rfl #[.agg #[.int .i64 a0_0, .int .i64 a0_1, .int .i64 a0_2, .int .i64 a0_3]] rfl (by (try simp only [zmt, List.map_cons, List.map_nil]); first | done | rfl | (simp only [zld, zlt]; rfl)) ?_; (with_reducible refine (bound_CheckBox.calls k a0_0 a0_1 a0_2 a0_3 t103 _ A6.out).mono ?_); rintro e w16 ⟨rfl, hb⟩; refine ⟨_, rfl, ?_⟩; have n0_ := zam (zkb (g := gb101) (o := .cells #[.int .i64 a0_0, .int .i64 a0_1, .int .i64 a0_2, .int .i64 a0_3] 29 (0, 0)) (by (with_reducible repeat (first | refine zkn ?_ _ | refine zkd ?_ | refine zka ?_ _)); exact BK101.out) hb); have n1_ := zam (zkb (g := gb102) (o := .cells #[.int .i64 a1_0, .int .i64 a1_1, .int .i64 a1_2, .int .i64 a1_3] 29 (0, 0)) (by (with_reducible repeat (first | refine zkn ?_ _ | refine zkd ?_ | refine zka ?_ _)); exact BK102.out) hb); have n2_ := zam (zbt (by repeat (first | (with_reducible first | exact HB.out | apply zba | apply zbn | apply zb1 | refine zbs ?_ GE101.out | refine zbs ?_ GE102.out) | exact HB.out)) hb); clear BK101; clear BK102; clear HB; have BK101 := n0_; have BK102 := n1_; have HB := n2_; clear n0_ n1_ n2_; (try clear hb); (try clear hb2); (try clear hk); (try clear hi)))
  go_meet
  case rel => exact ⟨_, (true), (by first | rfl | (simp; done) | (simp [*]; done)), H', ⟨by first | omega | exact Nat.le_refl _⟩, ⟨by (with_reducible repeat (first | refine zkn ?_ _ | refine zkd ?_ | refine zka ?_ _)); exact BK101.out⟩, ⟨by (with_reducible repeat (first | refine zkn ?_ _ | refine zkd ?_ | refine zka ?_ _)); exact BK102.out⟩, ⟨by repeat (first | (with_reducible first | exact HB.out | apply zba | apply zbn | apply zb1 | refine zbs ?_ GE101.out | refine zbs ?_ GE102.out) | exact HB.out)⟩⟩
 case rest =>
  clear HC3
  try clear c1
  try clear p2
  try clear c7
  try clear c7b0
  try clear c7b1
  try clear c9
  try clear c13
  try clear c14
  try clear hcz10_0
  try clear hcz10_1
  try clear hcz10_2
  try clear hcz10_3
  try clear hcz12_0
  try clear hcz12_1
  try clear hcz12_2
  try clear hcz12_3
  try clear hcz15_0
  try clear hcz15_1
  try clear hcz15_2
  try clear hcz15_3
  try clear hfz10_0
  try clear hfz10_1
  try clear hfz10_2
  try clear hfz10_3
  try clear hfz12_0
  try clear hfz12_1
  try clear hfz12_2
  try clear hfz12_3
  try clear hfz15_0
  try clear hfz15_1
  try clear hfz15_2
  try clear hfz15_3
  obtain ⟨kq, x18_2, rfl, HA, HJ2, BK101, BK102, HB⟩ := hcut
  cases kq with
  | zero => exact absurd HA.out (by simp [bound_Square.j0])
  | succ kj2 =>
   have H := HA.out
   clear HA
   simp only [bound_Square.j0] at H
   by_cases c17 : x18_2 = true
   ·subst c17
    have H1 : (some (0, 0, 2)) = some (r1, r2, r3) := by rw [if_pos rfl] at H; exact H
    clear H
    have H := H1
    clear H1
    simp only [Option.some.injEq, Prod.mk.injEq] at H
    obtain ⟨rfl, rfl, rfl⟩ := H
    go_wp2
    go_ret3
    exact ⟨by first | rfl | (simp [errW_none, errW_some] <;> rfl) | (simp [*, errW_none, errW_some] <;> rfl), by repeat (first | (with_reducible first | exact HB.out | apply zba | apply zbn | apply zb1 | refine zbs ?_ GE101.out | refine zbs ?_ GE102.out) | exact HB.out)⟩
   replace c17 := Bool.eq_false_iff.mpr c17
   subst c17
   have H1 : ((bound_apart.f a0_0 a0_1 a1_0 a1_1).bind fun bt105 => ((bound_apart.f a0_2 a0_3 a1_2 a1_3).bind fun bt107 => (some (wrap64 ((wrap64 (bt105.1 * bt105.1)) + (wrap64 (bt107.1 * bt107.1))), wrap64 ((wrap64 (bt105.2 * bt105.2)) + (wrap64 (bt107.2 * bt107.2))), 0)))) = some (r1, r2, r3) := by rw [if_neg (show ¬ (false = true) by decide)] at H; exact H
   clear H
   have H := H1
   clear H1
   replace H := Option.bind_eq_some_iff.mp H
   obtain ⟨⟨t105, t106⟩, A180, H⟩ := H
   replace H : ((bound_apart.f a0_2 a0_3 a1_2 a1_3).bind fun bt107 => (some (wrap64 ((wrap64 (t105 * t105)) + (wrap64 (bt107.1 * bt107.1))), wrap64 ((wrap64 (t106 * t106)) + (wrap64 (bt107.2 * bt107.2))), 0))) = some (r1, r2, r3) := H
   have A18 := zam A180
   clear A180
   replace H := Option.bind_eq_some_iff.mp H
   obtain ⟨⟨t107, t108⟩, A190, H⟩ := H
   replace H : (some (wrap64 ((wrap64 (t105 * t105)) + (wrap64 (t107 * t107))), wrap64 ((wrap64 (t106 * t106)) + (wrap64 (t108 * t108))), 0)) = some (r1, r2, r3) := H
   have A19 := zam A190
   clear A190
   simp only [Option.some.injEq, Prod.mk.injEq] at H
   obtain ⟨rfl, rfl, rfl⟩ := H
   have hnb20 := NB101_102.out
   have hnc20 := NB102_101.out
   have hcz21_0 : wc.cell? ⟨gb101, 0, none⟩ = some (.int .i64 a0_0) := (zkc BK101.out 0).trans rfl
   have hcz21_1 : wc.cell? ⟨gb101, 1, none⟩ = some (.int .i64 a0_1) := (zkc BK101.out 1).trans rfl
   have hcz21_2 : wc.cell? ⟨gb101, 2, none⟩ = some (.int .i64 a0_2) := (zkc BK101.out 2).trans rfl
   have hcz21_3 : wc.cell? ⟨gb101, 3, none⟩ = some (.int .i64 a0_3) := (zkc BK101.out 3).trans rfl
   have hfz21_0 := zkz BK101.out 0
   have hfz21_1 := zkz BK101.out 1
   have hfz21_2 := zkz BK101.out 2
   have hfz21_3 := zkz BK101.out 3
   have hcz22_0 : wc.cell? ⟨gb102, 0, none⟩ = some (.int .i64 a1_0) := (zkc BK102.out 0).trans rfl
   have hcz22_1 : wc.cell? ⟨gb102, 1, none⟩ = some (.int .i64 a1_1) := (zkc BK102.out 1).trans rfl
   have hcz22_2 : wc.cell? ⟨gb102, 2, none⟩ = some (.int .i64 a1_2) := (zkc BK102.out 2).trans rfl
   have hcz22_3 : wc.cell? ⟨gb102, 3, none⟩ = some (.int .i64 a1_3) := (zkc BK102.out 3).trans rfl
   have hfz22_0 := zkz BK102.out 0
   have hfz22_1 := zkz BK102.out 1
   have hfz22_2 := zkz BK102.out 2
   have hfz22_3 := zkz BK102.out 3
   go_wp2_with (first | ((with_reducible refine zgc (f := 135) rfl ?_); refine goesL_ (some 24) rfl rfl Try.func135 (by kernel_rfl) rfl #[.agg #[.int .i64 a0_0, .int .i64 a0_1], .agg #[.int .i64 a1_0, .int .i64 a1_1]] rfl (by (try simp only [zmt, List.map_cons, List.map_nil]); first | done | rfl | (simp only [zld, zlt]; rfl)) ?_; (with_reducible refine (bound_apart.calls a0_0 a0_1 a1_0 a1_1 t105 t106 _ A18.out).mono ?_); rintro e w23 ⟨rfl, hb⟩; refine ⟨_, rfl, ?_⟩; have n0_ := zam (zkb (g := gb101) (o := .cells #[.int .i64 a0_0, .int .i64 a0_1, .int .i64 a0_2, .int .i64 a0_3] 29 (0, 0)) (by (with_reducible repeat (first | refine zkn ?_ _ | refine zkd ?_ | refine zka ?_ _)); exact BK101.out) hb); have n1_ := zam (zkb (g := gb102) (o := .cells #[.int .i64 a1_0, .int .i64 a1_1, .int .i64 a1_2, .int .i64 a1_3] 29 (0, 0)) (by (with_reducible repeat (first | refine zkn ?_ _ | refine zkd ?_ | refine zka ?_ _)); exact BK102.out) hb); have n2_ := zam (zbt (by repeat (first | (with_reducible first | exact HB.out | apply zba | apply zbn | apply zb1 | refine zbs ?_ GE101.out | refine zbs ?_ GE102.out) | exact HB.out)) hb); clear BK101; clear BK102; clear HB; have BK101 := n0_; have BK102 := n1_; have HB := n2_; clear n0_ n1_ n2_; (try clear hb); (try clear hb2); (try clear hk); (try clear hi); have hcz24_0 : w23.cell? ⟨gb101, 0, none⟩ = some (.int .i64 a0_0) := (zkc BK101.out 0).trans rfl; have hcz24_1 : w23.cell? ⟨gb101, 1, none⟩ = some (.int .i64 a0_1) := (zkc BK101.out 1).trans rfl; have hcz24_2 : w23.cell? ⟨gb101, 2, none⟩ = some (.int .i64 a0_2) := (zkc BK101.out 2).trans rfl; have hcz24_3 : w23.cell? ⟨gb101, 3, none⟩ = some (.int .i64 a0_3) := (zkc BK101.out 3).trans rfl; have hfz24_0 := zkz BK101.out 0; have hfz24_1 := zkz BK101.out 1; have hfz24_2 := zkz BK101.out 2; have hfz24_3 := zkz BK101.out 3; have hcz25_0 : w23.cell? ⟨gb102, 0, none⟩ = some (.int .i64 a1_0) := (zkc BK102.out 0).trans rfl; have hcz25_1 : w23.cell? ⟨gb102, 1, none⟩ = some (.int .i64 a1_1) := (zkc BK102.out 1).trans rfl; have hcz25_2 : w23.cell? ⟨gb102, 2, none⟩ = some (.int .i64 a1_2) := (zkc BK102.out 2).trans rfl; have hcz25_3 : w23.cell? ⟨gb102, 3, none⟩ = some (.int .i64 a1_3) := (zkc BK102.out 3).trans rfl; have hfz25_0 := zkz BK102.out 0; have hfz25_1 := zkz BK102.out 1; have hfz25_2 := zkz BK102.out 2; have hfz25_3 := zkz BK102.out 3) | ((with_reducible refine zgc (f := 135) rfl ?_); refine goesL_ (some 32) rfl rfl Try.func135 (by kernel_rfl) rfl #[.agg #[.int .i64 a0_2, .int .i64 a0_3], .agg #[.int .i64 a1_2, .int .i64 a1_3]] rfl (by (try simp only [zmt, List.map_cons, List.map_nil]); first | done | rfl | (simp only [zld, zlt]; rfl)) ?_; (with_reducible refine (bound_apart.calls a0_2 a0_3 a1_2 a1_3 t107 t108 _ A19.out).mono ?_); rintro e w26 ⟨rfl, hb⟩; refine ⟨_, rfl, ?_⟩; have n0_ := zam (zkb (g := gb101) (o := .cells #[.int .i64 a0_0, .int .i64 a0_1, .int .i64 a0_2, .int .i64 a0_3] 29 (0, 0)) (by (with_reducible repeat (first | refine zkn ?_ _ | refine zkd ?_ | refine zka ?_ _)); exact BK101.out) hb); have n1_ := zam (zkb (g := gb102) (o := .cells #[.int .i64 a1_0, .int .i64 a1_1, .int .i64 a1_2, .int .i64 a1_3] 29 (0, 0)) (by (with_reducible repeat (first | refine zkn ?_ _ | refine zkd ?_ | refine zka ?_ _)); exact BK102.out) hb); have n2_ := zam (zbt (by repeat (first | (with_reducible first | exact HB.out | apply zba | apply zbn | apply zb1 | refine zbs ?_ GE101.out | refine zbs ?_ GE102.out) | exact HB.out)) hb); clear BK101; clear BK102; clear HB; have BK101 := n0_; have BK102 := n1_; have HB := n2_; clear n0_ n1_ n2_; (try clear hb); (try clear hb2); (try clear hk); (try clear hi)))
   go_ret3
   exact ⟨by first | rfl | (simp [errW_none, errW_some] <;> rfl) | (simp [*, errW_none, errW_some] <;> rfl), by repeat (first | (with_reducible first | exact HB.out | apply zba | apply zbn | apply zb1 | refine zbs ?_ GE101.out | refine zbs ?_ GE102.out) | exact HB.out)⟩
section
open Ieee
theorem rt_log2_le {m k : Nat} (h0 : m ≠ 0) (h : m < 2 ^ (k + 1)) : m.log2 ≤ k := by
 have := (Nat.log2_lt h0).2 h
 omega
theorem rt_bool_le (b : Bool) : b.toNat ≤ 1 := by cases b <;> decide
theorem kept_lt (m : Nat) (h0 : m ≠ 0) (up drop : Nat) (hd : m.log2 + up = 52 + drop) (hud : up = 0 ∨ drop = 0) : 2 ^ 52 ≤ Toward.even.cut false (m <<< up) drop ∧ Toward.even.cut false (m <<< up) drop ≤ 2 ^ 53 := by
 have hlo : 2 ^ m.log2 ≤ m := Nat.log2_self_le h0
 have hhi : m < 2 ^ (m.log2 + 1) := Nat.lt_log2_self
 unfold Toward.cut
 rcases hud with rfl | rfl
 ·rw [Nat.shiftLeft_zero]
  have e : m.log2 = 52 + drop := by omega
  have hmin : min drop (m.log2 + 2) = drop := by omega
  simp only [hmin, Nat.one_shiftLeft]
  rw [e, Nat.pow_add] at hlo
  rw [e, show 52 + drop + 1 = 53 + drop by omega, Nat.pow_add] at hhi
  have hp : 0 < 2 ^ drop := Nat.two_pow_pos _
  have h1 : 2 ^ 52 ≤ m / 2 ^ drop := (Nat.le_div_iff_mul_le hp).2 hlo
  have h2 : m / 2 ^ drop < 2 ^ 53 := (Nat.div_lt_iff_lt_mul hp).2 hhi
  generalize m / 2 ^ drop = q at h1 h2 ⊢
  have hb := fun b : Bool => rt_bool_le b
  refine ⟨Nat.le_trans h1 (Nat.le_add_right _ _), ?_⟩
  exact Nat.le_trans (Nat.add_le_add_left (hb _) q) h2
 have e : m.log2 + up = 52 := by omega
 have hmin : min 0 ((m <<< up).log2 + 2) = 0 := by omega
 simp only [hmin, Nat.shiftLeft_zero, Nat.div_one, Nat.mod_one, Nat.mul_zero]
 rw [Nat.shiftLeft_eq]
 have h1 : 2 ^ m.log2 * 2 ^ up ≤ m * 2 ^ up := Nat.mul_le_mul_right _ hlo
 rw [← Nat.pow_add, e] at h1
 have h2 : m * 2 ^ up < 2 ^ (m.log2 + 1) * 2 ^ up := Nat.mul_lt_mul_of_pos_right hhi (Nat.two_pow_pos _)
 rw [← Nat.pow_add, show m.log2 + 1 + up = 53 by omega] at h2
 refine ⟨Nat.le_trans h1 (Nat.le_add_right _ _), ?_⟩
 exact Nat.le_trans (Nat.add_le_add_left (rt_bool_le _) _) h2
theorem read_write (m : Nat) (p : Int) (h0 : m ≠ 0) (h1 : -1000 ≤ p + m.log2) (h2 : p + m.log2 ≤ 900) : ∃ (k : Nat) (i : Int), double.read (double.nearest false m p) = .number false k i ∧ 4503599627370496 ≤ k ∧ ((i = p + m.log2 - 52 ∧ k < 9007199254740992) ∨ (i = p + m.log2 - 51 ∧ k = 4503599627370496)) := by
 have e1 : ((double.fractionBits : Nat) : Int) = 52 := rfl
 have e2 : double.leastPlace = -1074 := by decide
 have e3 : double.binade = 4503599627370496 := by decide
 have e4 : double.infRung = 9218868437227405312 := by decide
 have e5 : double.signWeight = 9223372036854775808 := by decide
 obtain ⟨last, hl⟩ : ∃ last : Int, last = p + m.log2 - 52 := ⟨_, rfl⟩
 obtain ⟨c, hc⟩ : ∃ c, c = Toward.even.cut false (m <<< (p - last).toNat) (last - p).toNat := ⟨_, rfl⟩
 have hk := kept_lt m h0 (p - last).toNat (last - p).toNat (by omega) (by omega)
 rw [← hc, show (2 : Nat) ^ 52 = 4503599627370496 by decide, show (2 : Nat) ^ 53 = 9007199254740992 by decide] at hk
 have hlast : max (p + (m.log2 : Int) - (double.fractionBits : Nat)) double.leastPlace = last := by
  rw [e1, e2]
  omega
 obtain ⟨u, hu⟩ : ∃ u : Nat, (last + 1074).toNat = u := ⟨_, rfl⟩
 have hub : 20 ≤ u ∧ u ≤ 1930 := by omega
 have hue : last = (u : Int) - 1074 := by omega
 have hn : double.nearest false m p = u * 4503599627370496 + c := by
  unfold Format.nearest
  rw [if_neg h0]
  simp only [hlast]
  rw [← hc, e2, e3, e4]
  unfold Format.word
  have : (last - -1074).toNat = u := by omega
  rw [this, if_neg (by decide)]
  exact Nat.min_eq_left (by clear hu hl hc hlast hue; omega)
 rw [hn]
 clear hn hc
 unfold Format.read
 simp only [e2, e3, e4, e5]
 have r1 : (u * 4503599627370496 + c) / 9223372036854775808 % 2 = 0 := by omega
 have r2 : (u * 4503599627370496 + c) % 9223372036854775808 = u * 4503599627370496 + c := by omega
 rw [r1, r2]
 rw [if_neg (by omega), if_pos (by omega)]
 by_cases hc3 : c = 9007199254740992
 ·refine ⟨4503599627370496, last + 1, ?_, Nat.le_refl _, .inr ⟨by omega, rfl⟩⟩
  have a1 : (u * 4503599627370496 + c) % 4503599627370496 = 0 := by omega
  have a2 : (u * 4503599627370496 + c) / 4503599627370496 - 1 = u + 1 := by omega
  rw [a1, a2, hue]
  have a3 : (-1074 : Int) + ((u + 1 : Nat) : Int) = (u : Int) - 1074 + 1 := by omega
  rw [a3]
  rfl
 refine ⟨c, last, ?_, hk.1, .inl ⟨hl, by omega⟩⟩
 have a1 : 4503599627370496 + (u * 4503599627370496 + c) % 4503599627370496 = c := by omega
 have a2 : (u * 4503599627370496 + c) / 4503599627370496 - 1 = u := by omega
 rw [a1, a2, hue]
 have a3 : (-1074 : Int) + (u : Int) = (u : Int) - 1074 := by omega
 rw [a3]
 rfl
theorem rootFrom_lt (n : Nat) : ∀ (todo root : Nat), Datum.rootFrom n todo root < root + 2 ^ todo
 | 0, root => by simp [Datum.rootFrom]
 | todo + 1, root => by
  unfold Datum.rootFrom
  have h := rootFrom_lt n todo
  simp only [Nat.one_shiftLeft]
  have e : 2 ^ (todo + 1) = 2 ^ todo + 2 ^ todo := by rw [Nat.pow_succ]; omega
  have hp := Nat.two_pow_pos todo
  by_cases q : (root + 2 ^ todo) * (root + 2 ^ todo) ≤ n
  ·rw [if_pos q]
   have := h (root + 2 ^ todo)
   omega
  rw [if_neg q]
  have := h root
  omega
theorem root_start (n : Nat) (hn : n < 2 ^ 61) : ∃ (r : Nat) (q : Nat), double.sqrt (double.nearest false n 0) = some r ∧ (double.read r).toInt .zero = some (q : Int) ∧ q ≤ 2 ^ 31 := by
 by_cases h0 : n = 0
 ·subst h0
  exact ⟨0, 0, by decide, by decide, by decide⟩
 have hL : n.log2 ≤ 60 := rt_log2_le h0 hn
 obtain ⟨k, i, hr, hk, hki⟩ := read_write n 0 h0 (by omega) (by omega)
 have hk3 : k < 2 ^ 53 := by rw [show (2 : Nat) ^ 53 = 9007199254740992 by decide]; omega
 have hk0 : k ≠ 0 := by omega
 have hkl : k.log2 = 52 := by
  have a := rt_log2_le (k := 52) hk0 hk3
  have b := (Nat.le_log2 hk0 (k := 52)).2 (by rw [show (2 : Nat) ^ 52 = 4503599627370496 by decide]; exact hk)
  omega
 have hi : -52 ≤ i ∧ i ≤ 9 := by omega
 unfold Format.sqrt
 rw [hr]
 simp only [Datum.root, if_neg hk0]
 have e1 : double.fractionBits + 2 = 54 := rfl
 rw [e1, hkl]
 simp only [Bool.false_eq_true, if_false]
 obtain ⟨more, hm⟩ : ∃ more, 2 * 54 - 52 + ((i - ((2 * 54 - 52 : Nat) : Int)) % 2).toNat = more := ⟨_, rfl⟩
 rw [hm]
 have hmb : 56 ≤ more ∧ more ≤ 57 ∧ (i - (more : Int)) % 2 = 0 := by omega
 obtain ⟨N, hN⟩ : ∃ N, k <<< more = N := ⟨_, rfl⟩
 rw [hN]
 have hNb : N < 2 ^ 110 := by
  rw [← hN, Nat.shiftLeft_eq]
  calc k * 2 ^ more < 2 ^ 53 * 2 ^ more := Nat.mul_lt_mul_of_pos_right hk3 (Nat.two_pow_pos _)
   _ ≤ 2 ^ 53 * 2 ^ 57 := Nat.mul_le_mul_left _ (Nat.pow_le_pow_right (by decide) hmb.2.1)
   _ = 2 ^ 110 := by decide
 have hN0 : N ≠ 0 := by
  rw [← hN, Nat.shiftLeft_eq]
  have := Nat.mul_pos (show 0 < k by omega) (Nat.two_pow_pos more)
  omega
 have hNl : N.log2 ≤ 109 := rt_log2_le hN0 hNb
 have hwl := rootFrom_lt N (N.log2 / 2 + 1) 0
 obtain ⟨W, hW⟩ : ∃ W, Datum.rootFrom N (N.log2 / 2 + 1) 0 = W := ⟨_, rfl⟩
 rw [hW] at hwl ⊢
 have hWb : W < 2 ^ 55 := by
  refine Nat.lt_of_lt_of_le hwl ?_
  rw [Nat.zero_add]
  exact Nat.pow_le_pow_right (by decide) (by omega)
 obtain ⟨M, hM⟩ : ∃ M, 2 * W + (W * W != N).toNat = M := ⟨_, rfl⟩
 rw [hM]
 have hMb : M < 2 ^ 56 := by
  have := rt_bool_le (W * W != N)
  omega
 obtain ⟨p, hp⟩ : ∃ p, (i - (more : Int)) / 2 - 1 = p := ⟨_, rfl⟩
 rw [hp]
 have hpb : -60 ≤ p ∧ p ≤ -25 := by omega
 simp only [Option.map_some]
 refine ⟨double.write (.number false M p), ?_⟩
 by_cases hM0 : M = 0
 ·refine ⟨0, rfl, ?_, by decide⟩
  have : Format.write double (.number false M p) = 0 := by
   rw [hM0]
   simp only [Format.write, Format.nearest, if_true]
   rfl
  rw [this]
  decide
 have hML : M.log2 ≤ 55 := rt_log2_le hM0 hMb
 obtain ⟨k2, i2, hr2, hk2, hki2⟩ := read_write M p hM0 (by omega) (by omega)
 have hi2 : i2 ≤ -21 := by omega
 have hk20 : k2 ≠ 0 := by omega
 have hk23 : k2 < 2 ^ 53 := by rw [show (2 : Nat) ^ 53 = 9007199254740992 by decide]; omega
 refine ⟨k2 / 2 ^ (min (-i2).toNat 54), rfl, ?_, ?_⟩
 ·show (double.read (double.nearest false M p)).toInt .zero = _
  rw [hr2]
  unfold Datum.toInt Datum.integral Toward.cut
  have hkl2 : k2.log2 = 52 := by
   have a := rt_log2_le (k := 52) hk20 hk23
   have b := (Nat.le_log2 hk20 (k := 52)).2 (by rw [show (2 : Nat) ^ 52 = 4503599627370496 by decide]; exact hk2)
   omega
  have t0 : i2.toNat = 0 := by omega
  simp [t0, hkl2, signed, Nat.one_shiftLeft]
 by_cases h54 : 54 ≤ (-i2).toNat
 ·rw [Nat.min_eq_right h54, Nat.div_eq_of_lt (by omega)]
  decide
 rw [Nat.min_eq_left (by omega)]
 obtain ⟨d, hd⟩ : ∃ d, (-i2).toNat = d := ⟨_, rfl⟩
 rw [hd]
 by_cases hd22 : 22 ≤ d
 ·have : k2 / 2 ^ d ≤ k2 / 2 ^ 22 := Nat.div_le_div_left (Nat.pow_le_pow_right (by decide) hd22) (by decide)
  refine Nat.le_trans this ?_
  omega
 have hd21 : d = 21 := by omega
 have hk52 : k2 = 4503599627370496 := by omega
 rw [hd21, hk52]
 decide
end
def Rt.IsRoot (n r : Int) : Prop := 0 ≤ r ∧ r * r ≤ n ∧ n < (r + 1) * (r + 1)
theorem Rt.sq_le {a b : Int} (h : 0 ≤ a) (h1 : a ≤ b) : a * a ≤ b * b := Int.mul_le_mul h1 h1 h (by omega)
theorem Rt.lt_of_sq {a b : Int} (hb : 0 ≤ b) (h : a * a < b * b) : a < b := by
 rcases Int.lt_or_le a b with h1 | h1
 ·exact h1
 have := Rt.sq_le hb h1
 omega
theorem Rt.IsRoot.unique {n r s : Int} (h : Rt.IsRoot n r) (h' : Rt.IsRoot n s) : r = s := by
 have a : r < s + 1 := Rt.lt_of_sq (by have := h'.1; omega) (Int.lt_of_le_of_lt h.2.1 h'.2.2)
 have b : s < r + 1 := Rt.lt_of_sq (by have := h.1; omega) (Int.lt_of_le_of_lt h'.2.1 h.2.2)
 omega
def Rt.sq (n : Nat) : Nat → Nat
 | 0 => 0
 | m + 1 => if (m + 1) * (m + 1) ≤ n then m + 1 else Rt.sq n m
theorem Rt.sq_spec (n : Nat) : ∀ m : Nat, Rt.sq n m ≤ m ∧ Rt.sq n m * Rt.sq n m ≤ n ∧ (n < (m + 1) * (m + 1) → n < (Rt.sq n m + 1) * (Rt.sq n m + 1))
 | 0 => ⟨Nat.le_refl _, by simp [Rt.sq], id⟩
 | m + 1 => by
  unfold Rt.sq
  by_cases q : (m + 1) * (m + 1) ≤ n
  ·rw [if_pos q]
   exact ⟨Nat.le_refl _, q, id⟩
  rw [if_neg q]
  obtain ⟨a, b, c⟩ := Rt.sq_spec n m
  exact ⟨by omega, b, fun _ => c (by omega)⟩
def Rt.root (n : Int) : Int := (Rt.sq n.toNat n.toNat : Nat)
def Rt.rootUp (n : Int) : Int := if Rt.root n * Rt.root n < n then Rt.root n + 1 else Rt.root n
theorem Rt.root_is {n : Int} (h0 : 0 ≤ n) : Rt.IsRoot n (Rt.root n) := by
 obtain ⟨a, b, c⟩ := Rt.sq_spec n.toNat n.toNat
 have c := c (by
  have := Nat.mul_le_mul (show 1 ≤ n.toNat + 1 by omega) (Nat.le_refl (n.toNat + 1))
  omega)
 unfold Rt.root
 obtain ⟨r, hr⟩ : ∃ r, Rt.sq n.toNat n.toNat = r := ⟨_, rfl⟩
 rw [hr] at b c ⊢
 refine ⟨by omega, ?_, ?_⟩
 ·have : ((r * r : Nat) : Int) ≤ ((n.toNat : Nat) : Int) := by exact_mod_cast b
  rw [Int.natCast_mul] at this
  omega
 have : ((n.toNat : Nat) : Int) < (((r + 1) * (r + 1) : Nat) : Int) := by exact_mod_cast c
 rw [Int.natCast_mul] at this
 push_cast at this
 omega
theorem Rt.root_of {n r : Int} (h : Rt.IsRoot n r) (h0 : 0 ≤ n) : Rt.root n = r := (Rt.root_is h0).unique h
end Go.Proofs.Ytaheamdoldiojaa.P
namespace Go.Proofs.Ytaheamdoldiojaa.P
open Go.RowKit Go.Proofs.YtaheamdoldiojaaW.PrintWords Go.Proofs.YtaheamdoldiojaaW.PrintLast Go.Proofs.YtaheamdoldiojaaW.PrintMore
attribute [local go_sem] max2_int min2_int max_two min_two max_three min_three max_four min_four   -- for this text's walks alone
set_option linter.unusedVariables false
set_option linter.unusedSimpArgs false
theorem conv_float (n : Nat) (w : World) : (convert 2 177 (.int .i64 (n : Int))).run Try.prog w = .ok (.float .f64 (Ieee.double.nearest false n 0)) w := by
 have e : FloatKind.f64.nearest (n : Int) = Ieee.double.nearest false n 0 := by
  show Ieee.double.nearest (decide ((n : Int) < 0)) (n : Int).natAbs 0 = _
  rw [zdf (by omega), Int.natAbs_natCast]
 have h0 : ∀ (n : Int) (w : World), (convert 2 177 (.int .i64 n)).run Try.prog w = .ok (.float .f64 (FloatKind.f64.nearest n)) w := fun _ _ => by kernel_rfl
 rw [h0, e]
theorem conv_int (r q : Nat) (h : (Ieee.double.read r).toInt .zero = some (q : Int)) (hq : q ≤ 2147483648) (w : World) : (convert 177 2 (.float .f64 r)).run Try.prog w = .ok (.int .i64 (q : Int)) w := by
 have e : (Conv.floatToInt .f64 r .i64).run Try.prog w = .ok (.int .i64 (q : Int)) w := by
  unfold Conv.floatToInt
  have h2 : (FloatKind.f64.decode r).toInt .zero = some (q : Int) := h
  simp only [h2]
  have h3 : IntKind.i64.min ≤ (q : Int) ∧ (q : Int) ≤ IntKind.i64.max := by
   have e1 : IntKind.i64.min = -9223372036854775808 := by decide
   have e2 : IntKind.i64.max = 9223372036854775807 := by decide
   rw [e1, e2]
   omega
  rw [if_pos h3]
  rfl
 have h0 : ∀ (r : Nat) (w : World), (convert 177 2 (.float .f64 r)).run Try.prog w = (Conv.floatToInt .f64 r .i64).run Try.prog w := fun _ _ => by kernel_rfl
 rw [h0, e]
theorem call_sqrt (x r : Nat) (h : Ieee.double.sqrt x = some r) (w : World) : (callFunc 138 #[.float .f64 x]).run Try.prog w = .ok (.value (.float .f64 r)) w := by
 rw [run_callFunc_extern Try.func138 (by kernel_rfl) (by kernel_rfl) (by kernel_rfl) (e := Extern.MathSqrt.sqrt) (by kernel_rfl)]
 have e : (Extern.MathSqrt.sqrt #[.float .f64 x]).run Try.prog w = .ok (.float .f64 r) w := by
  have h2 : FloatKind.f64.format.sqrt x = some r := h
  have h0 : ∀ (x : Nat) (w : World), (Extern.MathSqrt.sqrt #[.float .f64 x]).run Try.prog w = ((match FloatKind.f64.format.sqrt x with | some r => pure (.float .f64 r) | none => do pure (.float .f64 (← choose (.nanBits .f64 x x)))) : Sem Value).run Try.prog w := fun _ _ => by kernel_rfl
  rw [h0, h2]
  rfl
 rw [e]
 rfl
theorem math_Sqrt.calls (x r : Nat) (h : Ieee.double.sqrt x = some r) (w : World) : Calls Try.prog 136 #[.float .f64 x] w fun e w' => e = .returned (.float .f64 r) ∧ w' = w := by
 have hs := fun w => call_sqrt x r h w
 go_enter Try.func136, Try.ntmps136
 go_wp2
 go_ret
 exact ⟨rfl, rfl⟩
theorem rt_measure (M s : Nat) (h2 : s < M) (x : Int) (hx : x = (s : Int) + 1) : M - (intOf (.int .i64 x)).toNat < M - (intOf (.int .i64 (s : Int))).toNat := by
 subst hx
 have h3 : ((s : Int) + 1).toNat = s + 1 := (by omega)
 simp only [intOf, h3, Int.toNat_natCast]
 omega
def bound_round_root.f (a0_0 : Bool) (a1 : Int) : Option Int := if 0 ≤ a1 ∧ a1 < 2305843009213693952 then some (if a0_0 = true then Rt.rootUp a1 else Rt.root a1) else none
set_option maxHeartbeats 8000000 in
set_option maxRecDepth 100000 in
theorem bound_round_root.calls (a0_0 : Bool) (a1 : Int) (r : Int) (w : World) (h : bound_round_root.f a0_0 a1 = some r) :
  Calls Try.prog 133 #[.agg #[.bool a0_0], .int .i64 a1] w fun e w' => e = .returned (.int .i64 r) ∧ Below w.heap.size w w' := by
 have hu110 := Try.underlying173
 unfold bound_round_root.f at h
 by_cases c : 0 ≤ a1 ∧ a1 < 2305843009213693952
 ·rw [if_pos c] at h
  obtain rfl := zsi h
  obtain ⟨n, rfl⟩ : ∃ n : Nat, a1 = (n : Int) := ⟨a1.toNat, by omega⟩
  obtain ⟨x, q, hx, hq, hql⟩ := root_start n (by omega)
  have hql2 : q ≤ 2147483648 := by simpa using hql
  have HC := zam c
  have HQL := zam hql2
  have hc1 := conv_float n
  have hc2 := conv_int x q hq hql2
  clear hq hql c h
  have SQ := zam (fun w => math_Sqrt.calls _ x hx w)
  clear hx hql2
  go_enter Try.func133, Try.ntmps133
  go_wp2_with (first | ((with_reducible refine zgd (N := 2) rfl ?_); refine box_event ?hg (N := 2) ?hd (cs := #[.bool a0_0]) (t := 173) ?hr ?_; (case hd => rfl); (case hg => rfl); (case hr => first | (go_simp; done) | (go_simp; rfl)); intro gm hgm w1 hbk hb0; have BM := zam hbk; have HB := zam hb0; clear hgm hbk hb0) | (go_at_call 136; (with_reducible refine (SQ.out _).mono ?_); rintro e w2 ⟨rfl, rfl⟩))
  clear hc1 hc2 SQ
  obtain ⟨M, hM⟩ : ∃ M : Nat, M = 2147483648 := ⟨_, rfl⟩
  have HM := zam hM
  clear hM
  go_loopw [5] (fun v wr => ∃ p : Nat, p ≤ 2147483648 ∧ v = .int .i64 (p : Int) ∧ wr.heap[gm]? = some (.cells #[.bool a0_0] 173 (0, 0)) ∧ Below w.heap.size w wr) (fun v _ => (intOf v).toNat)
  case atStart => exact ⟨q, HQL.out, rfl, BM.out, HB.out⟩
  case round =>
   clear BM HB
   obtain ⟨p, hp, rfl, hbm, hb⟩ := hrel
   have BM := zam hbm
   have HB := zam hb
   have pp := Nat.mul_le_mul hp hp
   have wm : wrap64 ((p : Int) * (p : Int)) = (p : Int) * (p : Int) := wrap_id (by rw [← Int.natCast_mul]; omega) (by rw [← Int.natCast_mul]; omega)
   by_cases hlt : (n : Int) < (p : Int) * (p : Int)
   ·have dl : decide ((n : Int) < (p : Int) * (p : Int)) = true := zdt hlt
    have hp0 : p ≠ 0 := fun e => by subst e; simp at hlt; omega
    have ws : wrap64 ((p : Int) - 1) = ((p - 1 : Nat) : Int) := by rw [wrap_id (by omega) (by omega)]; omega
    clear hbm hb
    go_wp2
    go_roundw
    case rel => exact ⟨p - 1, by omega, congrArg (Value.int .i64) (by omega), BM.out, HB.out⟩
    case measure => (simp only [intOf]; omega)
   have dl : decide ((n : Int) < (p : Int) * (p : Int)) = false := zdf hlt
   have HLE : Aside0 ((p : Int) * (p : Int) ≤ (n : Int)) := ⟨by omega⟩
   clear hbm hb hlt
   go_wp2
   clear dl wm pp
   have HP := zam hp
   clear hp
   go_loopw [5] (fun v wr => ∃ s : Nat, (s : Int) * (s : Int) ≤ (n : Int) ∧ v = .int .i64 (s : Int) ∧ wr.heap[gm]? = some (.cells #[.bool a0_0] 173 (0, 0)) ∧ Below w.heap.size w wr) (fun v _ => M - (intOf v).toNat)
   case atStart => exact ⟨p, HLE.out, rfl, BM.out, HB.out⟩
   case round =>
    clear BM HB
    obtain ⟨s, hs, rfl, hbm, hb⟩ := hrel
    have BM := zam hbm
    have HB := zam hb
    have s31 : (s : Int) < 2147483648 := Rt.lt_of_sq (by omega) (by have := HC.out; omega)
    have s32 : s + 1 ≤ 2147483648 := by omega
    have pp := Nat.mul_le_mul s32 s32
    have pq : ((s : Int) + 1) * ((s : Int) + 1) ≤ 2147483648 * 2147483648 := by
     have : (((s + 1) * (s + 1) : Nat) : Int) ≤ 2147483648 * 2147483648 := by omega
     rw [Int.natCast_mul] at this
     push_cast at this
     exact this
    have p0 : 0 ≤ ((s : Int) + 1) * ((s : Int) + 1) := Int.mul_nonneg (by omega) (by omega)
    have wm : wrap64 (((s : Int) + 1) * ((s : Int) + 1)) = ((s : Int) + 1) * ((s : Int) + 1) := wrap_id (by omega) (by omega)
    have ws : wrap64 ((s : Int) + 1) = (s : Int) + 1 := wrap_id (by omega) (by omega)
    have HS := zam hs
    have S31 := zam s31
    by_cases hlt : ((s : Int) + 1) * ((s : Int) + 1) ≤ (n : Int)
    ·have dl : decide (((s : Int) + 1) * ((s : Int) + 1) ≤ (n : Int)) = true := zdt hlt
     have HLT := zam hlt
     clear hbm hb hs s31 s32 pp pq p0 hlt
     go_wp2
     go_roundw
     case rel => exact ⟨s + 1, (by rw [show ((s + 1 : Nat) : Int) = (s : Int) + 1 by omega]; exact HLT.out), congrArg (Value.int .i64) (by omega), BM.out, HB.out⟩
     case measure => exact rt_measure M s (by have := S31.out; have := HM.out; omega) _ ws
    have dl : decide (((s : Int) + 1) * ((s : Int) + 1) ≤ (n : Int)) = false := zdf hlt
    have HR : Aside0 (Rt.root (n : Int) = (s : Int)) := ⟨Rt.root_of ⟨by omega, hs, by omega⟩ (by omega)⟩
    have hz0 := (zkc hbm 0).trans rfl
    have w0 : 0 ≤ (s : Int) * (s : Int) := Int.mul_nonneg (by omega) (by omega)
    have wm2 : wrap64 ((s : Int) * (s : Int)) = (s : Int) * (s : Int) := wrap_id (by omega) (by have := HC.out; omega)
    have EU : Aside0 (Rt.rootUp (n : Int) = if (s : Int) * (s : Int) < (n : Int) then (s : Int) + 1 else (s : Int)) := ⟨by unfold Rt.rootUp; rw [HR.out]⟩
    clear hbm hb hs s31 s32 pp pq p0 hlt w0
    cases a0_0 with
    | false =>
     go_wp2
     go_ret
     exact ⟨by (rw [HR.out]) <;> rfl, HB.out⟩
    | true =>
     by_cases hu : (s : Int) * (s : Int) < (n : Int)
     ·have du : decide ((s : Int) * (s : Int) < (n : Int)) = true := zdt hu
      have HU := zam hu
      clear hu
      go_wp2
      go_ret
      exact ⟨by (rw [EU.out, if_pos HU.out]) <;> rfl, HB.out⟩
     have du : decide ((s : Int) * (s : Int) < (n : Int)) = false := zdf hu
     have HU := zam hu
     clear hu
     go_wp2
     go_ret
     exact ⟨by (rw [EU.out, if_neg (by have := HU.out; omega)]) <;> rfl, HB.out⟩
 rw [if_neg c] at h
 cases h
def bound_Distance.f (k : Nat) (a0_0 : Int) (a0_1 : Int) (a0_2 : Int) (a0_3 : Int) (a1_0 : Int) (a1_1 : Int) (a1_2 : Int) (a1_3 : Int) : Option (Int × Int × Int) := (bound_Square.f k a0_0 a0_1 a0_2 a0_3 a1_0 a1_1 a1_2 a1_3).bind fun bt104 => (if bt104.2.2 = 0 then ((bound_round_root.f false bt104.1).bind fun t107 => ((bound_round_root.f true bt104.2.1).bind fun t108 => (some (t107, t108, 0)))) else (some (0, 0, bt104.2.2)))
set_option maxHeartbeats 8000000 in
set_option maxRecDepth 100000 in
theorem bound_Distance.calls (k : Nat) (a0_0 : Int) (a0_1 : Int) (a0_2 : Int) (a0_3 : Int) (a1_0 : Int) (a1_1 : Int) (a1_2 : Int) (a1_3 : Int) (r1 : Int) (r2 : Int) (r3 : Int) (w : World) (h : bound_Distance.f k a0_0 a0_1 a0_2 a0_3 a1_0 a1_1 a1_2 a1_3 = some (r1, r2, r3)) :
  Calls Try.prog 120 #[.agg #[.int .i64 a0_0, .int .i64 a0_1, .int .i64 a0_2, .int .i64 a0_3], .agg #[.int .i64 a1_0, .int .i64 a1_1, .int .i64 a1_2, .int .i64 a1_3]] w fun e w' => e = .returned (.tuple #[.agg #[.int .i64 r1, .int .i64 r2], .int .i64 r3]) ∧ Below w.heap.size w w' := by
 have hu29 := Try.underlying29
 have hu24 := Try.underlying24
 have hu173 := Try.underlying173
 have HB := zam (Below.refl w.heap.size w)
 have H : ((bound_Square.f k a0_0 a0_1 a0_2 a0_3 a1_0 a1_1 a1_2 a1_3).bind fun bt104 => (if bt104.2.2 = 0 then ((bound_round_root.f false bt104.1).bind fun t107 => ((bound_round_root.f true bt104.2.1).bind fun t108 => (some (t107, t108, 0)))) else (some (0, 0, bt104.2.2)))) = some (r1, r2, r3) := h
 clear h
 replace H := Option.bind_eq_some_iff.mp H
 obtain ⟨⟨t104, t105, t106⟩, A30, H⟩ := H
 replace H : (if t106 = 0 then ((bound_round_root.f false t104).bind fun t107 => ((bound_round_root.f true t105).bind fun t108 => (some (t107, t108, 0)))) else (some (0, 0, t106))) = some (r1, r2, r3) := H
 have A3 := zam A30
 clear A30
 by_cases c4 : t106 = 0
 ·rw [if_pos c4] at H
  have c4b0 : (t106 == 0) = true := beq_iff_eq.mpr c4
  have c4b1 : (t106 != 0) = false := bne_eq_false_iff_eq.mpr c4
  clear c4
  replace H := Option.bind_eq_some_iff.mp H
  obtain ⟨t107, A50, H⟩ := H
  replace H : ((bound_round_root.f true t105).bind fun t108 => (some (t107, t108, 0))) = some (r1, r2, r3) := H
  have A5 := zam A50
  clear A50
  replace H := Option.bind_eq_some_iff.mp H
  obtain ⟨t108, A60, H⟩ := H
  replace H : (some (t107, t108, 0)) = some (r1, r2, r3) := H
  have A6 := zam A60
  clear A60
  simp only [Option.some.injEq, Prod.mk.injEq] at H
  obtain ⟨rfl, rfl, rfl⟩ := H
  go_enter Try.func120, Try.ntmps120
  go_wp2_with (first | ((with_reducible refine zgd (N := 2) rfl ?_); refine box_event ?hg (N := 2) ?hd (cs := #[.int .i64 a0_0, .int .i64 a0_1, .int .i64 a0_2, .int .i64 a0_3]) (t := 29) ?hr ?_; (case hd => rfl); (case hg => rfl); (case hr => first | (go_simp; done) | (go_simp; rfl)); intro gb101 hg w7 hbox hb; have n0_ := zam (zbt (by repeat (first | (with_reducible first | exact HB.out | apply zba | apply zbn | apply zb1) | exact HB.out)) hb); have n1_ := zam (hbox); have n2_ := zam ((by rw [hg]; exact (zbz (by repeat (first | (with_reducible first | exact HB.out | apply zba | apply zbn | apply zb1) | exact HB.out))) : w.heap.size ≤ gb101)); have n3_ := zam ((by rw [hg]; exact (zbz (by repeat (first | (with_reducible first | exact HB.out | apply zba | apply zbn | apply zb1) | exact HB.out))) : w.heap.size ≤ gb101)); clear HB; have HB := n0_; have BK101 := n1_; have GW101 := n2_; have GE101 := n3_; clear n0_ n1_ n2_ n3_; clear hb hbox hg) | ((with_reducible refine zgd (N := 3) rfl ?_); refine box_event ?hg (N := 3) ?hd (cs := #[.int .i64 a1_0, .int .i64 a1_1, .int .i64 a1_2, .int .i64 a1_3]) (t := 29) ?hr ?_; (case hd => rfl); (case hg => rfl); (case hr => first | (go_simp; done) | (go_simp; rfl)); intro gb102 hg w8 hbox hb; have n0_ := zam (zkb (g := gb101) (o := .cells #[.int .i64 a0_0, .int .i64 a0_1, .int .i64 a0_2, .int .i64 a0_3] 29 (0, 0)) (by (with_reducible repeat (first | refine zkn ?_ _ | refine zkd ?_ | refine zka ?_ _)); exact BK101.out) hb); have n1_ := zam (zbt (by repeat (first | (with_reducible first | exact HB.out | apply zba | apply zbn | apply zb1 | refine zbs ?_ GE101.out) | exact HB.out)) hb); have n2_ := zam (hbox); have n3_ := zam ((by rw [hg]; exact (zbz (by repeat (first | (with_reducible first | exact HB.out | apply zba | apply zbn | apply zb1 | refine zbs ?_ GE101.out) | exact HB.out))) : w.heap.size ≤ gb102)); have n4_ := zam ((by rw [hg]; exact (zbz (by repeat (first | (with_reducible first | exact HB.out | apply zba | apply zbn | apply zb1 | refine zbs ?_ GE101.out) | exact HB.out))) : w.heap.size ≤ gb102)); have n5_ := zam ((by rw [hg]; exact Nat.ne_of_lt (blk_lt (g := gb101) (o := .cells #[.int .i64 a0_0, .int .i64 a0_1, .int .i64 a0_2, .int .i64 a0_3] 29 (0, 0)) (by (with_reducible repeat (first | refine zkn ?_ _ | refine zkd ?_ | refine zka ?_ _)); exact BK101.out)) : gb101 ≠ gb102)); have n6_ := zam ((by rw [hg]; exact Nat.ne_of_gt (blk_lt (g := gb101) (o := .cells #[.int .i64 a0_0, .int .i64 a0_1, .int .i64 a0_2, .int .i64 a0_3] 29 (0, 0)) (by (with_reducible repeat (first | refine zkn ?_ _ | refine zkd ?_ | refine zka ?_ _)); exact BK101.out)) : gb102 ≠ gb101)); clear BK101; clear HB; have BK101 := n0_; have HB := n1_; have BK102 := n2_; have GW102 := n3_; have GE102 := n4_; have NB101_102 := n5_; have NB102_101 := n6_; clear n0_ n1_ n2_ n3_ n4_ n5_ n6_; clear hb hbox hg) | ((with_reducible refine zgd (N := 4) rfl ?_); refine box_event ?hg (N := 4) ?hd (cs := #[.int .i64 0, .int .i64 0]) (t := 24) ?hr ?_; (case hd => rfl); (case hg => rfl); (case hr => first | (go_simp; done) | (go_simp; rfl)); intro gb103 hg w9 hbox hb; have n0_ := zam (zkb (g := gb101) (o := .cells #[.int .i64 a0_0, .int .i64 a0_1, .int .i64 a0_2, .int .i64 a0_3] 29 (0, 0)) (by (with_reducible repeat (first | refine zkn ?_ _ | refine zkd ?_ | refine zka ?_ _)); exact BK101.out) hb); have n1_ := zam (zkb (g := gb102) (o := .cells #[.int .i64 a1_0, .int .i64 a1_1, .int .i64 a1_2, .int .i64 a1_3] 29 (0, 0)) (by (with_reducible repeat (first | refine zkn ?_ _ | refine zkd ?_ | refine zka ?_ _)); exact BK102.out) hb); have n2_ := zam (zbt (by repeat (first | (with_reducible first | exact HB.out | apply zba | apply zbn | apply zb1 | refine zbs ?_ GE101.out | refine zbs ?_ GE102.out) | exact HB.out)) hb); have n3_ := zam (hbox); have n4_ := zam ((by rw [hg]; exact (zbz (by repeat (first | (with_reducible first | exact HB.out | apply zba | apply zbn | apply zb1 | refine zbs ?_ GE101.out | refine zbs ?_ GE102.out) | exact HB.out))) : w.heap.size ≤ gb103)); have n5_ := zam ((by rw [hg]; exact (zbz (by repeat (first | (with_reducible first | exact HB.out | apply zba | apply zbn | apply zb1 | refine zbs ?_ GE101.out | refine zbs ?_ GE102.out) | exact HB.out))) : w.heap.size ≤ gb103)); have n6_ := zam ((by rw [hg]; exact Nat.ne_of_lt (blk_lt (g := gb101) (o := .cells #[.int .i64 a0_0, .int .i64 a0_1, .int .i64 a0_2, .int .i64 a0_3] 29 (0, 0)) (by (with_reducible repeat (first | refine zkn ?_ _ | refine zkd ?_ | refine zka ?_ _)); exact BK101.out)) : gb101 ≠ gb103)); have n7_ := zam ((by rw [hg]; exact Nat.ne_of_gt (blk_lt (g := gb101) (o := .cells #[.int .i64 a0_0, .int .i64 a0_1, .int .i64 a0_2, .int .i64 a0_3] 29 (0, 0)) (by (with_reducible repeat (first | refine zkn ?_ _ | refine zkd ?_ | refine zka ?_ _)); exact BK101.out)) : gb103 ≠ gb101)); have n8_ := zam ((by rw [hg]; exact Nat.ne_of_lt (blk_lt (g := gb102) (o := .cells #[.int .i64 a1_0, .int .i64 a1_1, .int .i64 a1_2, .int .i64 a1_3] 29 (0, 0)) (by (with_reducible repeat (first | refine zkn ?_ _ | refine zkd ?_ | refine zka ?_ _)); exact BK102.out)) : gb102 ≠ gb103)); have n9_ := zam ((by rw [hg]; exact Nat.ne_of_gt (blk_lt (g := gb102) (o := .cells #[.int .i64 a1_0, .int .i64 a1_1, .int .i64 a1_2, .int .i64 a1_3] 29 (0, 0)) (by (with_reducible repeat (first | refine zkn ?_ _ | refine zkd ?_ | refine zka ?_ _)); exact BK102.out)) : gb103 ≠ gb102)); clear BK101; clear BK102; clear HB; have BK101 := n0_; have BK102 := n1_; have HB := n2_; have BK103 := n3_; have GW103 := n4_; have GE103 := n5_; have NB101_103 := n6_; have NB103_101 := n7_; have NB102_103 := n8_; have NB103_102 := n9_; clear n0_ n1_ n2_ n3_ n4_ n5_ n6_ n7_ n8_ n9_; clear hb hbox hg; have hnb10 := NB101_102.out; have hnc10 := NB102_101.out; have hnb11 := NB101_103.out; have hnc11 := NB103_101.out; have hcz12_0 : w9.cell? ⟨gb101, 0, none⟩ = some (.int .i64 a0_0) := (zkc BK101.out 0).trans rfl; have hcz12_1 : w9.cell? ⟨gb101, 1, none⟩ = some (.int .i64 a0_1) := (zkc BK101.out 1).trans rfl; have hcz12_2 : w9.cell? ⟨gb101, 2, none⟩ = some (.int .i64 a0_2) := (zkc BK101.out 2).trans rfl; have hcz12_3 : w9.cell? ⟨gb101, 3, none⟩ = some (.int .i64 a0_3) := (zkc BK101.out 3).trans rfl; have hfz12_0 := zkz BK101.out 0; have hfz12_1 := zkz BK101.out 1; have hfz12_2 := zkz BK101.out 2; have hfz12_3 := zkz BK101.out 3; have hnb13 := NB102_103.out; have hnc13 := NB103_102.out; have hcz14_0 : w9.cell? ⟨gb102, 0, none⟩ = some (.int .i64 a1_0) := (zkc BK102.out 0).trans rfl; have hcz14_1 : w9.cell? ⟨gb102, 1, none⟩ = some (.int .i64 a1_1) := (zkc BK102.out 1).trans rfl; have hcz14_2 : w9.cell? ⟨gb102, 2, none⟩ = some (.int .i64 a1_2) := (zkc BK102.out 2).trans rfl; have hcz14_3 : w9.cell? ⟨gb102, 3, none⟩ = some (.int .i64 a1_3) := (zkc BK102.out 3).trans rfl; have hfz14_0 := zkz BK102.out 0; have hfz14_1 := zkz BK102.out 1; have hfz14_2 := zkz BK102.out 2; have hfz14_3 := zkz BK102.out 3) | ((with_reducible refine zgc (f := 132) rfl ?_); refine goesL_ (some 12) rfl rfl Try.func132 (by kernel_rfl) rfl #[.agg #[.int .i64 a0_0, .int .i64 a0_1, .int .i64 a0_2, .int .i64 a0_3], .agg #[.int .i64 a1_0, .int .i64 a1_1, .int .i64 a1_2, .int .i64 a1_3]] rfl (by (try simp only [zmt, List.map_cons, List.map_nil]); first | done | rfl | (simp only [zld, zlt]; rfl)) ?_; (with_reducible refine (bound_Square.calls k a0_0 a0_1 a0_2 a0_3 a1_0 a1_1 a1_2 a1_3 t104 t105 t106 _ A3.out).mono ?_); rintro e w15 ⟨rfl, hb⟩; refine ⟨_, rfl, ?_⟩; have n0_ := zam (zkb (g := gb101) (o := .cells #[.int .i64 a0_0, .int .i64 a0_1, .int .i64 a0_2, .int .i64 a0_3] 29 (0, 0)) (by (with_reducible repeat (first | refine zkn ?_ _ | refine zkd ?_ | refine zka ?_ _)); exact BK101.out) hb); have n1_ := zam (zkb (g := gb102) (o := .cells #[.int .i64 a1_0, .int .i64 a1_1, .int .i64 a1_2, .int .i64 a1_3] 29 (0, 0)) (by (with_reducible repeat (first | refine zkn ?_ _ | refine zkd ?_ | refine zka ?_ _)); exact BK102.out) hb); have n2_ := zam (zkb (g := gb103) (o := .cells #[.int .i64 0, .int .i64 0] 24 (0, 0)) (by (with_reducible repeat (first | refine zkn ?_ _ | refine zkd ?_ | refine zka ?_ _)); exact BK103.out) hb); have n3_ := zam (zbt (by repeat (first | (with_reducible first | exact HB.out | apply zba | apply zbn | apply zb1 | refine zbs ?_ GE101.out | refine zbs ?_ GE102.out | refine zbs ?_ GE103.out) | exact HB.out)) hb); clear BK101; clear BK102; clear BK103; clear HB; have BK101 := n0_; have BK102 := n1_; have BK103 := n2_; have HB := n3_; clear n0_ n1_ n2_ n3_; (try clear hb); (try clear hb2); (try clear hk); (try clear hi)) | ((with_reducible refine zgc (f := 133) rfl ?_); refine goesL_ (some 22) rfl rfl Try.func133 (by kernel_rfl) rfl #[.agg #[.bool false], .int .i64 t104] rfl (by (try simp only [zmt, List.map_cons, List.map_nil]); first | done | rfl | (simp only [zld, zlt]; rfl)) ?_; (with_reducible refine (bound_round_root.calls false t104 t107 _ A5.out).mono ?_); rintro e w16 ⟨rfl, hb⟩; refine ⟨_, rfl, ?_⟩; have n0_ := zam (zkb (g := gb101) (o := .cells #[.int .i64 a0_0, .int .i64 a0_1, .int .i64 a0_2, .int .i64 a0_3] 29 (0, 0)) (by (with_reducible repeat (first | refine zkn ?_ _ | refine zkd ?_ | refine zka ?_ _)); exact BK101.out) hb); have n1_ := zam (zkb (g := gb102) (o := .cells #[.int .i64 a1_0, .int .i64 a1_1, .int .i64 a1_2, .int .i64 a1_3] 29 (0, 0)) (by (with_reducible repeat (first | refine zkn ?_ _ | refine zkd ?_ | refine zka ?_ _)); exact BK102.out) hb); have n2_ := zam (zkb (g := gb103) (o := .cells #[.int .i64 0, .int .i64 0] 24 (0, 0)) (by (with_reducible repeat (first | refine zkn ?_ _ | refine zkd ?_ | refine zka ?_ _)); exact BK103.out) hb); have n3_ := zam (zbt (by repeat (first | (with_reducible first | exact HB.out | apply zba | apply zbn | apply zb1 | refine zbs ?_ GE101.out | refine zbs ?_ GE102.out | refine zbs ?_ GE103.out) | exact HB.out)) hb); clear BK101; clear BK102; clear BK103; clear HB; have BK101 := n0_; have BK102 := n1_; have BK103 := n2_; have HB := n3_; clear n0_ n1_ n2_ n3_; (try clear hb); (try clear hb2); (try clear hk); (try clear hi)) | ((with_reducible refine zgc (f := 133) rfl ?_); refine goesL_ (some 25) rfl rfl Try.func133 (by kernel_rfl) rfl #[.agg #[.bool true], .int .i64 t105] rfl (by (try simp only [zmt, List.map_cons, List.map_nil]); first | done | rfl | (simp only [zld, zlt]; rfl)) ?_; (with_reducible refine (bound_round_root.calls true t105 t108 _ A6.out).mono ?_); rintro e w17 ⟨rfl, hb⟩; refine ⟨_, rfl, ?_⟩; have n0_ := zam (zkb (g := gb101) (o := .cells #[.int .i64 a0_0, .int .i64 a0_1, .int .i64 a0_2, .int .i64 a0_3] 29 (0, 0)) (by (with_reducible repeat (first | refine zkn ?_ _ | refine zkd ?_ | refine zka ?_ _)); exact BK101.out) hb); have n1_ := zam (zkb (g := gb102) (o := .cells #[.int .i64 a1_0, .int .i64 a1_1, .int .i64 a1_2, .int .i64 a1_3] 29 (0, 0)) (by (with_reducible repeat (first | refine zkn ?_ _ | refine zkd ?_ | refine zka ?_ _)); exact BK102.out) hb); have n2_ := zam (zkb (g := gb103) (o := .cells #[.int .i64 0, .int .i64 0] 24 (0, 0)) (by (with_reducible repeat (first | refine zkn ?_ _ | refine zkd ?_ | refine zka ?_ _)); exact BK103.out) hb); have n3_ := zam (zbt (by repeat (first | (with_reducible first | exact HB.out | apply zba | apply zbn | apply zb1 | refine zbs ?_ GE101.out | refine zbs ?_ GE102.out | refine zbs ?_ GE103.out) | exact HB.out)) hb); clear BK101; clear BK102; clear BK103; clear HB; have BK101 := n0_; have BK102 := n1_; have BK103 := n2_; have HB := n3_; clear n0_ n1_ n2_ n3_; (try clear hb); (try clear hb2); (try clear hk); (try clear hi); have hcz18_0 : w17.cell? ⟨gb103, 0, none⟩ = some (.int .i64 0) := (zkc BK103.out 0).trans rfl; have hcz18_1 : w17.cell? ⟨gb103, 1, none⟩ = some (.int .i64 0) := (zkc BK103.out 1).trans rfl; have hfz18_0 := zkz BK103.out 0; have hfz18_1 := zkz BK103.out 1))
  refine bodyPost_ret (results_ct rfl _ _ gb103 24 #[.int .i64 t107, .int .i64 t108] (0, 0) _ rfl (by (with_reducible repeat (first | refine zkn ?_ _ | refine zkd ?_ | refine zka ?_ _)); refine blk_put (cs := #[.int .i64 t107, .int .i64 0]) ?_ 1 _ rfl; (with_reducible repeat (first | refine zkn ?_ _ | refine zkd ?_ | refine zka ?_ _)); refine blk_put (cs := #[.int .i64 0, .int .i64 0]) ?_ 0 _ rfl; (with_reducible repeat (first | refine zkn ?_ _ | refine zkd ?_ | refine zka ?_ _)); exact BK103.out) Try.underlying24 rfl (by kernel_rfl)) rfl ?_
  exact ⟨by first | rfl | (simp [errW_none, errW_some] <;> rfl) | (simp [*, errW_none, errW_some] <;> rfl), by repeat (first | (with_reducible first | exact HB.out | apply zba | apply zbn | apply zb1 | refine zbs ?_ GE101.out | refine zbs ?_ GE102.out | refine zbs ?_ GE103.out) | exact HB.out)⟩
 rw [if_neg c4] at H
 have c4b0 : (t106 == 0) = false := beq_eq_false_iff_ne.mpr c4
 have c4b1 : (t106 != 0) = true := bne_iff_ne.mpr c4
 simp only [Option.some.injEq, Prod.mk.injEq] at H
 obtain ⟨rfl, rfl, rfl⟩ := H
 go_enter Try.func120, Try.ntmps120
 go_wp2_with (first | ((with_reducible refine zgd (N := 2) rfl ?_); refine box_event ?hg (N := 2) ?hd (cs := #[.int .i64 a0_0, .int .i64 a0_1, .int .i64 a0_2, .int .i64 a0_3]) (t := 29) ?hr ?_; (case hd => rfl); (case hg => rfl); (case hr => first | (go_simp; done) | (go_simp; rfl)); intro gb101 hg w19 hbox hb; have n0_ := zam (zbt (by repeat (first | (with_reducible first | exact HB.out | apply zba | apply zbn | apply zb1) | exact HB.out)) hb); have n1_ := zam (hbox); have n2_ := zam ((by rw [hg]; exact (zbz (by repeat (first | (with_reducible first | exact HB.out | apply zba | apply zbn | apply zb1) | exact HB.out))) : w.heap.size ≤ gb101)); have n3_ := zam ((by rw [hg]; exact (zbz (by repeat (first | (with_reducible first | exact HB.out | apply zba | apply zbn | apply zb1) | exact HB.out))) : w.heap.size ≤ gb101)); clear HB; have HB := n0_; have BK101 := n1_; have GW101 := n2_; have GE101 := n3_; clear n0_ n1_ n2_ n3_; clear hb hbox hg) | ((with_reducible refine zgd (N := 3) rfl ?_); refine box_event ?hg (N := 3) ?hd (cs := #[.int .i64 a1_0, .int .i64 a1_1, .int .i64 a1_2, .int .i64 a1_3]) (t := 29) ?hr ?_; (case hd => rfl); (case hg => rfl); (case hr => first | (go_simp; done) | (go_simp; rfl)); intro gb102 hg w20 hbox hb; have n0_ := zam (zkb (g := gb101) (o := .cells #[.int .i64 a0_0, .int .i64 a0_1, .int .i64 a0_2, .int .i64 a0_3] 29 (0, 0)) (by (with_reducible repeat (first | refine zkn ?_ _ | refine zkd ?_ | refine zka ?_ _)); exact BK101.out) hb); have n1_ := zam (zbt (by repeat (first | (with_reducible first | exact HB.out | apply zba | apply zbn | apply zb1 | refine zbs ?_ GE101.out) | exact HB.out)) hb); have n2_ := zam (hbox); have n3_ := zam ((by rw [hg]; exact (zbz (by repeat (first | (with_reducible first | exact HB.out | apply zba | apply zbn | apply zb1 | refine zbs ?_ GE101.out) | exact HB.out))) : w.heap.size ≤ gb102)); have n4_ := zam ((by rw [hg]; exact (zbz (by repeat (first | (with_reducible first | exact HB.out | apply zba | apply zbn | apply zb1 | refine zbs ?_ GE101.out) | exact HB.out))) : w.heap.size ≤ gb102)); have n5_ := zam ((by rw [hg]; exact Nat.ne_of_lt (blk_lt (g := gb101) (o := .cells #[.int .i64 a0_0, .int .i64 a0_1, .int .i64 a0_2, .int .i64 a0_3] 29 (0, 0)) (by (with_reducible repeat (first | refine zkn ?_ _ | refine zkd ?_ | refine zka ?_ _)); exact BK101.out)) : gb101 ≠ gb102)); have n6_ := zam ((by rw [hg]; exact Nat.ne_of_gt (blk_lt (g := gb101) (o := .cells #[.int .i64 a0_0, .int .i64 a0_1, .int .i64 a0_2, .int .i64 a0_3] 29 (0, 0)) (by (with_reducible repeat (first | refine zkn ?_ _ | refine zkd ?_ | refine zka ?_ _)); exact BK101.out)) : gb102 ≠ gb101)); clear BK101; clear HB; have BK101 := n0_; have HB := n1_; have BK102 := n2_; have GW102 := n3_; have GE102 := n4_; have NB101_102 := n5_; have NB102_101 := n6_; clear n0_ n1_ n2_ n3_ n4_ n5_ n6_; clear hb hbox hg) | ((with_reducible refine zgd (N := 4) rfl ?_); refine box_event ?hg (N := 4) ?hd (cs := #[.int .i64 0, .int .i64 0]) (t := 24) ?hr ?_; (case hd => rfl); (case hg => rfl); (case hr => first | (go_simp; done) | (go_simp; rfl)); intro gb103 hg w21 hbox hb; have n0_ := zam (zkb (g := gb101) (o := .cells #[.int .i64 a0_0, .int .i64 a0_1, .int .i64 a0_2, .int .i64 a0_3] 29 (0, 0)) (by (with_reducible repeat (first | refine zkn ?_ _ | refine zkd ?_ | refine zka ?_ _)); exact BK101.out) hb); have n1_ := zam (zkb (g := gb102) (o := .cells #[.int .i64 a1_0, .int .i64 a1_1, .int .i64 a1_2, .int .i64 a1_3] 29 (0, 0)) (by (with_reducible repeat (first | refine zkn ?_ _ | refine zkd ?_ | refine zka ?_ _)); exact BK102.out) hb); have n2_ := zam (zbt (by repeat (first | (with_reducible first | exact HB.out | apply zba | apply zbn | apply zb1 | refine zbs ?_ GE101.out | refine zbs ?_ GE102.out) | exact HB.out)) hb); have n3_ := zam (hbox); have n4_ := zam ((by rw [hg]; exact (zbz (by repeat (first | (with_reducible first | exact HB.out | apply zba | apply zbn | apply zb1 | refine zbs ?_ GE101.out | refine zbs ?_ GE102.out) | exact HB.out))) : w.heap.size ≤ gb103)); have n5_ := zam ((by rw [hg]; exact (zbz (by repeat (first | (with_reducible first | exact HB.out | apply zba | apply zbn | apply zb1 | refine zbs ?_ GE101.out | refine zbs ?_ GE102.out) | exact HB.out))) : w.heap.size ≤ gb103)); have n6_ := zam ((by rw [hg]; exact Nat.ne_of_lt (blk_lt (g := gb101) (o := .cells #[.int .i64 a0_0, .int .i64 a0_1, .int .i64 a0_2, .int .i64 a0_3] 29 (0, 0)) (by (with_reducible repeat (first | refine zkn ?_ _ | refine zkd ?_ | refine zka ?_ _)); exact BK101.out)) : gb101 ≠ gb103)); have n7_ := zam ((by rw [hg]; exact Nat.ne_of_gt (blk_lt (g := gb101) (o := .cells #[.int .i64 a0_0, .int .i64 a0_1, .int .i64 a0_2, .int .i64 a0_3] 29 (0, 0)) (by (with_reducible repeat (first | refine zkn ?_ _ | refine zkd ?_ | refine zka ?_ _)); exact BK101.out)) : gb103 ≠ gb101)); have n8_ := zam ((by rw [hg]; exact Nat.ne_of_lt (blk_lt (g := gb102) (o := .cells #[.int .i64 a1_0, .int .i64 a1_1, .int .i64 a1_2, .int .i64 a1_3] 29 (0, 0)) (by (with_reducible repeat (first | refine zkn ?_ _ | refine zkd ?_ | refine zka ?_ _)); exact BK102.out)) : gb102 ≠ gb103)); have n9_ := zam ((by rw [hg]; exact Nat.ne_of_gt (blk_lt (g := gb102) (o := .cells #[.int .i64 a1_0, .int .i64 a1_1, .int .i64 a1_2, .int .i64 a1_3] 29 (0, 0)) (by (with_reducible repeat (first | refine zkn ?_ _ | refine zkd ?_ | refine zka ?_ _)); exact BK102.out)) : gb103 ≠ gb102)); clear BK101; clear BK102; clear HB; have BK101 := n0_; have BK102 := n1_; have HB := n2_; have BK103 := n3_; have GW103 := n4_; have GE103 := n5_; have NB101_103 := n6_; have NB103_101 := n7_; have NB102_103 := n8_; have NB103_102 := n9_; clear n0_ n1_ n2_ n3_ n4_ n5_ n6_ n7_ n8_ n9_; clear hb hbox hg; have hnb22 := NB101_102.out; have hnc22 := NB102_101.out; have hnb23 := NB101_103.out; have hnc23 := NB103_101.out; have hcz24_0 : w21.cell? ⟨gb101, 0, none⟩ = some (.int .i64 a0_0) := (zkc BK101.out 0).trans rfl; have hcz24_1 : w21.cell? ⟨gb101, 1, none⟩ = some (.int .i64 a0_1) := (zkc BK101.out 1).trans rfl; have hcz24_2 : w21.cell? ⟨gb101, 2, none⟩ = some (.int .i64 a0_2) := (zkc BK101.out 2).trans rfl; have hcz24_3 : w21.cell? ⟨gb101, 3, none⟩ = some (.int .i64 a0_3) := (zkc BK101.out 3).trans rfl; have hfz24_0 := zkz BK101.out 0; have hfz24_1 := zkz BK101.out 1; have hfz24_2 := zkz BK101.out 2; have hfz24_3 := zkz BK101.out 3; have hnb25 := NB102_103.out; have hnc25 := NB103_102.out; have hcz26_0 : w21.cell? ⟨gb102, 0, none⟩ = some (.int .i64 a1_0) := (zkc BK102.out 0).trans rfl; have hcz26_1 : w21.cell? ⟨gb102, 1, none⟩ = some (.int .i64 a1_1) := (zkc BK102.out 1).trans rfl; have hcz26_2 : w21.cell? ⟨gb102, 2, none⟩ = some (.int .i64 a1_2) := (zkc BK102.out 2).trans rfl; have hcz26_3 : w21.cell? ⟨gb102, 3, none⟩ = some (.int .i64 a1_3) := (zkc BK102.out 3).trans rfl; have hfz26_0 := zkz BK102.out 0; have hfz26_1 := zkz BK102.out 1; have hfz26_2 := zkz BK102.out 2; have hfz26_3 := zkz BK102.out 3) | ((with_reducible refine zgc (f := 132) rfl ?_); refine goesL_ (some 12) rfl rfl Try.func132 (by kernel_rfl) rfl #[.agg #[.int .i64 a0_0, .int .i64 a0_1, .int .i64 a0_2, .int .i64 a0_3], .agg #[.int .i64 a1_0, .int .i64 a1_1, .int .i64 a1_2, .int .i64 a1_3]] rfl (by (try simp only [zmt, List.map_cons, List.map_nil]); first | done | rfl | (simp only [zld, zlt]; rfl)) ?_; (with_reducible refine (bound_Square.calls k a0_0 a0_1 a0_2 a0_3 a1_0 a1_1 a1_2 a1_3 t104 t105 t106 _ A3.out).mono ?_); rintro e w27 ⟨rfl, hb⟩; refine ⟨_, rfl, ?_⟩; have n0_ := zam (zkb (g := gb101) (o := .cells #[.int .i64 a0_0, .int .i64 a0_1, .int .i64 a0_2, .int .i64 a0_3] 29 (0, 0)) (by (with_reducible repeat (first | refine zkn ?_ _ | refine zkd ?_ | refine zka ?_ _)); exact BK101.out) hb); have n1_ := zam (zkb (g := gb102) (o := .cells #[.int .i64 a1_0, .int .i64 a1_1, .int .i64 a1_2, .int .i64 a1_3] 29 (0, 0)) (by (with_reducible repeat (first | refine zkn ?_ _ | refine zkd ?_ | refine zka ?_ _)); exact BK102.out) hb); have n2_ := zam (zkb (g := gb103) (o := .cells #[.int .i64 0, .int .i64 0] 24 (0, 0)) (by (with_reducible repeat (first | refine zkn ?_ _ | refine zkd ?_ | refine zka ?_ _)); exact BK103.out) hb); have n3_ := zam (zbt (by repeat (first | (with_reducible first | exact HB.out | apply zba | apply zbn | apply zb1 | refine zbs ?_ GE101.out | refine zbs ?_ GE102.out | refine zbs ?_ GE103.out) | exact HB.out)) hb); clear BK101; clear BK102; clear BK103; clear HB; have BK101 := n0_; have BK102 := n1_; have BK103 := n2_; have HB := n3_; clear n0_ n1_ n2_ n3_; (try clear hb); (try clear hb2); (try clear hk); (try clear hi); have hcz28_0 : w27.cell? ⟨gb103, 0, none⟩ = some (.int .i64 0) := (zkc BK103.out 0).trans rfl; have hcz28_1 : w27.cell? ⟨gb103, 1, none⟩ = some (.int .i64 0) := (zkc BK103.out 1).trans rfl; have hfz28_0 := zkz BK103.out 0; have hfz28_1 := zkz BK103.out 1))
 refine bodyPost_ret (results_ct rfl _ _ gb103 24 #[.int .i64 0, .int .i64 0] (0, 0) _ rfl (by (with_reducible repeat (first | refine zkn ?_ _ | refine zkd ?_ | refine zka ?_ _)); refine blk_put (cs := #[.int .i64 0, .int .i64 0]) ?_ 1 _ rfl; (with_reducible repeat (first | refine zkn ?_ _ | refine zkd ?_ | refine zka ?_ _)); refine blk_put (cs := #[.int .i64 0, .int .i64 0]) ?_ 0 _ rfl; (with_reducible repeat (first | refine zkn ?_ _ | refine zkd ?_ | refine zka ?_ _)); exact BK103.out) Try.underlying24 rfl (by kernel_rfl)) rfl ?_
 exact ⟨by first | rfl | (simp [errW_none, errW_some] <;> rfl) | (simp [*, errW_none, errW_some] <;> rfl), by repeat (first | (with_reducible first | exact HB.out | apply zba | apply zbn | apply zb1 | refine zbs ?_ GE101.out | refine zbs ?_ GE102.out | refine zbs ?_ GE103.out) | exact HB.out)⟩
def sound_travel.f (k : Nat) (a0_0 : Int) (a0_1 : Int) (a1_0 : Int) (a1_1 : Int) (a1_2 : Int) (a1_3 : Int) (a2_0 : Int) (a2_1 : Int) (a2_2 : Int) (a2_3 : Int) : Option (Int × Int) := (bound_Distance.f k a1_0 a1_1 a1_2 a1_3 a2_0 a2_1 a2_2 a2_3).bind fun bt105 => (if a0_1 = 0 then (none) else (if a0_0 = 0 then (none) else (some (wrap64 (Int.tdiv (wrap64 (1000 * bt105.1)) a0_1), wrap64 (Int.tdiv (wrap64 ((wrap64 ((wrap64 (1000 * bt105.2.1)) + a0_0)) - 1)) a0_0)))))
def sound_travel.T2 : Bool × List (List Nat × List Nat) := (true, [([], []), ([0], [0]), ([1], [1]), ([], []), ([3], [3]), ([2, 4], [2, 4]), ([], []), ([6], [6]), ([7], [7]), ([], []), ([9], [9]), ([8, 10], [8, 10]), ([11], [11]), ([], []), ([13], [13]), ([12, 14], [12, 14]), ([5, 15], [5, 15]), ([16, 0, 1, 2, 3, 4, 5, 6, 7, 8, 9, 10, 11, 12, 13, 14, 15, 16], [16])])
def sound_travel.B2 : List Nat := [0, 1, 3, 0, 8, 31, 0, 64, 192, 0, 512, 1984, 4032, 0, 8192, 32704, 65535, 131071]
theorem sound_travel.tab2 : rtab .any (opsOf Try.f83 2) = sound_travel.T2 := by kernel_rfl
theorem sound_travel.bits2 : waitsOk sound_travel.T2.2 sound_travel.B2 = true := by kernel_rfl
set_option maxHeartbeats 8000000 in
set_option maxRecDepth 100000 in
theorem sound_travel.calls (k : Nat) (a0_0 : Int) (a0_1 : Int) (a1_0 : Int) (a1_1 : Int) (a1_2 : Int) (a1_3 : Int) (a2_0 : Int) (a2_1 : Int) (a2_2 : Int) (a2_3 : Int) (r1 : Int) (r2 : Int) (w : World) (h : sound_travel.f k a0_0 a0_1 a1_0 a1_1 a1_2 a1_3 a2_0 a2_1 a2_2 a2_3 = some (r1, r2)) :
  Calls Try.prog 83 #[.agg #[.int .i64 a0_0, .int .i64 a0_1], .agg #[.int .i64 a1_0, .int .i64 a1_1, .int .i64 a1_2, .int .i64 a1_3], .agg #[.int .i64 a2_0, .int .i64 a2_1, .int .i64 a2_2, .int .i64 a2_3]] w fun e w' => e = .returned (.agg #[.int .i64 r1, .int .i64 r2]) ∧ Below w.heap.size w w' := by
 have hu24 := Try.underlying24
 have hu29 := Try.underlying29
 have HB := zam (Below.refl w.heap.size w)
 have H : ((bound_Distance.f k a1_0 a1_1 a1_2 a1_3 a2_0 a2_1 a2_2 a2_3).bind fun bt105 => (if a0_1 = 0 then (none) else (if a0_0 = 0 then (none) else (some (wrap64 (Int.tdiv (wrap64 (1000 * bt105.1)) a0_1), wrap64 (Int.tdiv (wrap64 ((wrap64 ((wrap64 (1000 * bt105.2.1)) + a0_0)) - 1)) a0_0)))))) = some (r1, r2) := h
 clear h
 replace H := Option.bind_eq_some_iff.mp H
 obtain ⟨⟨t105, t106, t107⟩, A40, H⟩ := H
 replace H : (if a0_1 = 0 then (none) else (if a0_0 = 0 then (none) else (some (wrap64 (Int.tdiv (wrap64 (1000 * t105)) a0_1), wrap64 (Int.tdiv (wrap64 ((wrap64 ((wrap64 (1000 * t106)) + a0_0)) - 1)) a0_0))))) = some (r1, r2) := H
 have A4 := zam A40
 clear A40
 by_cases c5 : a0_1 = 0
 ·rw [if_pos c5] at H
  exact absurd H (by simp)
 rw [if_neg c5] at H
 have c5b0 : (a0_1 == 0) = false := beq_eq_false_iff_ne.mpr c5
 have c5b1 : (a0_1 != 0) = true := bne_iff_ne.mpr c5
 by_cases c6 : a0_0 = 0
 ·rw [if_pos c6] at H
  exact absurd H (by simp)
 rw [if_neg c6] at H
 have c6b0 : (a0_0 == 0) = false := beq_eq_false_iff_ne.mpr c6
 have c6b1 : (a0_0 != 0) = true := bne_iff_ne.mpr c6
 simp only [Option.some.injEq, Prod.mk.injEq] at H
 obtain ⟨rfl, rfl⟩ := H
 go_enter Try.func83, Try.ntmps83
 try go_wp2_with (first | ((with_reducible refine zgd (N := 3) rfl ?_); refine box_event ?hg (N := 3) ?hd (cs := #[.int .i64 a0_0, .int .i64 a0_1]) (t := 24) ?hr ?_; (case hd => rfl); (case hg => rfl); (case hr => first | (go_simp; done) | (go_simp; rfl)); intro gb101 hg w7 hbox hb; have n0_ := zam (zbt (by repeat (first | (with_reducible first | exact HB.out | apply zba | apply zbn | apply zb1) | exact HB.out)) hb); have n1_ := zam (hbox); have n2_ := zam ((by rw [hg]; exact (zbz (by repeat (first | (with_reducible first | exact HB.out | apply zba | apply zbn | apply zb1) | exact HB.out))) : w.heap.size ≤ gb101)); have n3_ := zam ((by rw [hg]; exact (zbz (by repeat (first | (with_reducible first | exact HB.out | apply zba | apply zbn | apply zb1) | exact HB.out))) : w.heap.size ≤ gb101)); clear HB; have HB := n0_; have BK101 := n1_; have GW101 := n2_; have GE101 := n3_; clear n0_ n1_ n2_ n3_; clear hb hbox hg) | ((with_reducible refine zgd (N := 4) rfl ?_); refine box_event ?hg (N := 4) ?hd (cs := #[.int .i64 a1_0, .int .i64 a1_1, .int .i64 a1_2, .int .i64 a1_3]) (t := 29) ?hr ?_; (case hd => rfl); (case hg => rfl); (case hr => first | (go_simp; done) | (go_simp; rfl)); intro gb102 hg w8 hbox hb; have n0_ := zam (zkb (g := gb101) (o := .cells #[.int .i64 a0_0, .int .i64 a0_1] 24 (0, 0)) (by (with_reducible repeat (first | refine zkn ?_ _ | refine zkd ?_ | refine zka ?_ _)); exact BK101.out) hb); have n1_ := zam (zbt (by repeat (first | (with_reducible first | exact HB.out | apply zba | apply zbn | apply zb1 | refine zbs ?_ GE101.out) | exact HB.out)) hb); have n2_ := zam (hbox); have n3_ := zam ((by rw [hg]; exact (zbz (by repeat (first | (with_reducible first | exact HB.out | apply zba | apply zbn | apply zb1 | refine zbs ?_ GE101.out) | exact HB.out))) : w.heap.size ≤ gb102)); have n4_ := zam ((by rw [hg]; exact (zbz (by repeat (first | (with_reducible first | exact HB.out | apply zba | apply zbn | apply zb1 | refine zbs ?_ GE101.out) | exact HB.out))) : w.heap.size ≤ gb102)); have n5_ := zam ((by rw [hg]; exact Nat.ne_of_lt (blk_lt (g := gb101) (o := .cells #[.int .i64 a0_0, .int .i64 a0_1] 24 (0, 0)) (by (with_reducible repeat (first | refine zkn ?_ _ | refine zkd ?_ | refine zka ?_ _)); exact BK101.out)) : gb101 ≠ gb102)); have n6_ := zam ((by rw [hg]; exact Nat.ne_of_gt (blk_lt (g := gb101) (o := .cells #[.int .i64 a0_0, .int .i64 a0_1] 24 (0, 0)) (by (with_reducible repeat (first | refine zkn ?_ _ | refine zkd ?_ | refine zka ?_ _)); exact BK101.out)) : gb102 ≠ gb101)); clear BK101; clear HB; have BK101 := n0_; have HB := n1_; have BK102 := n2_; have GW102 := n3_; have GE102 := n4_; have NB101_102 := n5_; have NB102_101 := n6_; clear n0_ n1_ n2_ n3_ n4_ n5_ n6_; clear hb hbox hg) | ((with_reducible refine zgd (N := 5) rfl ?_); refine box_event ?hg (N := 5) ?hd (cs := #[.int .i64 a2_0, .int .i64 a2_1, .int .i64 a2_2, .int .i64 a2_3]) (t := 29) ?hr ?_; (case hd => rfl); (case hg => rfl); (case hr => first | (go_simp; done) | (go_simp; rfl)); intro gb103 hg w9 hbox hb; have n0_ := zam (zkb (g := gb101) (o := .cells #[.int .i64 a0_0, .int .i64 a0_1] 24 (0, 0)) (by (with_reducible repeat (first | refine zkn ?_ _ | refine zkd ?_ | refine zka ?_ _)); exact BK101.out) hb); have n1_ := zam (zkb (g := gb102) (o := .cells #[.int .i64 a1_0, .int .i64 a1_1, .int .i64 a1_2, .int .i64 a1_3] 29 (0, 0)) (by (with_reducible repeat (first | refine zkn ?_ _ | refine zkd ?_ | refine zka ?_ _)); exact BK102.out) hb); have n2_ := zam (zbt (by repeat (first | (with_reducible first | exact HB.out | apply zba | apply zbn | apply zb1 | refine zbs ?_ GE101.out | refine zbs ?_ GE102.out) | exact HB.out)) hb); have n3_ := zam (hbox); have n4_ := zam ((by rw [hg]; exact (zbz (by repeat (first | (with_reducible first | exact HB.out | apply zba | apply zbn | apply zb1 | refine zbs ?_ GE101.out | refine zbs ?_ GE102.out) | exact HB.out))) : w.heap.size ≤ gb103)); have n5_ := zam ((by rw [hg]; exact (zbz (by repeat (first | (with_reducible first | exact HB.out | apply zba | apply zbn | apply zb1 | refine zbs ?_ GE101.out | refine zbs ?_ GE102.out) | exact HB.out))) : w.heap.size ≤ gb103)); have n6_ := zam ((by rw [hg]; exact Nat.ne_of_lt (blk_lt (g := gb101) (o := .cells #[.int .i64 a0_0, .int .i64 a0_1] 24 (0, 0)) (by (with_reducible repeat (first | refine zkn ?_ _ | refine zkd ?_ | refine zka ?_ _)); exact BK101.out)) : gb101 ≠ gb103)); have n7_ := zam ((by rw [hg]; exact Nat.ne_of_gt (blk_lt (g := gb101) (o := .cells #[.int .i64 a0_0, .int .i64 a0_1] 24 (0, 0)) (by (with_reducible repeat (first | refine zkn ?_ _ | refine zkd ?_ | refine zka ?_ _)); exact BK101.out)) : gb103 ≠ gb101)); have n8_ := zam ((by rw [hg]; exact Nat.ne_of_lt (blk_lt (g := gb102) (o := .cells #[.int .i64 a1_0, .int .i64 a1_1, .int .i64 a1_2, .int .i64 a1_3] 29 (0, 0)) (by (with_reducible repeat (first | refine zkn ?_ _ | refine zkd ?_ | refine zka ?_ _)); exact BK102.out)) : gb102 ≠ gb103)); have n9_ := zam ((by rw [hg]; exact Nat.ne_of_gt (blk_lt (g := gb102) (o := .cells #[.int .i64 a1_0, .int .i64 a1_1, .int .i64 a1_2, .int .i64 a1_3] 29 (0, 0)) (by (with_reducible repeat (first | refine zkn ?_ _ | refine zkd ?_ | refine zka ?_ _)); exact BK102.out)) : gb103 ≠ gb102)); clear BK101; clear BK102; clear HB; have BK101 := n0_; have BK102 := n1_; have HB := n2_; have BK103 := n3_; have GW103 := n4_; have GE103 := n5_; have NB101_103 := n6_; have NB103_101 := n7_; have NB102_103 := n8_; have NB103_102 := n9_; clear n0_ n1_ n2_ n3_ n4_ n5_ n6_ n7_ n8_ n9_; clear hb hbox hg) | ((with_reducible refine zgd (N := 6) rfl ?_); refine box_event ?hg (N := 6) ?hd (cs := #[.int .i64 0, .int .i64 0]) (t := 24) ?hr ?_; (case hd => rfl); (case hg => rfl); (case hr => first | (go_simp; done) | (go_simp; rfl)); intro gb104 hg w10 hbox hb; have n0_ := zam (zkb (g := gb101) (o := .cells #[.int .i64 a0_0, .int .i64 a0_1] 24 (0, 0)) (by (with_reducible repeat (first | refine zkn ?_ _ | refine zkd ?_ | refine zka ?_ _)); exact BK101.out) hb); have n1_ := zam (zkb (g := gb102) (o := .cells #[.int .i64 a1_0, .int .i64 a1_1, .int .i64 a1_2, .int .i64 a1_3] 29 (0, 0)) (by (with_reducible repeat (first | refine zkn ?_ _ | refine zkd ?_ | refine zka ?_ _)); exact BK102.out) hb); have n2_ := zam (zkb (g := gb103) (o := .cells #[.int .i64 a2_0, .int .i64 a2_1, .int .i64 a2_2, .int .i64 a2_3] 29 (0, 0)) (by (with_reducible repeat (first | refine zkn ?_ _ | refine zkd ?_ | refine zka ?_ _)); exact BK103.out) hb); have n3_ := zam (zbt (by repeat (first | (with_reducible first | exact HB.out | apply zba | apply zbn | apply zb1 | refine zbs ?_ GE101.out | refine zbs ?_ GE102.out | refine zbs ?_ GE103.out) | exact HB.out)) hb); have n4_ := zam (hbox); have n5_ := zam ((by rw [hg]; exact (zbz (by repeat (first | (with_reducible first | exact HB.out | apply zba | apply zbn | apply zb1 | refine zbs ?_ GE101.out | refine zbs ?_ GE102.out | refine zbs ?_ GE103.out) | exact HB.out))) : w.heap.size ≤ gb104)); have n6_ := zam ((by rw [hg]; exact (zbz (by repeat (first | (with_reducible first | exact HB.out | apply zba | apply zbn | apply zb1 | refine zbs ?_ GE101.out | refine zbs ?_ GE102.out | refine zbs ?_ GE103.out) | exact HB.out))) : w.heap.size ≤ gb104)); have n7_ := zam ((by rw [hg]; exact Nat.ne_of_lt (blk_lt (g := gb101) (o := .cells #[.int .i64 a0_0, .int .i64 a0_1] 24 (0, 0)) (by (with_reducible repeat (first | refine zkn ?_ _ | refine zkd ?_ | refine zka ?_ _)); exact BK101.out)) : gb101 ≠ gb104)); have n8_ := zam ((by rw [hg]; exact Nat.ne_of_gt (blk_lt (g := gb101) (o := .cells #[.int .i64 a0_0, .int .i64 a0_1] 24 (0, 0)) (by (with_reducible repeat (first | refine zkn ?_ _ | refine zkd ?_ | refine zka ?_ _)); exact BK101.out)) : gb104 ≠ gb101)); have n9_ := zam ((by rw [hg]; exact Nat.ne_of_lt (blk_lt (g := gb102) (o := .cells #[.int .i64 a1_0, .int .i64 a1_1, .int .i64 a1_2, .int .i64 a1_3] 29 (0, 0)) (by (with_reducible repeat (first | refine zkn ?_ _ | refine zkd ?_ | refine zka ?_ _)); exact BK102.out)) : gb102 ≠ gb104)); have n10_ := zam ((by rw [hg]; exact Nat.ne_of_gt (blk_lt (g := gb102) (o := .cells #[.int .i64 a1_0, .int .i64 a1_1, .int .i64 a1_2, .int .i64 a1_3] 29 (0, 0)) (by (with_reducible repeat (first | refine zkn ?_ _ | refine zkd ?_ | refine zka ?_ _)); exact BK102.out)) : gb104 ≠ gb102)); have n11_ := zam ((by rw [hg]; exact Nat.ne_of_lt (blk_lt (g := gb103) (o := .cells #[.int .i64 a2_0, .int .i64 a2_1, .int .i64 a2_2, .int .i64 a2_3] 29 (0, 0)) (by (with_reducible repeat (first | refine zkn ?_ _ | refine zkd ?_ | refine zka ?_ _)); exact BK103.out)) : gb103 ≠ gb104)); have n12_ := zam ((by rw [hg]; exact Nat.ne_of_gt (blk_lt (g := gb103) (o := .cells #[.int .i64 a2_0, .int .i64 a2_1, .int .i64 a2_2, .int .i64 a2_3] 29 (0, 0)) (by (with_reducible repeat (first | refine zkn ?_ _ | refine zkd ?_ | refine zka ?_ _)); exact BK103.out)) : gb104 ≠ gb103)); clear BK101; clear BK102; clear BK103; clear HB; have BK101 := n0_; have BK102 := n1_; have BK103 := n2_; have HB := n3_; have BK104 := n4_; have GW104 := n5_; have GE104 := n6_; have NB101_104 := n7_; have NB104_101 := n8_; have NB102_104 := n9_; have NB104_102 := n10_; have NB103_104 := n11_; have NB104_103 := n12_; clear n0_ n1_ n2_ n3_ n4_ n5_ n6_ n7_ n8_ n9_ n10_ n11_ n12_; clear hb hbox hg; have hnb11 := NB102_101.out; have hnc11 := NB101_102.out; have hnb12 := NB102_103.out; have hnc12 := NB103_102.out; have hnb13 := NB102_104.out; have hnc13 := NB104_102.out; have hcz14_0 : w10.cell? ⟨gb102, 0, none⟩ = some (.int .i64 a1_0) := (zkc BK102.out 0).trans rfl; have hcz14_1 : w10.cell? ⟨gb102, 1, none⟩ = some (.int .i64 a1_1) := (zkc BK102.out 1).trans rfl; have hcz14_2 : w10.cell? ⟨gb102, 2, none⟩ = some (.int .i64 a1_2) := (zkc BK102.out 2).trans rfl; have hcz14_3 : w10.cell? ⟨gb102, 3, none⟩ = some (.int .i64 a1_3) := (zkc BK102.out 3).trans rfl; have hfz14_0 := zkz BK102.out 0; have hfz14_1 := zkz BK102.out 1; have hfz14_2 := zkz BK102.out 2; have hfz14_3 := zkz BK102.out 3; have hnb15 := NB103_101.out; have hnc15 := NB101_103.out; have hnb16 := NB103_104.out; have hnc16 := NB104_103.out; have hcz17_0 : w10.cell? ⟨gb103, 0, none⟩ = some (.int .i64 a2_0) := (zkc BK103.out 0).trans rfl; have hcz17_1 : w10.cell? ⟨gb103, 1, none⟩ = some (.int .i64 a2_1) := (zkc BK103.out 1).trans rfl; have hcz17_2 : w10.cell? ⟨gb103, 2, none⟩ = some (.int .i64 a2_2) := (zkc BK103.out 2).trans rfl; have hcz17_3 : w10.cell? ⟨gb103, 3, none⟩ = some (.int .i64 a2_3) := (zkc BK103.out 3).trans rfl; have hfz17_0 := zkz BK103.out 0; have hfz17_1 := zkz BK103.out 1; have hfz17_2 := zkz BK103.out 2; have hfz17_3 := zkz BK103.out 3) | ((with_reducible refine zgc (f := 120) rfl ?_); refine goesL_ (some 12) rfl rfl Try.func120 (by kernel_rfl) rfl #[.agg #[.int .i64 a1_0, .int .i64 a1_1, .int .i64 a1_2, .int .i64 a1_3], .agg #[.int .i64 a2_0, .int .i64 a2_1, .int .i64 a2_2, .int .i64 a2_3]] rfl (by (try simp only [zmt, List.map_cons, List.map_nil]); first | done | rfl | (simp only [zld, zlt]; rfl)) ?_; (with_reducible refine (bound_Distance.calls k a1_0 a1_1 a1_2 a1_3 a2_0 a2_1 a2_2 a2_3 t105 t106 t107 _ A4.out).mono ?_); rintro e w18 ⟨rfl, hb⟩; refine ⟨_, rfl, ?_⟩; have n0_ := zam (zkb (g := gb101) (o := .cells #[.int .i64 a0_0, .int .i64 a0_1] 24 (0, 0)) (by (with_reducible repeat (first | refine zkn ?_ _ | refine zkd ?_ | refine zka ?_ _)); exact BK101.out) hb); have n1_ := zam (zkb (g := gb102) (o := .cells #[.int .i64 a1_0, .int .i64 a1_1, .int .i64 a1_2, .int .i64 a1_3] 29 (0, 0)) (by (with_reducible repeat (first | refine zkn ?_ _ | refine zkd ?_ | refine zka ?_ _)); exact BK102.out) hb); have n2_ := zam (zkb (g := gb103) (o := .cells #[.int .i64 a2_0, .int .i64 a2_1, .int .i64 a2_2, .int .i64 a2_3] 29 (0, 0)) (by (with_reducible repeat (first | refine zkn ?_ _ | refine zkd ?_ | refine zka ?_ _)); exact BK103.out) hb); have n3_ := zam (zkb (g := gb104) (o := .cells #[.int .i64 0, .int .i64 0] 24 (0, 0)) (by (with_reducible repeat (first | refine zkn ?_ _ | refine zkd ?_ | refine zka ?_ _)); exact BK104.out) hb); have n4_ := zam (zbt (by repeat (first | (with_reducible first | exact HB.out | apply zba | apply zbn | apply zb1 | refine zbs ?_ GE101.out | refine zbs ?_ GE102.out | refine zbs ?_ GE103.out | refine zbs ?_ GE104.out) | exact HB.out)) hb); clear BK101; clear BK102; clear BK103; clear BK104; clear HB; have BK101 := n0_; have BK102 := n1_; have BK103 := n2_; have BK104 := n3_; have HB := n4_; clear n0_ n1_ n2_ n3_ n4_; (try clear hb); (try clear hb2); (try clear hk); (try clear hi)) | ((with_reducible refine zgd (N := 7) rfl ?_); refine box_event ?hg (N := 7) ?hd (cs := #[.int .i64 0, .int .i64 0]) (t := 24) ?hr ?_; (case hd => rfl); (case hg => rfl); (case hr => first | (go_simp; done) | (go_simp; rfl)); intro gb108 hg w19 hbox hb; have n0_ := zam (zkb (g := gb101) (o := .cells #[.int .i64 a0_0, .int .i64 a0_1] 24 (0, 0)) (by (with_reducible repeat (first | refine zkn ?_ _ | refine zkd ?_ | refine zka ?_ _)); exact BK101.out) hb); have n1_ := zam (zkb (g := gb102) (o := .cells #[.int .i64 a1_0, .int .i64 a1_1, .int .i64 a1_2, .int .i64 a1_3] 29 (0, 0)) (by (with_reducible repeat (first | refine zkn ?_ _ | refine zkd ?_ | refine zka ?_ _)); exact BK102.out) hb); have n2_ := zam (zkb (g := gb103) (o := .cells #[.int .i64 a2_0, .int .i64 a2_1, .int .i64 a2_2, .int .i64 a2_3] 29 (0, 0)) (by (with_reducible repeat (first | refine zkn ?_ _ | refine zkd ?_ | refine zka ?_ _)); exact BK103.out) hb); have n3_ := zam (zkb (g := gb104) (o := .cells #[.int .i64 0, .int .i64 0] 24 (0, 0)) (by (with_reducible repeat (first | refine zkn ?_ _ | refine zkd ?_ | refine zka ?_ _)); exact BK104.out) hb); have n4_ := zam (zbt (by repeat (first | (with_reducible first | exact HB.out | apply zba | apply zbn | apply zb1 | refine zbs ?_ GE101.out | refine zbs ?_ GE102.out | refine zbs ?_ GE103.out | refine zbs ?_ GE104.out) | exact HB.out)) hb); have n5_ := zam (hbox); have n6_ := zam ((by rw [hg]; exact (zbz (by repeat (first | (with_reducible first | exact HB.out | apply zba | apply zbn | apply zb1 | refine zbs ?_ GE101.out | refine zbs ?_ GE102.out | refine zbs ?_ GE103.out | refine zbs ?_ GE104.out) | exact HB.out))) : w.heap.size ≤ gb108)); have n7_ := zam ((by rw [hg]; exact (zbz (by repeat (first | (with_reducible first | exact HB.out | apply zba | apply zbn | apply zb1 | refine zbs ?_ GE101.out | refine zbs ?_ GE102.out | refine zbs ?_ GE103.out | refine zbs ?_ GE104.out) | exact HB.out))) : w.heap.size ≤ gb108)); have n8_ := zam ((by rw [hg]; exact Nat.ne_of_lt (blk_lt (g := gb101) (o := .cells #[.int .i64 a0_0, .int .i64 a0_1] 24 (0, 0)) (by (with_reducible repeat (first | refine zkn ?_ _ | refine zkd ?_ | refine zka ?_ _)); exact BK101.out)) : gb101 ≠ gb108)); have n9_ := zam ((by rw [hg]; exact Nat.ne_of_gt (blk_lt (g := gb101) (o := .cells #[.int .i64 a0_0, .int .i64 a0_1] 24 (0, 0)) (by (with_reducible repeat (first | refine zkn ?_ _ | refine zkd ?_ | refine zka ?_ _)); exact BK101.out)) : gb108 ≠ gb101)); have n10_ := zam ((by rw [hg]; exact Nat.ne_of_lt (blk_lt (g := gb102) (o := .cells #[.int .i64 a1_0, .int .i64 a1_1, .int .i64 a1_2, .int .i64 a1_3] 29 (0, 0)) (by (with_reducible repeat (first | refine zkn ?_ _ | refine zkd ?_ | refine zka ?_ _)); exact BK102.out)) : gb102 ≠ gb108)); have n11_ := zam ((by rw [hg]; exact Nat.ne_of_gt (blk_lt (g := gb102) (o := .cells #[.int .i64 a1_0, .int .i64 a1_1, .int .i64 a1_2, .int .i64 a1_3] 29 (0, 0)) (by (with_reducible repeat (first | refine zkn ?_ _ | refine zkd ?_ | refine zka ?_ _)); exact BK102.out)) : gb108 ≠ gb102)); have n12_ := zam ((by rw [hg]; exact Nat.ne_of_lt (blk_lt (g := gb103) (o := .cells #[.int .i64 a2_0, .int .i64 a2_1, .int .i64 a2_2, .int .i64 a2_3] 29 (0, 0)) (by (with_reducible repeat (first | refine zkn ?_ _ | refine zkd ?_ | refine zka ?_ _)); exact BK103.out)) : gb103 ≠ gb108)); have n13_ := zam ((by rw [hg]; exact Nat.ne_of_gt (blk_lt (g := gb103) (o := .cells #[.int .i64 a2_0, .int .i64 a2_1, .int .i64 a2_2, .int .i64 a2_3] 29 (0, 0)) (by (with_reducible repeat (first | refine zkn ?_ _ | refine zkd ?_ | refine zka ?_ _)); exact BK103.out)) : gb108 ≠ gb103)); have n14_ := zam ((by rw [hg]; exact Nat.ne_of_lt (blk_lt (g := gb104) (o := .cells #[.int .i64 0, .int .i64 0] 24 (0, 0)) (by (with_reducible repeat (first | refine zkn ?_ _ | refine zkd ?_ | refine zka ?_ _)); exact BK104.out)) : gb104 ≠ gb108)); have n15_ := zam ((by rw [hg]; exact Nat.ne_of_gt (blk_lt (g := gb104) (o := .cells #[.int .i64 0, .int .i64 0] 24 (0, 0)) (by (with_reducible repeat (first | refine zkn ?_ _ | refine zkd ?_ | refine zka ?_ _)); exact BK104.out)) : gb108 ≠ gb104)); clear BK101; clear BK102; clear BK103; clear BK104; clear HB; have BK101 := n0_; have BK102 := n1_; have BK103 := n2_; have BK104 := n3_; have HB := n4_; have BK108 := n5_; have GW108 := n6_; have GE108 := n7_; have NB101_108 := n8_; have NB108_101 := n9_; have NB102_108 := n10_; have NB108_102 := n11_; have NB103_108 := n12_; have NB108_103 := n13_; have NB104_108 := n14_; have NB108_104 := n15_; clear n0_ n1_ n2_ n3_ n4_ n5_ n6_ n7_ n8_ n9_ n10_ n11_ n12_ n13_ n14_ n15_; clear hb hbox hg; have hnb20 := NB108_101.out; have hnc20 := NB101_108.out; have hnb21 := NB108_102.out; have hnc21 := NB102_108.out; have hnb22 := NB108_103.out; have hnc22 := NB103_108.out; have hnb23 := NB108_104.out; have hnc23 := NB104_108.out; have hcz24_0 : w19.cell? ⟨gb108, 0, none⟩ = some (.int .i64 0) := (zkc BK108.out 0).trans rfl; have hcz24_1 : w19.cell? ⟨gb108, 1, none⟩ = some (.int .i64 0) := (zkc BK108.out 1).trans rfl; have hfz24_0 := zkz BK108.out 0; have hfz24_1 := zkz BK108.out 1))
 have n0_ : Aside0 (((w19.setCell ⟨gb108, 0, none⟩ (.int .i64 t105)).setCell ⟨gb108, 1, none⟩ (.int .i64 t106)).heap[gb101]? = some (.cells #[.int .i64 a0_0, .int .i64 a0_1] 24 (0, 0))) := ⟨by (with_reducible repeat (first | refine zkn ?_ _ | refine zkd ?_ | refine zka ?_ _)); refine zkf ?_ NB101_108.out _; (with_reducible repeat (first | refine zkn ?_ _ | refine zkd ?_ | refine zka ?_ _)); refine zkf ?_ NB101_108.out _; (with_reducible repeat (first | refine zkn ?_ _ | refine zkd ?_ | refine zka ?_ _)); exact BK101.out⟩
 have n1_ : Aside0 (((w19.setCell ⟨gb108, 0, none⟩ (.int .i64 t105)).setCell ⟨gb108, 1, none⟩ (.int .i64 t106)).heap[gb102]? = some (.cells #[.int .i64 a1_0, .int .i64 a1_1, .int .i64 a1_2, .int .i64 a1_3] 29 (0, 0))) := ⟨by (with_reducible repeat (first | refine zkn ?_ _ | refine zkd ?_ | refine zka ?_ _)); refine zkf ?_ NB102_108.out _; (with_reducible repeat (first | refine zkn ?_ _ | refine zkd ?_ | refine zka ?_ _)); refine zkf ?_ NB102_108.out _; (with_reducible repeat (first | refine zkn ?_ _ | refine zkd ?_ | refine zka ?_ _)); exact BK102.out⟩
 have n2_ : Aside0 (((w19.setCell ⟨gb108, 0, none⟩ (.int .i64 t105)).setCell ⟨gb108, 1, none⟩ (.int .i64 t106)).heap[gb103]? = some (.cells #[.int .i64 a2_0, .int .i64 a2_1, .int .i64 a2_2, .int .i64 a2_3] 29 (0, 0))) := ⟨by (with_reducible repeat (first | refine zkn ?_ _ | refine zkd ?_ | refine zka ?_ _)); refine zkf ?_ NB103_108.out _; (with_reducible repeat (first | refine zkn ?_ _ | refine zkd ?_ | refine zka ?_ _)); refine zkf ?_ NB103_108.out _; (with_reducible repeat (first | refine zkn ?_ _ | refine zkd ?_ | refine zka ?_ _)); exact BK103.out⟩
 have n3_ : Aside0 (((w19.setCell ⟨gb108, 0, none⟩ (.int .i64 t105)).setCell ⟨gb108, 1, none⟩ (.int .i64 t106)).heap[gb104]? = some (.cells #[.int .i64 0, .int .i64 0] 24 (0, 0))) := ⟨by (with_reducible repeat (first | refine zkn ?_ _ | refine zkd ?_ | refine zka ?_ _)); refine zkf ?_ NB104_108.out _; (with_reducible repeat (first | refine zkn ?_ _ | refine zkd ?_ | refine zka ?_ _)); refine zkf ?_ NB104_108.out _; (with_reducible repeat (first | refine zkn ?_ _ | refine zkd ?_ | refine zka ?_ _)); exact BK104.out⟩
 have n4_ : Aside0 (((w19.setCell ⟨gb108, 0, none⟩ (.int .i64 t105)).setCell ⟨gb108, 1, none⟩ (.int .i64 t106)).heap[gb108]? = some (.cells #[.int .i64 t105, .int .i64 t106] 24 (0, 0))) := ⟨by (with_reducible repeat (first | refine zkn ?_ _ | refine zkd ?_ | refine zka ?_ _)); refine blk_put (cs := #[.int .i64 t105, .int .i64 0]) ?_ 1 _ rfl; (with_reducible repeat (first | refine zkn ?_ _ | refine zkd ?_ | refine zka ?_ _)); refine blk_put (cs := #[.int .i64 0, .int .i64 0]) ?_ 0 _ rfl; (with_reducible repeat (first | refine zkn ?_ _ | refine zkd ?_ | refine zka ?_ _)); exact BK108.out⟩
 have n5_ : Aside0 (Below w.heap.size w ((w19.setCell ⟨gb108, 0, none⟩ (.int .i64 t105)).setCell ⟨gb108, 1, none⟩ (.int .i64 t106))) := ⟨by repeat (first | (with_reducible first | exact HB.out | apply zba | apply zbn | apply zb1 | refine zbs ?_ GE101.out | refine zbs ?_ GE102.out | refine zbs ?_ GE103.out | refine zbs ?_ GE104.out | refine zbs ?_ GE108.out) | exact HB.out)⟩
 (try clear BK101)
 (try clear BK102)
 (try clear BK103)
 (try clear BK104)
 (try clear BK108)
 (try clear HB)
 generalize ((w19.setCell ⟨gb108, 0, none⟩ (.int .i64 t105)).setCell ⟨gb108, 1, none⟩ (.int .i64 t106)) = w25 at n0_ n1_ n2_ n3_ n4_ n5_ ⊢
 have BK101 := n0_
 have BK102 := n1_
 have BK103 := n2_
 have BK104 := n3_
 have BK108 := n4_
 have HB := n5_
 clear n0_ n1_ n2_ n3_ n4_ n5_
 have n0_ := zam (zkd BK101.out)
 have n1_ := zam (zkd BK102.out)
 have n2_ := zam (zkd BK103.out)
 have n3_ := zam (zkd BK104.out)
 have n4_ := zam (zkd BK108.out)
 have n5_ := zam (zb1 HB.out)
 clear BK101
 clear BK102
 clear BK103
 clear BK104
 clear BK108
 clear HB
 have BK101 := n0_
 have BK102 := n1_
 have BK103 := n2_
 have BK104 := n3_
 have BK108 := n4_
 have HB := n5_
 clear n0_ n1_ n2_ n3_ n4_ n5_
 refine start_ (n := 18) (S := fun w' => w'.cell? ⟨gb108, 0, none⟩ = some (.int .i64 t105) ∧ w'.cell? ⟨gb108, 1, none⟩ = some (.int .i64 t106) ∧ w'.cell? ⟨gb101, 0, none⟩ = some (.int .i64 a0_0) ∧ w'.cell? ⟨gb101, 1, none⟩ = some (.int .i64 a0_1)) (ds := []) #[false, false, false, false, false, false, false, false, false, false, false, false, false, false, false, false, false, false] (by kernel_rfl) rfl rfl ⟨(zkc BK108.out 0).trans rfl, (zkc BK108.out 1).trans rfl, (zkc BK101.out 0).trans rfl, (zkc BK101.out 1).trans rfl⟩ (fun hHeld => ?_); refine with_tabW sound_travel.tab2 sound_travel.bits2 (fun HT_ HW_ => ?_)
 generalize w25.drew = w26 at BK101 BK102 BK103 BK104 BK108 HB hHeld ⊢
 refine pure_ (i := 0) (N := some 15) (v := ?_) (a' := ?_) #[true, false, false, false, false, false, false, false, false, false, false, false, false, false, false, false, false, false] rfl rfl (any_of HT_.out (by kernel_rfl)) (fun _ _ _ h => h) (Or.inl ⟨by rfl, ?_⟩) ?_ ?_
 rotate_left
 ·intro w'
  go_simp
  with_reducible rfl
 rotate_left
 ·simp only [Act.put, zsa, zsz, zss, i64_w, i32_w]
  rfl
 refine pure_ (i := 3) (N := some 18) (v := ?_) (a' := ?_) #[true, false, false, true, false, false, false, false, false, false, false, false, false, false, false, false, false, false] rfl rfl (any_of HT_.out (by kernel_rfl)) (fun _ _ _ h => h) (Or.inl ⟨by rfl, ?_⟩) ?_ ?_
 rotate_left
 ·intro w'
  go_simp
  with_reducible rfl
 rotate_left
 ·simp only [Act.put, zsa, zsz, zss, i64_w, i32_w]
  rfl
 refine pure_ (i := 6) (N := some 21) (v := ?_) (a' := ?_) #[true, false, false, true, false, false, true, false, false, false, false, false, false, false, false, false, false, false] rfl rfl (any_of HT_.out (by kernel_rfl)) (fun _ _ _ h => h) (Or.inl ⟨by rfl, ?_⟩) ?_ ?_
 rotate_left
 ·intro w'
  go_simp
  with_reducible rfl
 rotate_left
 ·simp only [Act.put, zsa, zsz, zss, i64_w, i32_w]
  rfl
 refine pure_ (i := 9) (N := some 24) (v := ?_) (a' := ?_) #[true, false, false, true, false, false, true, false, false, true, false, false, false, false, false, false, false, false] rfl rfl (any_of HT_.out (by kernel_rfl)) (fun _ _ _ h => h) (Or.inl ⟨by rfl, ?_⟩) ?_ ?_
 rotate_left
 ·intro w'
  go_simp
  with_reducible rfl
 rotate_left
 ·simp only [Act.put, zsa, zsz, zss, i64_w, i32_w]
  rfl
 refine pure_ (i := 13) (N := some 28) (v := ?_) (a' := ?_) #[true, false, false, true, false, false, true, false, false, true, false, false, false, true, false, false, false, false] rfl rfl (any_of HT_.out (by kernel_rfl)) (fun _ _ _ h => h) (Or.inl ⟨by rfl, ?_⟩) ?_ ?_
 rotate_left
 ·intro w'
  go_simp
  with_reducible rfl
 rotate_left
 ·simp only [Act.put, zsa, zsz, zss, i64_w, i32_w]
  rfl
 refine take_ (i := 1) (N := some 16) (v := ?_) (a' := ?_) #[true, true, false, true, false, false, true, false, false, true, false, false, false, true, false, false, false, false] rfl rfl (take_ofW HT_.out HW_.out (by kernel_rfl)) (fun _ _ _ h => h) (Or.inl ⟨by rfl, ?_⟩) hHeld ?_ ?_
 rotate_left
 ·rintro w' ⟨s0, s1, s2, s3⟩
  go_simp
  with_reducible rfl
 rotate_left
 ·simp only [Act.put, zsa, zsz, zss, i64_w, i32_w]
  rfl
 refine pure_ (i := 2) (N := some 17) (v := ?_) (a' := ?_) #[true, true, true, true, false, false, true, false, false, true, false, false, false, true, false, false, false, false] rfl rfl (any_of HT_.out (by kernel_rfl)) (fun _ _ _ h => h) (Or.inl ⟨by rfl, ?_⟩) ?_ ?_
 rotate_left
 ·intro w'
  go_simp
  with_reducible rfl
 rotate_left
 ·simp only [Act.put, zsa, zsz, zss, i64_w, i32_w]
  rfl
 refine take_ (i := 4) (N := some 19) (v := ?_) (a' := ?_) #[true, true, true, true, true, false, true, false, false, true, false, false, false, true, false, false, false, false] rfl rfl (take_ofW HT_.out HW_.out (by kernel_rfl)) (fun _ _ _ h => h) (Or.inl ⟨by rfl, ?_⟩) hHeld ?_ ?_
 rotate_left
 ·rintro w' ⟨s0, s1, s2, s3⟩
  go_simp
  with_reducible rfl
 rotate_left
 ·simp only [Act.put, zsa, zsz, zss, i64_w, i32_w]
  rfl
 refine pure_ (i := 5) (N := some 20) (v := ?_) (a' := ?_) #[true, true, true, true, true, true, true, false, false, true, false, false, false, true, false, false, false, false] rfl rfl (any_of HT_.out (by kernel_rfl)) (fun _ _ _ h => h) (Or.inl ⟨by rfl, ?_⟩) ?_ ?_
 rotate_left
 ·intro w'
  go_simp
  with_reducible rfl
 rotate_left
 ·simp only [Act.put, zsa, zsz, zss, i64_w, i32_w]
  rfl
 refine take_ (i := 7) (N := some 22) (v := ?_) (a' := ?_) #[true, true, true, true, true, true, true, true, false, true, false, false, false, true, false, false, false, false] rfl rfl (take_ofW HT_.out HW_.out (by kernel_rfl)) (fun _ _ _ h => h) (Or.inl ⟨by rfl, ?_⟩) hHeld ?_ ?_
 rotate_left
 ·rintro w' ⟨s0, s1, s2, s3⟩
  go_simp
  with_reducible rfl
 rotate_left
 ·simp only [Act.put, zsa, zsz, zss, i64_w, i32_w]
  rfl
 refine pure_ (i := 8) (N := some 23) (v := ?_) (a' := ?_) #[true, true, true, true, true, true, true, true, true, true, false, false, false, true, false, false, false, false] rfl rfl (any_of HT_.out (by kernel_rfl)) (fun _ _ _ h => h) (Or.inl ⟨by rfl, ?_⟩) ?_ ?_
 rotate_left
 ·intro w'
  go_simp
  with_reducible rfl
 rotate_left
 ·simp only [Act.put, zsa, zsz, zss, i64_w, i32_w]
  rfl
 refine take_ (i := 10) (N := some 25) (v := ?_) (a' := ?_) #[true, true, true, true, true, true, true, true, true, true, true, false, false, true, false, false, false, false] rfl rfl (take_ofW HT_.out HW_.out (by kernel_rfl)) (fun _ _ _ h => h) (Or.inl ⟨by rfl, ?_⟩) hHeld ?_ ?_
 rotate_left
 ·rintro w' ⟨s0, s1, s2, s3⟩
  go_simp
  with_reducible rfl
 rotate_left
 ·simp only [Act.put, zsa, zsz, zss, i64_w, i32_w]
  rfl
 refine pure_ (i := 11) (N := some 26) (v := ?_) (a' := ?_) #[true, true, true, true, true, true, true, true, true, true, true, true, false, true, false, false, false, false] rfl rfl (any_of HT_.out (by kernel_rfl)) (fun _ _ _ h => h) (Or.inl ⟨by rfl, ?_⟩) ?_ ?_
 rotate_left
 ·intro w'
  go_simp
  with_reducible rfl
 rotate_left
 ·simp only [Act.put, zsa, zsz, zss, i64_w, i32_w]
  rfl
 refine pure_ (i := 12) (N := some 27) (v := ?_) (a' := ?_) #[true, true, true, true, true, true, true, true, true, true, true, true, true, true, false, false, false, false] rfl rfl (any_of HT_.out (by kernel_rfl)) (fun _ _ _ h => h) (Or.inl ⟨by rfl, ?_⟩) ?_ ?_
 rotate_left
 ·intro w'
  go_simp
  with_reducible rfl
 rotate_left
 ·simp only [Act.put, zsa, zsz, zss, i64_w, i32_w]
  rfl
 refine take_ (i := 14) (N := some 29) (v := ?_) (a' := ?_) #[true, true, true, true, true, true, true, true, true, true, true, true, true, true, true, false, false, false] rfl rfl (take_ofW HT_.out HW_.out (by kernel_rfl)) (fun _ _ _ h => h) (Or.inl ⟨by rfl, ?_⟩) hHeld ?_ ?_
 rotate_left
 ·rintro w' ⟨s0, s1, s2, s3⟩
  go_simp
  with_reducible rfl
 rotate_left
 ·simp only [Act.put, zsa, zsz, zss, i64_w, i32_w]
  rfl
 refine pure_ (i := 15) (N := some 30) (v := ?_) (a' := ?_) #[true, true, true, true, true, true, true, true, true, true, true, true, true, true, true, true, false, false] rfl rfl (any_of HT_.out (by kernel_rfl)) (fun _ _ _ h => h) (Or.inl ⟨by rfl, ?_⟩) ?_ ?_
 rotate_left
 ·intro w'
  go_simp
  with_reducible rfl
 rotate_left
 ·simp only [Act.put, zsa, zsz, zss, i64_w, i32_w]
  rfl
 refine pure_ (i := 16) (N := some 31) (v := ?_) (a' := ?_) #[true, true, true, true, true, true, true, true, true, true, true, true, true, true, true, true, true, false] rfl rfl (any_of HT_.out (by kernel_rfl)) (fun _ _ _ h => h) (Or.inl ⟨by rfl, ?_⟩) ?_ ?_
 rotate_left
 ·intro w'
  go_simp
  with_reducible rfl
 rotate_left
 ·simp only [Act.put, zsa, zsz, zss, i64_w, i32_w]
  rfl
 refine one_ (i := 17) (N := none) #[true, true, true, true, true, true, true, true, true, true, true, true, true, true, true, true, true, true] rfl rfl (one_of HT_.out (by kernel_rfl)) (by decide) (fun K hK => ?_)
 have hs27 : w26.cell? ⟨gb104, 0, none⟩ = some (.int .i64 0) := (zkc BK104.out 0).trans rfl
 have hfs27 := zkz BK104.out 0
 have hns27_0 := NB101_104.out
 have hns27_1 := NB102_104.out
 have hns27_2 := NB103_104.out
 have hns27_4 := NB108_104.out
 have hms27_0 := NB104_101.out
 have hms27_1 := NB104_102.out
 have hms27_2 := NB104_103.out
 have hms27_4 := NB104_108.out
 have hs28 : w26.cell? ⟨gb104, 1, none⟩ = some (.int .i64 0) := (zkc BK104.out 1).trans rfl
 have hfs28 := zkz BK104.out 1
 have hns28_0 := NB101_104.out
 have hns28_1 := NB102_104.out
 have hns28_2 := NB103_104.out
 have hns28_4 := NB108_104.out
 have hms28_0 := NB104_101.out
 have hms28_1 := NB104_102.out
 have hms28_2 := NB104_103.out
 have hms28_4 := NB104_108.out
 refine skip_ (w1 := ?_) (by rfl) rfl ?_ ?_
 rotate_left
 ·go_simp
  rfl
 refine hK.out _ _ ⟨((cell_far (p := ⟨gb104, _, none⟩) NB108_104.out _).trans (((cell_far (p := ⟨gb104, _, none⟩) NB108_104.out _).trans (hHeld.1)))), ((cell_far (p := ⟨gb104, _, none⟩) NB108_104.out _).trans (((cell_far (p := ⟨gb104, _, none⟩) NB108_104.out _).trans (hHeld.2.1)))), ((cell_far (p := ⟨gb104, _, none⟩) NB101_104.out _).trans (((cell_far (p := ⟨gb104, _, none⟩) NB101_104.out _).trans (hHeld.2.2.1)))), ((cell_far (p := ⟨gb104, _, none⟩) NB101_104.out _).trans (((cell_far (p := ⟨gb104, _, none⟩) NB101_104.out _).trans (hHeld.2.2.2))))⟩ (fun hHeld => ?_)
 clear hK K
 refine done_ (done_of HT_.out (by kernel_rfl)) ?_
 try go_wp2
 refine bodyPost_ret (results_cell_row rfl _ _ gb104 24 #[.int .i64 (wrap64 (Int.tdiv (wrap64 (1000 * t105)) a0_1)), .int .i64 (wrap64 (Int.tdiv (wrap64 ((wrap64 ((wrap64 (1000 * t106)) + a0_0)) - 1)) a0_0))] (0, 0) _ rfl (by (with_reducible repeat (first | refine zkn ?_ _ | refine zkd ?_ | refine zka ?_ _)); refine blk_put (cs := #[.int .i64 (wrap64 (Int.tdiv (wrap64 (1000 * t105)) a0_1)), .int .i64 0]) ?_ 1 _ rfl; (with_reducible repeat (first | refine zkn ?_ _ | refine zkd ?_ | refine zka ?_ _)); refine blk_put (cs := #[.int .i64 0, .int .i64 0]) ?_ 0 _ rfl; (with_reducible repeat (first | refine zkn ?_ _ | refine zkd ?_ | refine zka ?_ _)); exact BK104.out) Try.underlying24 rfl (by kernel_rfl)) rfl ?_
 exact ⟨by first | rfl | (simp [errW_none, errW_some] <;> rfl) | (simp [*, errW_none, errW_some] <;> rfl), by repeat (first | (with_reducible first | exact HB.out | apply zba | apply zbn | apply zb1 | refine zbs ?_ GE101.out | refine zbs ?_ GE102.out | refine zbs ?_ GE103.out | refine zbs ?_ GE104.out | refine zbs ?_ GE108.out) | exact HB.out)⟩
end Go.Proofs.Ytaheamdoldiojaa.P
