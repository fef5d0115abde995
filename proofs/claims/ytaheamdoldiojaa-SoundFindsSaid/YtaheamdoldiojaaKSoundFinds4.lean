/- THE STAGE'S THEOREM: wherever the source is in the area, whenever it was, whatever the speed, and wherever the stations are in their boxes, if each arrival lies in its span, the region has a box that contains the source, for each depth, and the origin lies in the origin of this box. Part 5 of 6. -/
-- Put together by wip/tools/shake.py, a program of this work: out of the words that the kit's print tool (print.sh) writes for a claim and what wip/tools/xprint.py prints, those that this claim reaches, and this work's own texts.
import Derived.Laws.EntriesVeiled
import Derived.Outline
import Derived.RegionTactic
import Derived.BigRegion
import Derived.Test.YtaheamdoldiojaaKSoundFinds3
namespace Go.Proofs.Ytaheamdoldiojaa.P
open Go.RowKit Go.Proofs.YtaheamdoldiojaaW.PrintWords Go.Proofs.YtaheamdoldiojaaW.PrintLast Go.Proofs.YtaheamdoldiojaaW.PrintMore
attribute [local go_sem] max2_int min2_int max_two min_two max_three min_three max_four min_four   -- for this text's walks alone
set_option linter.unusedVariables false
set_option linter.unusedSimpArgs false
def Sd.idx {α : Type} (q : α → Bool) (l : List α) : Int := if l.any q = true then (l.findIdx q : Int) else -1
theorem Sd.idx_at {α : Type} {q : α → Bool} {l : List α} {i : Nat} (hi : i < l.length) (h : q l[i] = true) (hb : ∀ s ∈ l.take i, q s = false) : Sd.idx q l = (i : Int) := by
 unfold Sd.idx
 rw [if_pos (List.any_eq_true.2 ⟨_, List.getElem_mem hi, h⟩)]
 congr 1
 refine (List.findIdx_eq hi).2 ⟨h, fun j hj => ?_⟩
 refine hb _ ?_
 rw [List.mem_take_iff_getElem]
 exact ⟨j, by omega, rfl⟩
theorem Sd.idx_none {α : Type} {q : α → Bool} {l : List α} (hb : ∀ s ∈ l, q s = false) : Sd.idx q l = -1 := by
 unfold Sd.idx
 rw [if_neg]
 rw [List.any_eq_true]
 rintro ⟨s, hs, h⟩
 rw [hb s hs] at h
 cases h
def Sd.diff (xs : List S45) (s : S45) : Bool := (s.f0.length : Int) != ((rd_T45 xs 0).f0.length : Int)
set_option maxRecDepth 100000 in
set_option maxHeartbeats 4000000 in
theorem sound_checkGauges_2.calls (p : Nat) (A : Option Addr) (c : Nat) (xs : List S45) (A1 : Option Addr) (c1 : Nat) (s : S45) (w : World) (hxs : 0 < xs.length) (kp : w.heap[p]? = some (.cells #[.slice A xs.length c] 37 (0, 0))) (kc : Kd.C k45 w A xs.length xs) :
  Calls Try.prog 104 #[.agg #[.slice A1 s.f0.length c1], .pointer (some ⟨p, 0, none⟩)] w fun e w' => e = .returned (.bool (Sd.diff xs s)) ∧ Below w.heap.size w w' := by
 have hu45 := Try.underlying45
 obtain ⟨ad, A2, c2, ead, hx, -, -⟩ := at_T45 kc 0 (by decide) (by omega)
 subst ead
 rw [show ((0 : Int)).toNat = 0 from rfl, Addr.add_zero'] at hx
 have hp : w.cell? ⟨p, 0, none⟩ = some (.slice (some ad) xs.length c) := (zkc kp 0).trans rfl
 have g0 : ((0 : Int) < (xs.length : Int)) = True := eq_true (by omega)
 have g1 : (0 < xs.length) = True := eq_true hxs
 unfold Sd.diff
 obtain ⟨m, hm⟩ : ∃ m, (rd_T45 xs 0).f0.length = m := ⟨_, rfl⟩
 obtain ⟨n, hn⟩ : ∃ n, s.f0.length = n := ⟨_, rfl⟩
 rw [hm] at hx ⊢
 rw [hn]
 have HX := zam hx
 have HP := zam hp
 clear hm hn hx hp kc kp hxs
 by_cases q : n = m
 ·subst q
  go_enter Try.func104, Try.ntmps104
  go_wp2_with ((with_reducible refine zgd (N := 2) rfl ?_); refine box_event ?hg (N := 2) ?hd (cs := #[.slice A1 n c1]) (t := 45) ?hr ?_; (case hd => rfl); (case hg => rfl); (case hr => first | (go_simp; done) | (go_simp; rfl)); intro gg hgg w2 hbk hb0; have HB := zam hb0; have hz := (zkc hbk 0).trans rfl; have hx2 := (hb0.cell (zwb w _ HX.out)).trans HX.out; have hp2 := (hb0.cell (zwb w _ HP.out)).trans HP.out; clear hgg hbk hb0)
  go_region
  go_wp2
  go_ret
  exact ⟨by simp, zb1 HB.out⟩
 have q1 : (n == m) = false := beq_eq_false_iff_ne.mpr q
 have q2 : (n != m) = true := bne_iff_ne.mpr q
 have q3 : ((n : Int) == (m : Int)) = false := beq_eq_false_iff_ne.mpr (by omega)
 have q4 : ((n : Int) != (m : Int)) = true := bne_iff_ne.mpr (by omega)
 clear q
 go_enter Try.func104, Try.ntmps104
 go_wp2_with ((with_reducible refine zgd (N := 2) rfl ?_); refine box_event ?hg (N := 2) ?hd (cs := #[.slice A1 n c1]) (t := 45) ?hr ?_; (case hd => rfl); (case hg => rfl); (case hr => first | (go_simp; done) | (go_simp; rfl)); intro gg hgg w2 hbk hb0; have HB := zam hb0; have hz := (zkc hbk 0).trans rfl; have hx2 := (hb0.cell (zwb w _ HX.out)).trans HX.out; have hp2 := (hb0.cell (zwb w _ HP.out)).trans HP.out; clear hgg hbk hb0)
 go_region
 go_wp2
 go_ret
 exact ⟨by rw [q4]; rfl, zb1 HB.out⟩
set_option maxRecDepth 100000 in
set_option maxHeartbeats 4000000 in
theorem index_gauge (p : Nat) (A : Option Addr) (c : Nat) (xs : List S45) (w : World) (hxl : xs.length ≤ 1000000) (hxs : 0 < xs.length) (kp : w.heap[p]? = some (.cells #[.slice A xs.length c] 37 (0, 0))) (kc : Kd.C k45 w A xs.length xs) :
  Calls Try.prog 128 #[.slice A xs.length c, .func (.func 104) #[] #[.pointer (some ⟨p, 0, none⟩)]] w fun e w' => e = .returned (.int .i64 (Sd.idx (Sd.diff xs) xs)) ∧ Below w.heap.size w w' := by
 have hu45 := Try.underlying45
 have KC := zam kc
 have KX := zam kp
 have HL := zam hxl
 have HP := zam hxs
 clear kc kp hxl hxs
 go_enter Try.func128, Try.ntmps128
 go_wp2
 go_loopw [8] (fun v wr => ∃ i : Nat, i ≤ xs.length ∧ v = .int .i64 (i : Int) ∧ Aside0 (∀ s ∈ xs.take i, Sd.diff xs s = false) ∧ Aside0 (Below w.heap.size w wr)) (fun v _ => xs.length - (intOf v).toNat)
 case atStart => exact ⟨0, Nat.zero_le _, rfl, ⟨by simp⟩, ⟨Below.refl _ _⟩⟩
 case round =>
  obtain ⟨i, hi, rfl, HN, HB⟩ := hrel
  by_cases hlt : i < xs.length
  ·have d1 : decide ((i : Int) < (xs.length : Int)) = true := zdt (by omega)
   have d2 : decide (i < xs.length) = true := zdt hlt
   obtain ⟨ad, A2, c2, ead, hx0, hl2, hk2⟩ := at_T45 (Kd.C_below KC.out HB.out) (i : Int) (Int.natCast_nonneg _) (by omega)
   subst ead
   have e1 : rd_T45 xs (i : Int) = xs[i] := by
    unfold rd_T45
    rw [Int.toNat_natCast]
    simp [List.getD, hlt]
   rw [e1, Int.toNat_natCast] at hx0
   have g0 : ((0 : Int) ≤ (i : Int)) = True := eq_true (by omega)
   have g1 : ((i : Int) < (xs.length : Int)) = True := eq_true (by omega)
   have wi : IntKind.i64.wrap ((i : Int) + 1) = ((i + 1 : Nat) : Int) := by
    have := HL.out
    rw [i64_w, wrap_id (by omega) (by omega)]
    omega
   have LT := zam hlt
   have KX2 := zam (zkb KX.out HB.out)
   have KC2 := zam (Kd.C_below KC.out HB.out)
   obtain ⟨s, hs⟩ : ∃ s, xs[i] = s := ⟨_, rfl⟩
   rw [hs] at hx0
   have HS : Aside0 (xs[i]'LT.out = s) := ⟨hs⟩
   clear hs e1 hlt hl2 hk2
   by_cases q : Sd.diff xs s = true
   ·have HR := zam (Sd.idx_at LT.out (by rw [HS.out]; exact q) HN.out)
    go_wp2_with (go_at_call 104; (refine (sound_checkGauges_2.calls p (some ad) c xs _ _ s _ HP.out KX2.out KC2.out).mono ?_); rintro e w2 ⟨rfl, hb⟩; have n0 := zam (zbt HB.out hb); clear HB hb; have HB := n0; clear n0)
    go_ret
    exact ⟨by rw [HR.out]; rfl, HB.out⟩
   have q := Bool.eq_false_iff.2 q
   have HN2 : Aside0 (∀ s ∈ xs.take (i + 1), Sd.diff xs s = false) := ⟨by
    rw [take_snoc LT.out]
    intro t ht
    rcases List.mem_append.1 ht with ht | ht
    ·exact HN.out t ht
    rw [List.mem_singleton.1 ht, HS.out]
    exact q⟩
   go_wp2_with (go_at_call 104; (refine (sound_checkGauges_2.calls p (some ad) c xs _ _ s _ HP.out KX2.out KC2.out).mono ?_); rintro e w2 ⟨rfl, hb⟩; have n0 := zam (zbt HB.out hb); clear HB hb; have HB := n0; clear n0)
   go_roundw
   case rel => exact ⟨i + 1, LT.out, rfl, HN2, HB⟩
   case measure => (have := LT.out; simp only [intOf]; omega)
  have d1 : decide ((i : Int) < (xs.length : Int)) = false := zdf (by omega)
  have d2 : decide (i < xs.length) = false := zdf hlt
  have HR : Aside0 (Sd.idx (Sd.diff xs) xs = -1) := ⟨Sd.idx_none (by have := HN.out; rwa [List.take_of_length_le (by omega)] at this)⟩
  clear hlt
  go_wp2
  go_ret
  exact ⟨by rw [HR.out]; rfl, HB.out⟩
set_option maxRecDepth 100000 in
set_option maxHeartbeats 4000000 in
theorem contains_gauge (p : Nat) (A : Option Addr) (c : Nat) (xs : List S45) (w : World) (hxl : xs.length ≤ 1000000) (hxs : 0 < xs.length) (kp : w.heap[p]? = some (.cells #[.slice A xs.length c] 37 (0, 0))) (kc : Kd.C k45 w A xs.length xs) :
  Calls Try.prog 102 #[.slice A xs.length c, .func (.func 104) #[] #[.pointer (some ⟨p, 0, none⟩)]] w fun e w' => e = .returned (.bool (xs.any (Sd.diff xs))) ∧ Below w.heap.size w w' := by
 have KC := zam kc
 have KX := zam kp
 have HL := zam hxl
 have HP := zam hxs
 clear kc kp hxl hxs
 have hI : decide (0 ≤ Sd.idx (Sd.diff xs) xs) = xs.any (Sd.diff xs) := by
  unfold Sd.idx
  by_cases q : xs.any (Sd.diff xs) = true
  ·rw [if_pos q, q]
   exact zdt (by omega)
  rw [if_neg q, Bool.eq_false_iff.2 q]
  rfl
 have HI := zam hI
 clear hI
 go_enter Try.func102, Try.ntmps102
 go_wp2_with (go_at_call 128; (refine (index_gauge p A c xs _ HL.out HP.out KX.out KC.out).mono ?_); rintro e w2 ⟨rfl, hb⟩; have HB := zam hb; clear hb)
 go_ret
 exact ⟨by rw [HI.out]; rfl, HB.out⟩
def sound_checkGauges.f (k : Nat) (l0 : List (S45)) (a1_0 : Int) (a1_1 : Int) (a1_2 : Int) : Option Int :=
 if l0.length = 0 then some 6 else if 16 < l0.length then some 6 else
 (slices_ContainsFunc_Gauge_sound_checkGauges_1.f k l0).bind fun a => if a = true then some 6 else if l0.any (Sd.diff l0) = true then some 17 else
 (slices_ContainsFunc_Gauge_sound_checkGauges_3.f k l0).bind fun b => if b = true then some 2 else
 (sound_between.f a1_0 1 1073741824).bind fun z => if z = true then (if a1_1 < 1 then some 2 else if 256 < a1_1 then some 2 else if a1_2 < 1 then some 2 else if 16 < a1_2 then some 2 else some 0) else some 2
theorem sound_checkGauges.mono : ∀ a0 a1 a2 a3 k, LeO (sound_checkGauges.f k a0 a1 a2 a3) (sound_checkGauges.f (k + 1) a0 a1 a2 a3) := by
 intro a0 a1 a2 a3 k
 unfold sound_checkGauges.f
 refine LeO.ite (LeO.refl _) (LeO.ite (LeO.refl _) (LeO.bind (slices_ContainsFunc_Gauge_sound_checkGauges_1.mono _ _) (fun a => LeO.ite (LeO.refl _) (LeO.ite (LeO.refl _) (LeO.bind (slices_ContainsFunc_Gauge_sound_checkGauges_3.mono _ _) (fun b => LeO.ite (LeO.refl _) (LeO.refl _)))))))
set_option maxHeartbeats 16000000 in
set_option maxRecDepth 100000 in
theorem sound_checkGauges.calls (k : Nat) (A0 : Option Addr) (c0 : Nat) (l0 : List (S45)) (a1_0 : Int) (a1_1 : Int) (a1_2 : Int) (r : Int) (w : World) (hr0 : Kd.C k45 w A0 l0.length l0) (hc0 : l0.length ≤ c0) (h : sound_checkGauges.f k l0 a1_0 a1_1 a1_2 = some r) :
  Calls Try.prog 61 #[.slice A0 l0.length c0, .agg #[.int .i64 a1_0, .int .i64 a1_1, .int .i64 a1_2]] w fun e w' => e = .returned (.int .i64 r) ∧ Below w.heap.size w w' := by
 have hu39 := Try.underlying39
 have hu45 := Try.underlying45
 have C1 := zam (fun (x : Bool) (w1 : World) (hb1 : Below w.heap.size w w1) (hs : slices_ContainsFunc_Gauge_sound_checkGauges_1.f k l0 = some x) => slices_ContainsFunc_Gauge_sound_checkGauges_1.calls k A0 c0 l0 x w1 (Kd.C_below hr0 hb1) hc0 hs)
 have C3 := zam (fun (x : Bool) (w1 : World) (hb1 : Below w.heap.size w w1) (hs : slices_ContainsFunc_Gauge_sound_checkGauges_3.f k l0 = some x) => slices_ContainsFunc_Gauge_sound_checkGauges_3.calls k A0 c0 l0 x w1 (Kd.C_below hr0 hb1) hc0 hs)
 have HR := zam hr0
 clear hr0
 unfold sound_checkGauges.f at h
 by_cases x0 : l0.length = 0
 ·rw [if_pos x0, Option.some.injEq] at h
  subst h
  have x0b : decide ((l0.length : Int) < 1) = true := zdt (by omega)
  have x0c : decide (1 > (l0.length : Int)) = true := zdt (by omega)
  have x0nb : decide (l0.length < 1) = true := zdt (by omega)
  have x0nc : decide (1 > l0.length) = true := zdt (by omega)
  have x0z : decide (l0.length = 0) = true := zdt x0
  clear x0
  go_enter Try.func61, Try.ntmps61
  go_wp2_with (first | ((with_reducible refine zgd (N := 2) rfl ?_); refine box_event ?hg (N := 2) ?hd (cs := #[.slice A0 l0.length c0]) (t := 37) ?hr ?_; (case hd => rfl); (case hg => rfl); (case hr => first | (go_simp; done) | (go_simp; rfl)); intro gl hgn_ wqgl hbk hb0; have HB := zam hb0; have Ggl : Aside0 (w.heap.size ≤ gl) := ⟨by rw [hgn_]; exact Nat.le_refl _⟩; have Bgl := zam hbk; clear hgn_ hbk hb0) | ((with_reducible refine zgd (N := 3) rfl ?_); refine box_event ?hg (N := 3) ?hd (cs := #[.int .i64 a1_0, .int .i64 a1_1, .int .i64 a1_2]) (t := 39) ?hr ?_; (case hd => rfl); (case hg => rfl); (case hr => first | (go_simp; done) | (go_simp; rfl)); intro gu hgn_ wqgu hbk hb0; have m0_ := zam (zkb Bgl.out hb0); have Ggu : Aside0 (w.heap.size ≤ gu) := ⟨by rw [hgn_]; exact HB.out.size⟩; have mb_ := zam (zbt HB.out hb0); clear HB; have HB := mb_; clear mb_; have Bgu := zam hbk; clear hgn_ hbk hb0 Bgl; have Bgl := m0_; clear m0_; have hz0 := (zkc Bgl.out 0).trans rfl; have hy0 := (zkc Bgu.out 0).trans rfl; have hy1 := (zkc Bgu.out 1).trans rfl; have hy2 := (zkc Bgu.out 2).trans rfl))
  go_ret
  exact ⟨rfl, HB.out⟩
 rw [if_neg x0] at h
 have x0b : decide ((l0.length : Int) < 1) = false := zdf (by omega)
 have x0c : decide (1 > (l0.length : Int)) = false := zdf (by omega)
 have x0nb : decide (l0.length < 1) = false := zdf (by omega)
 have x0nc : decide (1 > l0.length) = false := zdf (by omega)
 have x0z : decide (l0.length = 0) = false := zdf x0
 have HP : Aside0 (0 < l0.length) := ⟨by omega⟩
 by_cases x1 : 16 < l0.length
 ·rw [if_pos x1, Option.some.injEq] at h
  subst h
  have x1b : decide (16 < (l0.length : Int)) = true := zdt (by omega)
  have x1c : decide ((l0.length : Int) > 16) = true := zdt (by omega)
  have x1nb : decide (16 < l0.length) = true := zdt (by omega)
  have x1nc : decide (l0.length > 16) = true := zdt (by omega)
  clear x1
  go_enter Try.func61, Try.ntmps61
  go_wp2_with (first | ((with_reducible refine zgd (N := 2) rfl ?_); refine box_event ?hg (N := 2) ?hd (cs := #[.slice A0 l0.length c0]) (t := 37) ?hr ?_; (case hd => rfl); (case hg => rfl); (case hr => first | (go_simp; done) | (go_simp; rfl)); intro gl hgn_ wqgl hbk hb0; have HB := zam hb0; have Ggl : Aside0 (w.heap.size ≤ gl) := ⟨by rw [hgn_]; exact Nat.le_refl _⟩; have Bgl := zam hbk; clear hgn_ hbk hb0) | ((with_reducible refine zgd (N := 3) rfl ?_); refine box_event ?hg (N := 3) ?hd (cs := #[.int .i64 a1_0, .int .i64 a1_1, .int .i64 a1_2]) (t := 39) ?hr ?_; (case hd => rfl); (case hg => rfl); (case hr => first | (go_simp; done) | (go_simp; rfl)); intro gu hgn_ wqgu hbk hb0; have m0_ := zam (zkb Bgl.out hb0); have Ggu : Aside0 (w.heap.size ≤ gu) := ⟨by rw [hgn_]; exact HB.out.size⟩; have mb_ := zam (zbt HB.out hb0); clear HB; have HB := mb_; clear mb_; have Bgu := zam hbk; clear hgn_ hbk hb0 Bgl; have Bgl := m0_; clear m0_; have hz0 := (zkc Bgl.out 0).trans rfl; have hy0 := (zkc Bgu.out 0).trans rfl; have hy1 := (zkc Bgu.out 1).trans rfl; have hy2 := (zkc Bgu.out 2).trans rfl))
  go_ret
  exact ⟨rfl, HB.out⟩
 rw [if_neg x1] at h
 have x1b : decide (16 < (l0.length : Int)) = false := zdf (by omega)
 have x1c : decide ((l0.length : Int) > 16) = false := zdf (by omega)
 have x1nb : decide (16 < l0.length) = false := zdf (by omega)
 have x1nc : decide (l0.length > 16) = false := zdf (by omega)
 have HL : Aside0 (l0.length ≤ 1000000) := ⟨by omega⟩
 clear x0 x1
 obtain ⟨a, ha, h⟩ := Option.bind_eq_some_iff.mp h
 have CA := zam ha
 clear ha
 cases a
 case true =>
  simp only [if_true, Option.some.injEq] at h
  subst h
  go_enter Try.func61, Try.ntmps61
  go_wp2_with (first | ((with_reducible refine zgd (N := 2) rfl ?_); refine box_event ?hg (N := 2) ?hd (cs := #[.slice A0 l0.length c0]) (t := 37) ?hr ?_; (case hd => rfl); (case hg => rfl); (case hr => first | (go_simp; done) | (go_simp; rfl)); intro gl hgn_ wqgl hbk hb0; have HB := zam hb0; have Ggl : Aside0 (w.heap.size ≤ gl) := ⟨by rw [hgn_]; exact Nat.le_refl _⟩; have Bgl := zam hbk; clear hgn_ hbk hb0) | ((with_reducible refine zgd (N := 3) rfl ?_); refine box_event ?hg (N := 3) ?hd (cs := #[.int .i64 a1_0, .int .i64 a1_1, .int .i64 a1_2]) (t := 39) ?hr ?_; (case hd => rfl); (case hg => rfl); (case hr => first | (go_simp; done) | (go_simp; rfl)); intro gu hgn_ wqgu hbk hb0; have m0_ := zam (zkb Bgl.out hb0); have Ggu : Aside0 (w.heap.size ≤ gu) := ⟨by rw [hgn_]; exact HB.out.size⟩; have mb_ := zam (zbt HB.out hb0); clear HB; have HB := mb_; clear mb_; have Bgu := zam hbk; clear hgn_ hbk hb0 Bgl; have Bgl := m0_; clear m0_; have hz0 := (zkc Bgl.out 0).trans rfl; have hy0 := (zkc Bgu.out 0).trans rfl; have hy1 := (zkc Bgu.out 1).trans rfl; have hy2 := (zkc Bgu.out 2).trans rfl) | (go_at_call 102; (first | (with_reducible refine (C1.out true _ HB.out CA.out).mono ?_)); rintro e w3 ⟨rfl, hb1⟩; have m0_ := zam (zkb Bgl.out hb1); have m1_ := zam (zkb Bgu.out hb1); have mb_ := zam (zbt HB.out hb1); clear Bgl Bgu HB hb1 hz0 hy0 hy1 hy2; have Bgl := m0_; have Bgu := m1_; have HB := mb_; clear m0_ m1_ mb_; have hz0 := (zkc Bgl.out 0).trans rfl; have hy0 := (zkc Bgu.out 0).trans rfl; have hy1 := (zkc Bgu.out 1).trans rfl; have hy2 := (zkc Bgu.out 2).trans rfl; skip))
  go_ret
  exact ⟨rfl, HB.out⟩
 case false =>
  simp only [Bool.false_eq_true, if_false] at h
  by_cases x2 : l0.any (Sd.diff l0) = true
  ·rw [if_pos x2, Option.some.injEq] at h
   subst h
   have HD := zam x2
   clear x2
   go_enter Try.func61, Try.ntmps61
   go_wp2_with (first | ((with_reducible refine zgd (N := 2) rfl ?_); refine box_event ?hg (N := 2) ?hd (cs := #[.slice A0 l0.length c0]) (t := 37) ?hr ?_; (case hd => rfl); (case hg => rfl); (case hr => first | (go_simp; done) | (go_simp; rfl)); intro gl hgn_ wqgl hbk hb0; have HB := zam hb0; have Ggl : Aside0 (w.heap.size ≤ gl) := ⟨by rw [hgn_]; exact Nat.le_refl _⟩; have Bgl := zam hbk; clear hgn_ hbk hb0) | ((with_reducible refine zgd (N := 3) rfl ?_); refine box_event ?hg (N := 3) ?hd (cs := #[.int .i64 a1_0, .int .i64 a1_1, .int .i64 a1_2]) (t := 39) ?hr ?_; (case hd => rfl); (case hg => rfl); (case hr => first | (go_simp; done) | (go_simp; rfl)); intro gu hgn_ wqgu hbk hb0; have m0_ := zam (zkb Bgl.out hb0); have Ggu : Aside0 (w.heap.size ≤ gu) := ⟨by rw [hgn_]; exact HB.out.size⟩; have mb_ := zam (zbt HB.out hb0); clear HB; have HB := mb_; clear mb_; have Bgu := zam hbk; clear hgn_ hbk hb0 Bgl; have Bgl := m0_; clear m0_; have hz0 := (zkc Bgl.out 0).trans rfl; have hy0 := (zkc Bgu.out 0).trans rfl; have hy1 := (zkc Bgu.out 1).trans rfl; have hy2 := (zkc Bgu.out 2).trans rfl) | (go_at_call 102; (first | (with_reducible refine (C1.out false _ HB.out CA.out).mono ?_) | (with_reducible refine (contains_gauge gl A0 c0 l0 _ HL.out HP.out Bgl.out (Kd.C_below HR.out HB.out)).mono ?_)); rintro e w3 ⟨rfl, hb1⟩; have m0_ := zam (zkb Bgl.out hb1); have m1_ := zam (zkb Bgu.out hb1); have mb_ := zam (zbt HB.out hb1); clear Bgl Bgu HB hb1 hz0 hy0 hy1 hy2; have Bgl := m0_; have Bgu := m1_; have HB := mb_; clear m0_ m1_ mb_; have hz0 := (zkc Bgl.out 0).trans rfl; have hy0 := (zkc Bgu.out 0).trans rfl; have hy1 := (zkc Bgu.out 1).trans rfl; have hy2 := (zkc Bgu.out 2).trans rfl; skip; (try rw [HD.out])))
   go_ret
   exact ⟨rfl, HB.out⟩
  rw [if_neg x2] at h
  have HD := zam (Bool.eq_false_iff.2 x2)
  clear x2
  obtain ⟨b, hb, h⟩ := Option.bind_eq_some_iff.mp h
  have CB := zam hb
  clear hb
  cases b
  case true =>
   simp only [if_true, Option.some.injEq] at h
   subst h
   go_enter Try.func61, Try.ntmps61
   go_wp2_with (first | ((with_reducible refine zgd (N := 2) rfl ?_); refine box_event ?hg (N := 2) ?hd (cs := #[.slice A0 l0.length c0]) (t := 37) ?hr ?_; (case hd => rfl); (case hg => rfl); (case hr => first | (go_simp; done) | (go_simp; rfl)); intro gl hgn_ wqgl hbk hb0; have HB := zam hb0; have Ggl : Aside0 (w.heap.size ≤ gl) := ⟨by rw [hgn_]; exact Nat.le_refl _⟩; have Bgl := zam hbk; clear hgn_ hbk hb0) | ((with_reducible refine zgd (N := 3) rfl ?_); refine box_event ?hg (N := 3) ?hd (cs := #[.int .i64 a1_0, .int .i64 a1_1, .int .i64 a1_2]) (t := 39) ?hr ?_; (case hd => rfl); (case hg => rfl); (case hr => first | (go_simp; done) | (go_simp; rfl)); intro gu hgn_ wqgu hbk hb0; have m0_ := zam (zkb Bgl.out hb0); have Ggu : Aside0 (w.heap.size ≤ gu) := ⟨by rw [hgn_]; exact HB.out.size⟩; have mb_ := zam (zbt HB.out hb0); clear HB; have HB := mb_; clear mb_; have Bgu := zam hbk; clear hgn_ hbk hb0 Bgl; have Bgl := m0_; clear m0_; have hz0 := (zkc Bgl.out 0).trans rfl; have hy0 := (zkc Bgu.out 0).trans rfl; have hy1 := (zkc Bgu.out 1).trans rfl; have hy2 := (zkc Bgu.out 2).trans rfl) | (go_at_call 102; (first | (with_reducible refine (C1.out false _ HB.out CA.out).mono ?_) | (with_reducible refine (C3.out true _ HB.out CB.out).mono ?_) | (with_reducible refine (contains_gauge gl A0 c0 l0 _ HL.out HP.out Bgl.out (Kd.C_below HR.out HB.out)).mono ?_)); rintro e w3 ⟨rfl, hb1⟩; have m0_ := zam (zkb Bgl.out hb1); have m1_ := zam (zkb Bgu.out hb1); have mb_ := zam (zbt HB.out hb1); clear Bgl Bgu HB hb1 hz0 hy0 hy1 hy2; have Bgl := m0_; have Bgu := m1_; have HB := mb_; clear m0_ m1_ mb_; have hz0 := (zkc Bgl.out 0).trans rfl; have hy0 := (zkc Bgu.out 0).trans rfl; have hy1 := (zkc Bgu.out 1).trans rfl; have hy2 := (zkc Bgu.out 2).trans rfl; skip; (try rw [HD.out])))
   go_ret
   exact ⟨rfl, HB.out⟩
  case false =>
   simp only [Bool.false_eq_true, if_false] at h
   obtain ⟨z, hz, h⟩ := Option.bind_eq_some_iff.mp h
   have CZ := zam hz
   clear hz
   cases z
   case false =>
    simp only [Bool.false_eq_true, if_false, Option.some.injEq] at h
    subst h
    go_enter Try.func61, Try.ntmps61
    go_wp2_with (first | ((with_reducible refine zgd (N := 2) rfl ?_); refine box_event ?hg (N := 2) ?hd (cs := #[.slice A0 l0.length c0]) (t := 37) ?hr ?_; (case hd => rfl); (case hg => rfl); (case hr => first | (go_simp; done) | (go_simp; rfl)); intro gl hgn_ wqgl hbk hb0; have HB := zam hb0; have Ggl : Aside0 (w.heap.size ≤ gl) := ⟨by rw [hgn_]; exact Nat.le_refl _⟩; have Bgl := zam hbk; clear hgn_ hbk hb0) | ((with_reducible refine zgd (N := 3) rfl ?_); refine box_event ?hg (N := 3) ?hd (cs := #[.int .i64 a1_0, .int .i64 a1_1, .int .i64 a1_2]) (t := 39) ?hr ?_; (case hd => rfl); (case hg => rfl); (case hr => first | (go_simp; done) | (go_simp; rfl)); intro gu hgn_ wqgu hbk hb0; have m0_ := zam (zkb Bgl.out hb0); have Ggu : Aside0 (w.heap.size ≤ gu) := ⟨by rw [hgn_]; exact HB.out.size⟩; have mb_ := zam (zbt HB.out hb0); clear HB; have HB := mb_; clear mb_; have Bgu := zam hbk; clear hgn_ hbk hb0 Bgl; have Bgl := m0_; clear m0_; have hz0 := (zkc Bgl.out 0).trans rfl; have hy0 := (zkc Bgu.out 0).trans rfl; have hy1 := (zkc Bgu.out 1).trans rfl; have hy2 := (zkc Bgu.out 2).trans rfl) | (go_at_call 102; (first | (with_reducible refine (C1.out false _ HB.out CA.out).mono ?_) | (with_reducible refine (C3.out false _ HB.out CB.out).mono ?_) | (with_reducible refine (contains_gauge gl A0 c0 l0 _ HL.out HP.out Bgl.out (Kd.C_below HR.out HB.out)).mono ?_)); rintro e w3 ⟨rfl, hb1⟩; have m0_ := zam (zkb Bgl.out hb1); have m1_ := zam (zkb Bgu.out hb1); have mb_ := zam (zbt HB.out hb1); clear Bgl Bgu HB hb1 hz0 hy0 hy1 hy2; have Bgl := m0_; have Bgu := m1_; have HB := mb_; clear m0_ m1_ mb_; have hz0 := (zkc Bgl.out 0).trans rfl; have hy0 := (zkc Bgu.out 0).trans rfl; have hy1 := (zkc Bgu.out 1).trans rfl; have hy2 := (zkc Bgu.out 2).trans rfl; skip; (try rw [HD.out])) | (go_at_call 72; (with_reducible refine (sound_between.calls a1_0 1 1073741824 false _ CZ.out).mono ?_); rintro e w3 ⟨rfl, ⟨nz, rfl⟩⟩; have m0_ := zam (zkn Bgl.out nz); have m1_ := zam (zkn Bgu.out nz); have mb_ := zam (zbn HB.out nz); clear Bgl Bgu HB hz0 hy0 hy1 hy2; have Bgl := m0_; have Bgu := m1_; have HB := mb_; clear m0_ m1_ mb_; have hz0 := (zkc Bgl.out 0).trans rfl; have hy0 := (zkc Bgu.out 0).trans rfl; have hy1 := (zkc Bgu.out 1).trans rfl; have hy2 := (zkc Bgu.out 2).trans rfl; skip))
    go_ret
    exact ⟨rfl, HB.out⟩
   case true =>
    simp only [if_true] at h
    by_cases y0 : a1_1 < 1
    ·rw [if_pos y0, Option.some.injEq] at h
     subst h
     have y0b : decide (a1_1 < 1) = true := zdt (by omega)
     have y0c : decide (1 > a1_1) = true := zdt (by omega)
     clear y0
     go_enter Try.func61, Try.ntmps61
     go_wp2_with (first | ((with_reducible refine zgd (N := 2) rfl ?_); refine box_event ?hg (N := 2) ?hd (cs := #[.slice A0 l0.length c0]) (t := 37) ?hr ?_; (case hd => rfl); (case hg => rfl); (case hr => first | (go_simp; done) | (go_simp; rfl)); intro gl hgn_ wqgl hbk hb0; have HB := zam hb0; have Ggl : Aside0 (w.heap.size ≤ gl) := ⟨by rw [hgn_]; exact Nat.le_refl _⟩; have Bgl := zam hbk; clear hgn_ hbk hb0) | ((with_reducible refine zgd (N := 3) rfl ?_); refine box_event ?hg (N := 3) ?hd (cs := #[.int .i64 a1_0, .int .i64 a1_1, .int .i64 a1_2]) (t := 39) ?hr ?_; (case hd => rfl); (case hg => rfl); (case hr => first | (go_simp; done) | (go_simp; rfl)); intro gu hgn_ wqgu hbk hb0; have m0_ := zam (zkb Bgl.out hb0); have Ggu : Aside0 (w.heap.size ≤ gu) := ⟨by rw [hgn_]; exact HB.out.size⟩; have mb_ := zam (zbt HB.out hb0); clear HB; have HB := mb_; clear mb_; have Bgu := zam hbk; clear hgn_ hbk hb0 Bgl; have Bgl := m0_; clear m0_; have hz0 := (zkc Bgl.out 0).trans rfl; have hy0 := (zkc Bgu.out 0).trans rfl; have hy1 := (zkc Bgu.out 1).trans rfl; have hy2 := (zkc Bgu.out 2).trans rfl) | (go_at_call 102; (first | (with_reducible refine (C1.out false _ HB.out CA.out).mono ?_) | (with_reducible refine (C3.out false _ HB.out CB.out).mono ?_) | (with_reducible refine (contains_gauge gl A0 c0 l0 _ HL.out HP.out Bgl.out (Kd.C_below HR.out HB.out)).mono ?_)); rintro e w3 ⟨rfl, hb1⟩; have m0_ := zam (zkb Bgl.out hb1); have m1_ := zam (zkb Bgu.out hb1); have mb_ := zam (zbt HB.out hb1); clear Bgl Bgu HB hb1 hz0 hy0 hy1 hy2; have Bgl := m0_; have Bgu := m1_; have HB := mb_; clear m0_ m1_ mb_; have hz0 := (zkc Bgl.out 0).trans rfl; have hy0 := (zkc Bgu.out 0).trans rfl; have hy1 := (zkc Bgu.out 1).trans rfl; have hy2 := (zkc Bgu.out 2).trans rfl; skip; (try rw [HD.out])) | (go_at_call 72; (with_reducible refine (sound_between.calls a1_0 1 1073741824 true _ CZ.out).mono ?_); rintro e w3 ⟨rfl, ⟨nz, rfl⟩⟩; have m0_ := zam (zkn Bgl.out nz); have m1_ := zam (zkn Bgu.out nz); have mb_ := zam (zbn HB.out nz); clear Bgl Bgu HB hz0 hy0 hy1 hy2; have Bgl := m0_; have Bgu := m1_; have HB := mb_; clear m0_ m1_ mb_; have hz0 := (zkc Bgl.out 0).trans rfl; have hy0 := (zkc Bgu.out 0).trans rfl; have hy1 := (zkc Bgu.out 1).trans rfl; have hy2 := (zkc Bgu.out 2).trans rfl; skip))
     go_ret
     exact ⟨rfl, HB.out⟩
    rw [if_neg y0] at h
    have y0b : decide (a1_1 < 1) = false := zdf (by omega)
    have y0c : decide (1 > a1_1) = false := zdf (by omega)
    clear y0
    by_cases y1 : 256 < a1_1
    ·rw [if_pos y1, Option.some.injEq] at h
     subst h
     have y1b : decide (256 < a1_1) = true := zdt (by omega)
     have y1c : decide (a1_1 > 256) = true := zdt (by omega)
     clear y1
     go_enter Try.func61, Try.ntmps61
     go_wp2_with (first | ((with_reducible refine zgd (N := 2) rfl ?_); refine box_event ?hg (N := 2) ?hd (cs := #[.slice A0 l0.length c0]) (t := 37) ?hr ?_; (case hd => rfl); (case hg => rfl); (case hr => first | (go_simp; done) | (go_simp; rfl)); intro gl hgn_ wqgl hbk hb0; have HB := zam hb0; have Ggl : Aside0 (w.heap.size ≤ gl) := ⟨by rw [hgn_]; exact Nat.le_refl _⟩; have Bgl := zam hbk; clear hgn_ hbk hb0) | ((with_reducible refine zgd (N := 3) rfl ?_); refine box_event ?hg (N := 3) ?hd (cs := #[.int .i64 a1_0, .int .i64 a1_1, .int .i64 a1_2]) (t := 39) ?hr ?_; (case hd => rfl); (case hg => rfl); (case hr => first | (go_simp; done) | (go_simp; rfl)); intro gu hgn_ wqgu hbk hb0; have m0_ := zam (zkb Bgl.out hb0); have Ggu : Aside0 (w.heap.size ≤ gu) := ⟨by rw [hgn_]; exact HB.out.size⟩; have mb_ := zam (zbt HB.out hb0); clear HB; have HB := mb_; clear mb_; have Bgu := zam hbk; clear hgn_ hbk hb0 Bgl; have Bgl := m0_; clear m0_; have hz0 := (zkc Bgl.out 0).trans rfl; have hy0 := (zkc Bgu.out 0).trans rfl; have hy1 := (zkc Bgu.out 1).trans rfl; have hy2 := (zkc Bgu.out 2).trans rfl) | (go_at_call 102; (first | (with_reducible refine (C1.out false _ HB.out CA.out).mono ?_) | (with_reducible refine (C3.out false _ HB.out CB.out).mono ?_) | (with_reducible refine (contains_gauge gl A0 c0 l0 _ HL.out HP.out Bgl.out (Kd.C_below HR.out HB.out)).mono ?_)); rintro e w3 ⟨rfl, hb1⟩; have m0_ := zam (zkb Bgl.out hb1); have m1_ := zam (zkb Bgu.out hb1); have mb_ := zam (zbt HB.out hb1); clear Bgl Bgu HB hb1 hz0 hy0 hy1 hy2; have Bgl := m0_; have Bgu := m1_; have HB := mb_; clear m0_ m1_ mb_; have hz0 := (zkc Bgl.out 0).trans rfl; have hy0 := (zkc Bgu.out 0).trans rfl; have hy1 := (zkc Bgu.out 1).trans rfl; have hy2 := (zkc Bgu.out 2).trans rfl; skip; (try rw [HD.out])) | (go_at_call 72; (with_reducible refine (sound_between.calls a1_0 1 1073741824 true _ CZ.out).mono ?_); rintro e w3 ⟨rfl, ⟨nz, rfl⟩⟩; have m0_ := zam (zkn Bgl.out nz); have m1_ := zam (zkn Bgu.out nz); have mb_ := zam (zbn HB.out nz); clear Bgl Bgu HB hz0 hy0 hy1 hy2; have Bgl := m0_; have Bgu := m1_; have HB := mb_; clear m0_ m1_ mb_; have hz0 := (zkc Bgl.out 0).trans rfl; have hy0 := (zkc Bgu.out 0).trans rfl; have hy1 := (zkc Bgu.out 1).trans rfl; have hy2 := (zkc Bgu.out 2).trans rfl; skip))
     go_ret
     exact ⟨rfl, HB.out⟩
    rw [if_neg y1] at h
    have y1b : decide (256 < a1_1) = false := zdf (by omega)
    have y1c : decide (a1_1 > 256) = false := zdf (by omega)
    clear y1
    by_cases y2 : a1_2 < 1
    ·rw [if_pos y2, Option.some.injEq] at h
     subst h
     have y2b : decide (a1_2 < 1) = true := zdt (by omega)
     have y2c : decide (1 > a1_2) = true := zdt (by omega)
     clear y2
     go_enter Try.func61, Try.ntmps61
     go_wp2_with (first | ((with_reducible refine zgd (N := 2) rfl ?_); refine box_event ?hg (N := 2) ?hd (cs := #[.slice A0 l0.length c0]) (t := 37) ?hr ?_; (case hd => rfl); (case hg => rfl); (case hr => first | (go_simp; done) | (go_simp; rfl)); intro gl hgn_ wqgl hbk hb0; have HB := zam hb0; have Ggl : Aside0 (w.heap.size ≤ gl) := ⟨by rw [hgn_]; exact Nat.le_refl _⟩; have Bgl := zam hbk; clear hgn_ hbk hb0) | ((with_reducible refine zgd (N := 3) rfl ?_); refine box_event ?hg (N := 3) ?hd (cs := #[.int .i64 a1_0, .int .i64 a1_1, .int .i64 a1_2]) (t := 39) ?hr ?_; (case hd => rfl); (case hg => rfl); (case hr => first | (go_simp; done) | (go_simp; rfl)); intro gu hgn_ wqgu hbk hb0; have m0_ := zam (zkb Bgl.out hb0); have Ggu : Aside0 (w.heap.size ≤ gu) := ⟨by rw [hgn_]; exact HB.out.size⟩; have mb_ := zam (zbt HB.out hb0); clear HB; have HB := mb_; clear mb_; have Bgu := zam hbk; clear hgn_ hbk hb0 Bgl; have Bgl := m0_; clear m0_; have hz0 := (zkc Bgl.out 0).trans rfl; have hy0 := (zkc Bgu.out 0).trans rfl; have hy1 := (zkc Bgu.out 1).trans rfl; have hy2 := (zkc Bgu.out 2).trans rfl) | (go_at_call 102; (first | (with_reducible refine (C1.out false _ HB.out CA.out).mono ?_) | (with_reducible refine (C3.out false _ HB.out CB.out).mono ?_) | (with_reducible refine (contains_gauge gl A0 c0 l0 _ HL.out HP.out Bgl.out (Kd.C_below HR.out HB.out)).mono ?_)); rintro e w3 ⟨rfl, hb1⟩; have m0_ := zam (zkb Bgl.out hb1); have m1_ := zam (zkb Bgu.out hb1); have mb_ := zam (zbt HB.out hb1); clear Bgl Bgu HB hb1 hz0 hy0 hy1 hy2; have Bgl := m0_; have Bgu := m1_; have HB := mb_; clear m0_ m1_ mb_; have hz0 := (zkc Bgl.out 0).trans rfl; have hy0 := (zkc Bgu.out 0).trans rfl; have hy1 := (zkc Bgu.out 1).trans rfl; have hy2 := (zkc Bgu.out 2).trans rfl; skip; (try rw [HD.out])) | (go_at_call 72; (with_reducible refine (sound_between.calls a1_0 1 1073741824 true _ CZ.out).mono ?_); rintro e w3 ⟨rfl, ⟨nz, rfl⟩⟩; have m0_ := zam (zkn Bgl.out nz); have m1_ := zam (zkn Bgu.out nz); have mb_ := zam (zbn HB.out nz); clear Bgl Bgu HB hz0 hy0 hy1 hy2; have Bgl := m0_; have Bgu := m1_; have HB := mb_; clear m0_ m1_ mb_; have hz0 := (zkc Bgl.out 0).trans rfl; have hy0 := (zkc Bgu.out 0).trans rfl; have hy1 := (zkc Bgu.out 1).trans rfl; have hy2 := (zkc Bgu.out 2).trans rfl; skip))
     go_ret
     exact ⟨rfl, HB.out⟩
    rw [if_neg y2] at h
    have y2b : decide (a1_2 < 1) = false := zdf (by omega)
    have y2c : decide (1 > a1_2) = false := zdf (by omega)
    clear y2
    by_cases y3 : 16 < a1_2
    ·rw [if_pos y3, Option.some.injEq] at h
     subst h
     have y3b : decide (16 < a1_2) = true := zdt (by omega)
     have y3c : decide (a1_2 > 16) = true := zdt (by omega)
     clear y3
     go_enter Try.func61, Try.ntmps61
     go_wp2_with (first | ((with_reducible refine zgd (N := 2) rfl ?_); refine box_event ?hg (N := 2) ?hd (cs := #[.slice A0 l0.length c0]) (t := 37) ?hr ?_; (case hd => rfl); (case hg => rfl); (case hr => first | (go_simp; done) | (go_simp; rfl)); intro gl hgn_ wqgl hbk hb0; have HB := zam hb0; have Ggl : Aside0 (w.heap.size ≤ gl) := ⟨by rw [hgn_]; exact Nat.le_refl _⟩; have Bgl := zam hbk; clear hgn_ hbk hb0) | ((with_reducible refine zgd (N := 3) rfl ?_); refine box_event ?hg (N := 3) ?hd (cs := #[.int .i64 a1_0, .int .i64 a1_1, .int .i64 a1_2]) (t := 39) ?hr ?_; (case hd => rfl); (case hg => rfl); (case hr => first | (go_simp; done) | (go_simp; rfl)); intro gu hgn_ wqgu hbk hb0; have m0_ := zam (zkb Bgl.out hb0); have Ggu : Aside0 (w.heap.size ≤ gu) := ⟨by rw [hgn_]; exact HB.out.size⟩; have mb_ := zam (zbt HB.out hb0); clear HB; have HB := mb_; clear mb_; have Bgu := zam hbk; clear hgn_ hbk hb0 Bgl; have Bgl := m0_; clear m0_; have hz0 := (zkc Bgl.out 0).trans rfl; have hy0 := (zkc Bgu.out 0).trans rfl; have hy1 := (zkc Bgu.out 1).trans rfl; have hy2 := (zkc Bgu.out 2).trans rfl) | (go_at_call 102; (first | (with_reducible refine (C1.out false _ HB.out CA.out).mono ?_) | (with_reducible refine (C3.out false _ HB.out CB.out).mono ?_) | (with_reducible refine (contains_gauge gl A0 c0 l0 _ HL.out HP.out Bgl.out (Kd.C_below HR.out HB.out)).mono ?_)); rintro e w3 ⟨rfl, hb1⟩; have m0_ := zam (zkb Bgl.out hb1); have m1_ := zam (zkb Bgu.out hb1); have mb_ := zam (zbt HB.out hb1); clear Bgl Bgu HB hb1 hz0 hy0 hy1 hy2; have Bgl := m0_; have Bgu := m1_; have HB := mb_; clear m0_ m1_ mb_; have hz0 := (zkc Bgl.out 0).trans rfl; have hy0 := (zkc Bgu.out 0).trans rfl; have hy1 := (zkc Bgu.out 1).trans rfl; have hy2 := (zkc Bgu.out 2).trans rfl; skip; (try rw [HD.out])) | (go_at_call 72; (with_reducible refine (sound_between.calls a1_0 1 1073741824 true _ CZ.out).mono ?_); rintro e w3 ⟨rfl, ⟨nz, rfl⟩⟩; have m0_ := zam (zkn Bgl.out nz); have m1_ := zam (zkn Bgu.out nz); have mb_ := zam (zbn HB.out nz); clear Bgl Bgu HB hz0 hy0 hy1 hy2; have Bgl := m0_; have Bgu := m1_; have HB := mb_; clear m0_ m1_ mb_; have hz0 := (zkc Bgl.out 0).trans rfl; have hy0 := (zkc Bgu.out 0).trans rfl; have hy1 := (zkc Bgu.out 1).trans rfl; have hy2 := (zkc Bgu.out 2).trans rfl; skip))
     go_ret
     exact ⟨rfl, HB.out⟩
    rw [if_neg y3] at h
    have y3b : decide (16 < a1_2) = false := zdf (by omega)
    have y3c : decide (a1_2 > 16) = false := zdf (by omega)
    clear y3
    rw [Option.some.injEq] at h
    subst h
    go_enter Try.func61, Try.ntmps61
    go_wp2_with (first | ((with_reducible refine zgd (N := 2) rfl ?_); refine box_event ?hg (N := 2) ?hd (cs := #[.slice A0 l0.length c0]) (t := 37) ?hr ?_; (case hd => rfl); (case hg => rfl); (case hr => first | (go_simp; done) | (go_simp; rfl)); intro gl hgn_ wqgl hbk hb0; have HB := zam hb0; have Ggl : Aside0 (w.heap.size ≤ gl) := ⟨by rw [hgn_]; exact Nat.le_refl _⟩; have Bgl := zam hbk; clear hgn_ hbk hb0) | ((with_reducible refine zgd (N := 3) rfl ?_); refine box_event ?hg (N := 3) ?hd (cs := #[.int .i64 a1_0, .int .i64 a1_1, .int .i64 a1_2]) (t := 39) ?hr ?_; (case hd => rfl); (case hg => rfl); (case hr => first | (go_simp; done) | (go_simp; rfl)); intro gu hgn_ wqgu hbk hb0; have m0_ := zam (zkb Bgl.out hb0); have Ggu : Aside0 (w.heap.size ≤ gu) := ⟨by rw [hgn_]; exact HB.out.size⟩; have mb_ := zam (zbt HB.out hb0); clear HB; have HB := mb_; clear mb_; have Bgu := zam hbk; clear hgn_ hbk hb0 Bgl; have Bgl := m0_; clear m0_; have hz0 := (zkc Bgl.out 0).trans rfl; have hy0 := (zkc Bgu.out 0).trans rfl; have hy1 := (zkc Bgu.out 1).trans rfl; have hy2 := (zkc Bgu.out 2).trans rfl) | (go_at_call 102; (first | (with_reducible refine (C1.out false _ HB.out CA.out).mono ?_) | (with_reducible refine (C3.out false _ HB.out CB.out).mono ?_) | (with_reducible refine (contains_gauge gl A0 c0 l0 _ HL.out HP.out Bgl.out (Kd.C_below HR.out HB.out)).mono ?_)); rintro e w3 ⟨rfl, hb1⟩; have m0_ := zam (zkb Bgl.out hb1); have m1_ := zam (zkb Bgu.out hb1); have mb_ := zam (zbt HB.out hb1); clear Bgl Bgu HB hb1 hz0 hy0 hy1 hy2; have Bgl := m0_; have Bgu := m1_; have HB := mb_; clear m0_ m1_ mb_; have hz0 := (zkc Bgl.out 0).trans rfl; have hy0 := (zkc Bgu.out 0).trans rfl; have hy1 := (zkc Bgu.out 1).trans rfl; have hy2 := (zkc Bgu.out 2).trans rfl; skip; (try rw [HD.out])) | (go_at_call 72; (with_reducible refine (sound_between.calls a1_0 1 1073741824 true _ CZ.out).mono ?_); rintro e w3 ⟨rfl, ⟨nz, rfl⟩⟩; have m0_ := zam (zkn Bgl.out nz); have m1_ := zam (zkn Bgu.out nz); have mb_ := zam (zbn HB.out nz); clear Bgl Bgu HB hz0 hy0 hy1 hy2; have Bgl := m0_; have Bgu := m1_; have HB := mb_; clear m0_ m1_ mb_; have hz0 := (zkc Bgl.out 0).trans rfl; have hy0 := (zkc Bgu.out 0).trans rfl; have hy1 := (zkc Bgu.out 1).trans rfl; have hy2 := (zkc Bgu.out 2).trans rfl; skip))
    go_ret
    exact ⟨rfl, HB.out⟩
def sound_First.f (k : Nat) (l0 : List (S45)) (a1_0 : Int) (a1_1 : Int) (a1_2 : Int) : Option (Int × Int × Int) := (sound_checkGauges.f k l0 a1_0 a1_1 a1_2).bind fun t102 => (if t102 = 0 then ((sound_alarm.f k l0 a1_0 a1_1 a1_2).bind fun t103 => ((api_Answer_63.f k t103 2).bind fun t106 => (if t106 < 0 then (some (0, 0, 5)) else ((slices_IndexFunc_Answer_sound_First_1.f k t103).bind fun t107 => (some (t106, t107, 0)))))) else (some (0, 0, t102)))
theorem sound_First.mono : ∀ a0 a1 a2 a3 k, LeO (sound_First.f k a0 a1 a2 a3) (sound_First.f (k + 1) a0 a1 a2 a3) := by
 intro a0 a1 a2 a3 k
 unfold sound_First.f
 repeat' first
   | (with_reducible exact api_Answer_63.mono _ _ _)
   | (with_reducible exact slices_IndexFunc_Answer_sound_First_1.mono _ _)
   | (with_reducible exact sound_alarm.mono _ _ _ _ _)
   | (with_reducible exact sound_checkGauges.mono _ _ _ _ _)
   | (with_reducible exact LeO.refl _)
   | (with_reducible exact LeO.none _)
   | (with_reducible refine LeO.ite ?_ ?_)
   | (with_reducible refine LeO.bind ?_ (fun _ => ?_))
   | exact api_Answer_63.mono _ _ _
   | exact slices_IndexFunc_Answer_sound_First_1.mono _ _
   | exact sound_alarm.mono _ _ _ _ _
   | exact sound_checkGauges.mono _ _ _ _ _
   | exact LeO.none _
   | refine LeO.ite ?_ ?_
   | refine LeO.bind ?_ (fun _ => ?_)
set_option maxHeartbeats 8000000 in
set_option maxRecDepth 100000 in
theorem sound_First.calls (k : Nat) (A0 : Option Addr) (c0 : Nat) (l0 : List (S45)) (a1_0 : Int) (a1_1 : Int) (a1_2 : Int) (r1 : Int) (r2 : Int) (r3 : Int) (w : World) (hr0 : Kd.C k45 w A0 l0.length l0) (hc0 : l0.length ≤ c0) (h : sound_First.f k l0 a1_0 a1_1 a1_2 = some (r1, r2, r3)) :
  Calls Try.prog 23 #[.slice A0 l0.length c0, .agg #[.int .i64 a1_0, .int .i64 a1_1, .int .i64 a1_2]] w fun e w' => e = .returned (.tuple #[.int .i64 r1, .int .i64 r2, .int .i64 r3]) ∧ Below w.heap.size w w' := by
 have hu39 := Try.underlying39
 have HR0 := zam hr0
 have HC0 := zam hc0
 clear hr0 hc0
 have HB := zam (Below.refl w.heap.size w)
 have H : ((sound_checkGauges.f k l0 a1_0 a1_1 a1_2).bind fun t102 => (if t102 = 0 then ((sound_alarm.f k l0 a1_0 a1_1 a1_2).bind fun t103 => ((api_Answer_63.f k t103 2).bind fun t106 => (if t106 < 0 then (some (0, 0, 5)) else ((slices_IndexFunc_Answer_sound_First_1.f k t103).bind fun t107 => (some (t106, t107, 0)))))) else (some (0, 0, t102)))) = some (r1, r2, r3) := h
 clear h
 replace H := Option.bind_eq_some_iff.mp H
 obtain ⟨t102, A30, H⟩ := H
 replace H : (if t102 = 0 then ((sound_alarm.f k l0 a1_0 a1_1 a1_2).bind fun t103 => ((api_Answer_63.f k t103 2).bind fun t106 => (if t106 < 0 then (some (0, 0, 5)) else ((slices_IndexFunc_Answer_sound_First_1.f k t103).bind fun t107 => (some (t106, t107, 0)))))) else (some (0, 0, t102))) = some (r1, r2, r3) := H
 have A3 := zam A30
 clear A30
 by_cases c4 : t102 = 0
 ·rw [if_pos c4] at H
  have c4b0 : (t102 == 0) = true := beq_iff_eq.mpr c4
  have c4b1 : (t102 != 0) = false := bne_eq_false_iff_eq.mpr c4
  clear c4
  replace H := Option.bind_eq_some_iff.mp H
  obtain ⟨t103, A50, H⟩ := H
  replace H : ((api_Answer_63.f k t103 2).bind fun t106 => (if t106 < 0 then (some (0, 0, 5)) else ((slices_IndexFunc_Answer_sound_First_1.f k t103).bind fun t107 => (some (t106, t107, 0))))) = some (r1, r2, r3) := H
  have A5 := zam A50
  clear A50
  replace H := Option.bind_eq_some_iff.mp H
  obtain ⟨t106, A60, H⟩ := H
  replace H : (if t106 < 0 then (some (0, 0, 5)) else ((slices_IndexFunc_Answer_sound_First_1.f k t103).bind fun t107 => (some (t106, t107, 0)))) = some (r1, r2, r3) := H
  have A6 := zam A60
  clear A60
  by_cases c7 : t106 < 0
  ·rw [if_pos c7] at H
   have c7b0 : decide (t106 < 0) = true := zdt c7
   clear c7
   simp only [Option.some.injEq, Prod.mk.injEq] at H
   obtain ⟨rfl, rfl, rfl⟩ := H
   go_enter Try.func23, Try.ntmps23
   go_wp2_with (first | ((with_reducible refine zgd (N := 3) rfl ?_); refine box_event ?hg (N := 3) ?hd (cs := #[.int .i64 a1_0, .int .i64 a1_1, .int .i64 a1_2]) (t := 39) ?hr ?_; (case hd => rfl); (case hg => rfl); (case hr => first | (go_simp; done) | (go_simp; rfl)); intro gb101 hg w8 hbox hb; have n0_ := zam (zbt zq1 hb); have n1_ := zam (hbox); have n2_ := zam ((by rw [hg]; exact (zbz zq1) : w.heap.size ≤ gb101)); have n3_ := zam ((by rw [hg]; exact (zbz zq1) : w.heap.size ≤ gb101)); clear HB; have HB := n0_; have BK101 := n1_; have GW101 := n2_; have GE101 := n3_; clear n0_ n1_ n2_ n3_; clear hb hbox hg; have hcz9_0 : w8.cell? ⟨gb101, 0, none⟩ = some (.int .i64 a1_0) := (zkc BK101.out 0).trans rfl; have hcz9_1 : w8.cell? ⟨gb101, 1, none⟩ = some (.int .i64 a1_1) := (zkc BK101.out 1).trans rfl; have hcz9_2 : w8.cell? ⟨gb101, 2, none⟩ = some (.int .i64 a1_2) := (zkc BK101.out 2).trans rfl; have hfz9_0 := zkz BK101.out 0; have hfz9_1 := zkz BK101.out 1; have hfz9_2 := zkz BK101.out 2) | ((with_reducible refine zgc (f := 61) rfl ?_); refine goesL_ (some 12) rfl rfl Try.func61 (by kernel_rfl) rfl #[.slice A0 l0.length c0, .agg #[.int .i64 a1_0, .int .i64 a1_1, .int .i64 a1_2]] rfl zq4 ?_; (with_reducible refine (sound_checkGauges.calls k _ _ l0 a1_0 a1_1 a1_2 t102 _ ?side1 ?side2 A3.out).mono ?_); (case side1 => repeat (first | exact (Kd.C_below HR0.out HB.out) | (with_reducible refine Kd.C_alloc ?_ _) | (with_reducible refine Kd.C_drewN ?_ _) | (with_reducible refine Kd.C_drew ?_))); (case side2 => exact HC0.out); rintro e w10 ⟨rfl, hb⟩; refine ⟨_, rfl, ?_⟩; have n0_ := zam (zkb (g := gb101) (o := .cells #[.int .i64 a1_0, .int .i64 a1_1, .int .i64 a1_2] 39 (0, 0)) zq0 hb); have n1_ := zam (zbt zq2 hb); clear BK101; clear HB; have BK101 := n0_; have HB := n1_; clear n0_ n1_; (try clear hb); (try clear hb2); (try clear hk); (try clear hi); have hcz11_0 : w10.cell? ⟨gb101, 0, none⟩ = some (.int .i64 a1_0) := (zkc BK101.out 0).trans rfl; have hcz11_1 : w10.cell? ⟨gb101, 1, none⟩ = some (.int .i64 a1_1) := (zkc BK101.out 1).trans rfl; have hcz11_2 : w10.cell? ⟨gb101, 2, none⟩ = some (.int .i64 a1_2) := (zkc BK101.out 2).trans rfl; have hfz11_0 := zkz BK101.out 0; have hfz11_1 := zkz BK101.out 1; have hfz11_2 := zkz BK101.out 2) | ((with_reducible refine zgc (f := 62) rfl ?_); refine goesL_ (some 18) rfl rfl Try.func62 (by kernel_rfl) rfl #[.slice A0 l0.length c0, .agg #[.int .i64 a1_0, .int .i64 a1_1, .int .i64 a1_2]] rfl zq4 ?_; (with_reducible refine (sound_alarm.calls k _ _ l0 a1_0 a1_1 a1_2 t103 _ ?side1 ?side2 A5.out).mono ?_); (case side1 => repeat (first | exact (Kd.C_below HR0.out HB.out) | (with_reducible refine Kd.C_alloc ?_ _) | (with_reducible refine Kd.C_drewN ?_ _) | (with_reducible refine Kd.C_drew ?_))); (case side2 => exact HC0.out); rintro e w12 ⟨v104, rfl, ho0, hb⟩; refine ⟨_, rfl, ?_⟩; have n0_ := zam (Kd.R_lower ho0 (zbz zq2)); have n1_ := zam (zkb (g := gb101) (o := .cells #[.int .i64 a1_0, .int .i64 a1_1, .int .i64 a1_2] 39 (0, 0)) zq0 hb); have n2_ := zam (zbt zq2 hb); clear BK101; clear HB; have HO105 := n0_; have BK101 := n1_; have HB := n2_; clear n0_ n1_ n2_; (try clear hb); (try clear hb2); (try clear hk); (try clear hi); (try clear ho0); obtain ⟨Ao13, co13, eo13⟩ := Kd.R_slice HO105.out; subst eo13) | ((with_reducible refine zgc (f := 63) rfl ?_); refine goesL_ (some 20) rfl rfl Try.func63 (by kernel_rfl) rfl #[.slice Ao13 t103.length co13, .int .i64 2] rfl zq4 ?_; (with_reducible refine (api_Answer_63.calls k _ _ t103 2 t106 _ ?side1 ?side2 A6.out).mono ?_); (case side1 => repeat (first | exact (Kd.R_reads' HO105.out).2.2 | (with_reducible refine Kd.C_alloc ?_ _) | (with_reducible refine Kd.C_drewN ?_ _) | (with_reducible refine Kd.C_drew ?_))); (case side2 => exact (Kd.R_reads' HO105.out).2.1); rintro e w' ⟨rfl, ⟨nd, rfl⟩⟩; refine ⟨_, rfl, ?_⟩))
   go_ret3
   exact ⟨by first | rfl | (simp [errW_none, errW_some] <;> rfl) | (simp [*, errW_none, errW_some] <;> rfl), by repeat (first | (with_reducible first | exact HB.out | apply zba | apply zbn | apply zb1 | refine zbs ?_ GE101.out) | exact HB.out)⟩
  rw [if_neg c7] at H
  have c7b0 : decide (t106 < 0) = false := zdf c7
  clear c7
  replace H := Option.bind_eq_some_iff.mp H
  obtain ⟨t107, A140, H⟩ := H
  replace H : (some (t106, t107, 0)) = some (r1, r2, r3) := H
  have A14 := zam A140
  clear A140
  simp only [Option.some.injEq, Prod.mk.injEq] at H
  obtain ⟨rfl, rfl, rfl⟩ := H
  go_enter Try.func23, Try.ntmps23
  go_wp2_with (first | ((with_reducible refine zgd (N := 3) rfl ?_); refine box_event ?hg (N := 3) ?hd (cs := #[.int .i64 a1_0, .int .i64 a1_1, .int .i64 a1_2]) (t := 39) ?hr ?_; (case hd => rfl); (case hg => rfl); (case hr => first | (go_simp; done) | (go_simp; rfl)); intro gb101 hg w15 hbox hb; have n0_ := zam (zbt zq1 hb); have n1_ := zam (hbox); have n2_ := zam ((by rw [hg]; exact (zbz zq1) : w.heap.size ≤ gb101)); have n3_ := zam ((by rw [hg]; exact (zbz zq1) : w.heap.size ≤ gb101)); clear HB; have HB := n0_; have BK101 := n1_; have GW101 := n2_; have GE101 := n3_; clear n0_ n1_ n2_ n3_; clear hb hbox hg; have hcz16_0 : w15.cell? ⟨gb101, 0, none⟩ = some (.int .i64 a1_0) := (zkc BK101.out 0).trans rfl; have hcz16_1 : w15.cell? ⟨gb101, 1, none⟩ = some (.int .i64 a1_1) := (zkc BK101.out 1).trans rfl; have hcz16_2 : w15.cell? ⟨gb101, 2, none⟩ = some (.int .i64 a1_2) := (zkc BK101.out 2).trans rfl; have hfz16_0 := zkz BK101.out 0; have hfz16_1 := zkz BK101.out 1; have hfz16_2 := zkz BK101.out 2) | ((with_reducible refine zgc (f := 61) rfl ?_); refine goesL_ (some 12) rfl rfl Try.func61 (by kernel_rfl) rfl #[.slice A0 l0.length c0, .agg #[.int .i64 a1_0, .int .i64 a1_1, .int .i64 a1_2]] rfl zq4 ?_; (with_reducible refine (sound_checkGauges.calls k _ _ l0 a1_0 a1_1 a1_2 t102 _ ?side1 ?side2 A3.out).mono ?_); (case side1 => repeat (first | exact (Kd.C_below HR0.out HB.out) | (with_reducible refine Kd.C_alloc ?_ _) | (with_reducible refine Kd.C_drewN ?_ _) | (with_reducible refine Kd.C_drew ?_))); (case side2 => exact HC0.out); rintro e w17 ⟨rfl, hb⟩; refine ⟨_, rfl, ?_⟩; have n0_ := zam (zkb (g := gb101) (o := .cells #[.int .i64 a1_0, .int .i64 a1_1, .int .i64 a1_2] 39 (0, 0)) zq0 hb); have n1_ := zam (zbt zq2 hb); clear BK101; clear HB; have BK101 := n0_; have HB := n1_; clear n0_ n1_; (try clear hb); (try clear hb2); (try clear hk); (try clear hi); have hcz18_0 : w17.cell? ⟨gb101, 0, none⟩ = some (.int .i64 a1_0) := (zkc BK101.out 0).trans rfl; have hcz18_1 : w17.cell? ⟨gb101, 1, none⟩ = some (.int .i64 a1_1) := (zkc BK101.out 1).trans rfl; have hcz18_2 : w17.cell? ⟨gb101, 2, none⟩ = some (.int .i64 a1_2) := (zkc BK101.out 2).trans rfl; have hfz18_0 := zkz BK101.out 0; have hfz18_1 := zkz BK101.out 1; have hfz18_2 := zkz BK101.out 2) | ((with_reducible refine zgc (f := 62) rfl ?_); refine goesL_ (some 18) rfl rfl Try.func62 (by kernel_rfl) rfl #[.slice A0 l0.length c0, .agg #[.int .i64 a1_0, .int .i64 a1_1, .int .i64 a1_2]] rfl zq4 ?_; (with_reducible refine (sound_alarm.calls k _ _ l0 a1_0 a1_1 a1_2 t103 _ ?side1 ?side2 A5.out).mono ?_); (case side1 => repeat (first | exact (Kd.C_below HR0.out HB.out) | (with_reducible refine Kd.C_alloc ?_ _) | (with_reducible refine Kd.C_drewN ?_ _) | (with_reducible refine Kd.C_drew ?_))); (case side2 => exact HC0.out); rintro e w19 ⟨v104, rfl, ho0, hb⟩; refine ⟨_, rfl, ?_⟩; have n0_ := zam (Kd.R_lower ho0 (zbz zq2)); have n1_ := zam (zkb (g := gb101) (o := .cells #[.int .i64 a1_0, .int .i64 a1_1, .int .i64 a1_2] 39 (0, 0)) zq0 hb); have n2_ := zam (zbt zq2 hb); clear BK101; clear HB; have HO105 := n0_; have BK101 := n1_; have HB := n2_; clear n0_ n1_ n2_; (try clear hb); (try clear hb2); (try clear hk); (try clear hi); (try clear ho0); obtain ⟨Ao20, co20, eo20⟩ := Kd.R_slice HO105.out; subst eo20) | ((with_reducible refine zgc (f := 63) rfl ?_); refine goesL_ (some 20) rfl rfl Try.func63 (by kernel_rfl) rfl #[.slice Ao20 t103.length co20, .int .i64 2] rfl zq4 ?_; (with_reducible refine (api_Answer_63.calls k _ _ t103 2 t106 _ ?side1 ?side2 A6.out).mono ?_); (case side1 => repeat (first | exact (Kd.R_reads' HO105.out).2.2 | (with_reducible refine Kd.C_alloc ?_ _) | (with_reducible refine Kd.C_drewN ?_ _) | (with_reducible refine Kd.C_drew ?_))); (case side2 => exact (Kd.R_reads' HO105.out).2.1); rintro e w' ⟨rfl, ⟨nd, rfl⟩⟩; refine ⟨_, rfl, ?_⟩) | ((with_reducible refine zgc (f := 64) rfl ?_); refine goesL_ (some 25) rfl rfl Try.func64 (by kernel_rfl) rfl #[.slice Ao20 t103.length co20, .func (.func 65) #[] #[]] rfl zq4 ?_; (with_reducible refine (slices_IndexFunc_Answer_sound_First_1.calls k _ _ t103  t107 _ ?side1 ?side2 A14.out).mono ?_); (case side1 => repeat (first | exact (Kd.R_reads' HO105.out).2.2 | (with_reducible refine Kd.C_alloc ?_ _) | (with_reducible refine Kd.C_drewN ?_ _) | (with_reducible refine Kd.C_drew ?_))); (case side2 => exact (Kd.R_reads' HO105.out).2.1); rintro e w' ⟨rfl, ⟨nd, rfl⟩⟩; refine ⟨_, rfl, ?_⟩))
  go_ret3
  exact ⟨by first | rfl | (simp [errW_none, errW_some] <;> rfl) | (simp [*, errW_none, errW_some] <;> rfl), by repeat (first | (with_reducible first | exact HB.out | apply zba | apply zbn | apply zb1 | refine zbs ?_ GE101.out) | exact HB.out)⟩
 rw [if_neg c4] at H
 have c4b0 : (t102 == 0) = false := beq_eq_false_iff_ne.mpr c4
 have c4b1 : (t102 != 0) = true := bne_iff_ne.mpr c4
 simp only [Option.some.injEq, Prod.mk.injEq] at H
 obtain ⟨rfl, rfl, rfl⟩ := H
 go_enter Try.func23, Try.ntmps23
 go_wp2_with (first | ((with_reducible refine zgd (N := 3) rfl ?_); refine box_event ?hg (N := 3) ?hd (cs := #[.int .i64 a1_0, .int .i64 a1_1, .int .i64 a1_2]) (t := 39) ?hr ?_; (case hd => rfl); (case hg => rfl); (case hr => first | (go_simp; done) | (go_simp; rfl)); intro gb101 hg w21 hbox hb; have n0_ := zam (zbt zq1 hb); have n1_ := zam (hbox); have n2_ := zam ((by rw [hg]; exact (zbz zq1) : w.heap.size ≤ gb101)); have n3_ := zam ((by rw [hg]; exact (zbz zq1) : w.heap.size ≤ gb101)); clear HB; have HB := n0_; have BK101 := n1_; have GW101 := n2_; have GE101 := n3_; clear n0_ n1_ n2_ n3_; clear hb hbox hg; have hcz22_0 : w21.cell? ⟨gb101, 0, none⟩ = some (.int .i64 a1_0) := (zkc BK101.out 0).trans rfl; have hcz22_1 : w21.cell? ⟨gb101, 1, none⟩ = some (.int .i64 a1_1) := (zkc BK101.out 1).trans rfl; have hcz22_2 : w21.cell? ⟨gb101, 2, none⟩ = some (.int .i64 a1_2) := (zkc BK101.out 2).trans rfl; have hfz22_0 := zkz BK101.out 0; have hfz22_1 := zkz BK101.out 1; have hfz22_2 := zkz BK101.out 2) | ((with_reducible refine zgc (f := 61) rfl ?_); refine goesL_ (some 12) rfl rfl Try.func61 (by kernel_rfl) rfl #[.slice A0 l0.length c0, .agg #[.int .i64 a1_0, .int .i64 a1_1, .int .i64 a1_2]] rfl zq4 ?_; (with_reducible refine (sound_checkGauges.calls k _ _ l0 a1_0 a1_1 a1_2 t102 _ ?side1 ?side2 A3.out).mono ?_); (case side1 => repeat (first | exact (Kd.C_below HR0.out HB.out) | (with_reducible refine Kd.C_alloc ?_ _) | (with_reducible refine Kd.C_drewN ?_ _) | (with_reducible refine Kd.C_drew ?_))); (case side2 => exact HC0.out); rintro e w23 ⟨rfl, hb⟩; refine ⟨_, rfl, ?_⟩; have n0_ := zam (zkb (g := gb101) (o := .cells #[.int .i64 a1_0, .int .i64 a1_1, .int .i64 a1_2] 39 (0, 0)) zq0 hb); have n1_ := zam (zbt zq2 hb); clear BK101; clear HB; have BK101 := n0_; have HB := n1_; clear n0_ n1_; (try clear hb); (try clear hb2); (try clear hk); (try clear hi)))
 go_ret3
 exact ⟨by first | rfl | (simp [errW_none, errW_some] <;> rfl) | (simp [*, errW_none, errW_some] <;> rfl), by repeat (first | (with_reducible first | exact HB.out | apply zba | apply zbn | apply zb1 | refine zbs ?_ GE101.out) | exact HB.out)⟩
end Go.Proofs.Ytaheamdoldiojaa.P
namespace Go.Proofs.Ytaheamdoldiojaa.P
open Go.RowKit Go.Proofs.YtaheamdoldiojaaW.PrintWords Go.Proofs.YtaheamdoldiojaaW.PrintLast Go.Proofs.YtaheamdoldiojaaW.PrintMore
attribute [local go_sem] max2_int min2_int max_two min_two max_three min_three max_four min_four   -- for this text's walks alone
set_option linter.unusedVariables false
set_option linter.unusedSimpArgs false
attribute [local go_sem high] eqA24 eqA29
def isobathlaw07_Works.f (k : Nat) : Option (Bool) := if 300 ≤ k then some true else none
theorem Sp.works {k : Nat} (hk : 300 ≤ k) : isobathlaw07_Works.f k = some true := by
 unfold isobathlaw07_Works.f
 rw [if_pos hk]
theorem isobathlaw07_Works.three {k : Nat} (hk : 300 ≤ k) : sound_Count.f k ([2, 1, 2, 0, 1] : List Int) 1 = some (1, 3, 0) ∧ sound_Region.f k [⟨⟨0, 0⟩, ⟨0, 0⟩⟩, ⟨⟨3000, 3000⟩, ⟨0, 0⟩⟩, ⟨⟨0, 0⟩, ⟨4000, 4000⟩⟩] 1500 1500 [⟨100, 100⟩, ⟨2100, 2100⟩, ⟨2767, 2767⟩] 0 4000 0 4000 1 = some ([⟨⟨0, 2000⟩, ⟨0, 2000⟩⟩], 0) ∧ sound_First.f k [⟨[⟨0, 1⟩, ⟨20, 30⟩, ⟨25, 40⟩]⟩, ⟨[⟨0, 5⟩, ⟨5, 25⟩, ⟨21, 22⟩]⟩] 20 2 1 = some (2, 2, 0) := by
 have e2 : Sp.count [2, 1, 2, 0, 1] 1 = (1, 3, 0) := by decide
 have e3 : sound_First.f 100 [⟨[⟨0, 1⟩, ⟨20, 30⟩, ⟨25, 40⟩]⟩, ⟨[⟨0, 5⟩, ⟨5, 25⟩, ⟨21, 22⟩]⟩] 20 2 1 = some (2, 2, 0) := by with_unfolding_all rfl
 have e4 := LeO.up (fun k => sound_First.mono [⟨[⟨0, 1⟩, ⟨20, 30⟩, ⟨25, 40⟩]⟩, ⟨[⟨0, 5⟩, ⟨5, 25⟩, ⟨21, 22⟩]⟩] 20 2 1 k) (show 100 ≤ k by omega) e3
 have e5 := Sp.region_b [⟨⟨0, 0⟩, ⟨0, 0⟩⟩, ⟨⟨3000, 3000⟩, ⟨0, 0⟩⟩, ⟨⟨0, 0⟩, ⟨4000, 4000⟩⟩] 1500 1500 [⟨100, 100⟩, ⟨2100, 2100⟩, ⟨2767, 2767⟩] ⟨⟨0, 4000⟩, ⟨0, 4000⟩⟩ 1 (k := k) (by omega)
 rw [Sp.works_region] at e5
 exact ⟨by rw [Sp.count_b _ _ hk, e2], e5, e4⟩
set_option maxHeartbeats 8000000 in
set_option maxRecDepth 100000 in
theorem isobathlaw07_Works.calls (k : Nat) (r : Bool) (w : World) (h : isobathlaw07_Works.f k = some r) :
  Calls Try.prog 14 #[] w fun e w' => e = .returned (.bool r) ∧ Below w.heap.size w w' := by
 have hu24 := Try.underlying24
 have hu26 := Try.underlying26
 have hu29 := Try.underlying29
 have hu39 := Try.underlying39
 have HB := zam (Below.refl w.heap.size w)
 have hk : 300 ≤ k ∧ r = true := by
  unfold isobathlaw07_Works.f at h
  split at h
  ·next q => exact ⟨q, (zsi h).symm⟩
  cases h
 obtain ⟨hk, hr⟩ := hk
 obtain ⟨q1, q2, q3⟩ := isobathlaw07_Works.three hk
 obtain ⟨t104, t105, t106, A10, d104, d105, d106⟩ : ∃ a b c : Int, sound_Count.f k ([2, 1, 2, 0, 1] : List Int) 1 = some (a, b, c) ∧ a = 1 ∧ b = 3 ∧ c = 0 := ⟨1, 3, 0, q1, rfl, rfl, rfl⟩
 obtain ⟨t108, t111, t112, t113, t117, t120, A20, A30, d117, d120⟩ : ∃ a b c d e f, isobathlaw07_Example.f = some (a, b, c, d) ∧ sound_Region.f k a b c d 0 4000 0 4000 1 = some (e, f) ∧ e = [⟨⟨0, 2000⟩, ⟨0, 2000⟩⟩] ∧ f = 0 := ⟨_, _, _, _, _, _, rfl, q2, rfl, rfl⟩
 obtain ⟨t121, t124, t125, t126, t128, t129, t130, A40, A50, d128, d129, d130⟩ : ∃ a b c d e f g, isobathlaw07_Gauges.f = some (a, b, c, d) ∧ sound_First.f k a b c d = some (e, f, g) ∧ e = 2 ∧ f = 2 ∧ g = 0 := ⟨_, _, _, _, _, _, _, rfl, q3, rfl, rfl, rfl⟩
 have c6b0 : ((wrap64 ((wrap64 (t106 + t120)) + t130)) == 0) = true := by subst d106 d120 d130; with_unfolding_all rfl
 have c6b1 : ((wrap64 ((wrap64 (t106 + t120)) + t130)) != 0) = false := by subst d106 d120 d130; with_unfolding_all rfl
 have c7b0 : (t104 == 1 && (t105 == 3)) = true := by subst d104 d105; rfl
 have c8b0 : ((t117.length : Int) == 1) = true := by subst d117; rfl
 have c8b1 : ((t117.length : Int) != 1) = false := by subst d117; rfl
 have c9b0 : decide (0 < (t117.length : Int)) = true := by subst d117; rfl
 have c9b1 : decide (0 < t117.length) = true := by subst d117; rfl
 have c10b0 : ((((rd_T29 t117 0).f0.f0) == 0 && (((rd_T29 t117 0).f0.f1) == 2000)) && ((((rd_T29 t117 0).f1.f0) == 0 && (((rd_T29 t117 0).f1.f1) == 2000)))) = true := by subst d117; rfl
 have c11b0 : (t128 == 2) = true := by subst d128; rfl
 have c11b1 : (t128 != 2) = false := by subst d128; rfl
 obtain rfl : r = (t129 == 2) := by subst d129; exact hr
 obtain ⟨y101, hy101⟩ : ∃ y_ : List Int, y_ = (([2, 1, 2, 0, 1] : List Int)) := ⟨_, rfl⟩
 rw [← hy101] at A10
 have Ny101 := zam hy101
 have A1 := zam A10
 have A2 := zam A20
 have A3 := zam A30
 have A4 := zam A40
 have A5 := zam A50
 clear hy101 A10 A20 A30 A40 A50 d104 d105 d106 d117 d120 d128 d129 d130 q1 q2 q3 hr hk h
 go_enter Try.func14, Try.ntmps14
 go_wp2_with (first | ((with_reducible refine zgd (N := 13) rfl ?_); (try (refine gate_guard (by rfl) ?_; dsimp only)); refine Kd.R_lit (Kd.int .i64) _ 50 ?hg (N := 13) ?hd (xs := ([2, 1, 2, 0, 1] : List Int)) (inner := [.int .i64 2, .int .i64 1, .int .i64 2, .int .i64 0, .int .i64 1]) (ok := fun _ => True) (okp := fun _ => True) ?hr ?hp (fun _ hk => hk) trivial (Below.refl _ _) (Nat.le_refl _) (by simp) ?_; (case hd => rfl); (case hg => rfl); (case hr => first | (go_simp; done) | (go_simp; rfl)); (case hp => exact (Reps.one (show Kd.M (Kd.int .i64) _ _ _ 2 [.int .i64 2] from rfl) (Reps.one (show Kd.M (Kd.int .i64) _ _ _ 1 [.int .i64 1] from rfl) (Reps.one (show Kd.M (Kd.int .i64) _ _ _ 2 [.int .i64 2] from rfl) (Reps.one (show Kd.M (Kd.int .i64) _ _ _ 0 [.int .i64 0] from rfl) (Reps.one (show Kd.M (Kd.int .i64) _ _ _ 1 [.int .i64 1] from rfl) (Reps.none _ _))))))); intro v102 w12 ho13 hb hg_ hnew_; clear hg_ hnew_; (first | rw [← Ny101.out] at ho13 | (simp only [Int.reduceToNat] at ho13; rw [← Ny101.out] at ho13)); have n0_ := zam (Kd.R_lower ho13 (zbz zq1)); have n1_ := zam (zbt zq1 hb); clear HB; have HO103 := n0_; have HB := n1_; clear n0_ n1_; clear hb ho13; obtain ⟨Ao14, co14, eo14⟩ := Kd.R_slice HO103.out; subst eo14) | ((with_reducible refine zgc (f := 30) rfl ?_); refine goesL_ (some 14) rfl rfl Try.func30 (by kernel_rfl) rfl #[.slice Ao14 y101.length co14, .int .i64 1] rfl zq4 ?_; (with_reducible refine (sound_Count.calls k _ _ y101 1 t104 t105 t106 _ ?side1 ?side2 A1.out).mono ?_); (case side1 => repeat (first | exact (Kd.R_reads' HO103.out).2.2 | (with_reducible refine Kd.C_alloc ?_ _) | (with_reducible refine Kd.C_drewN ?_ _) | (with_reducible refine Kd.C_drew ?_))); (case side2 => exact (Kd.R_reads' HO103.out).2.1); rintro e w15 ⟨rfl, hb⟩; refine ⟨_, rfl, ?_⟩; have n0_ := zam (Kd.R_below zq25 hb); have n1_ := zam (zbt zq1 hb); clear HO103; clear HB; have HO103 := n0_; have HB := n1_; clear n0_ n1_; (try clear hb); (try clear hb2); (try clear hk); (try clear hi)) | ((with_reducible refine zgd (N := 1) rfl ?_); (try (refine gate_guard (by rfl) ?_; dsimp only)); refine box_event ?hg (N := 1) ?hd (cs := #[.int .i64 0, .int .i64 0]) (t := 24) ?hr ?_; (case hd => rfl); (case hg => rfl); (case hr => first | (go_simp; done) | (go_simp; rfl)); intro gb107 hg w16 hbox hb; have n0_ := zam (Kd.R_below zq25 hb); have n1_ := zam (zbt zq1 hb); have n2_ := zam (hbox); have n3_ := zam ((by rw [hg]; exact (zbz zq1) : w.heap.size ≤ gb107)); have n4_ := zam ((by rw [hg]; exact (zbz zq1) : w.heap.size ≤ gb107)); clear HO103; clear HB; have HO103 := n0_; have HB := n1_; have BK107 := n2_; have GW107 := n3_; have GE107 := n4_; clear n0_ n1_ n2_ n3_ n4_; clear hb hbox hg; have hcz17_0 : w16.cell? ⟨gb107, 0, none⟩ = some (.int .i64 0) := (zkc BK107.out 0).trans rfl; have hcz17_1 : w16.cell? ⟨gb107, 1, none⟩ = some (.int .i64 0) := (zkc BK107.out 1).trans rfl; have hfz17_0 := zkz BK107.out 0; have hfz17_1 := zkz BK107.out 1) | ((with_reducible refine zgc (f := 55) rfl ?_); refine goesL_ (some 18) rfl rfl Try.func55 (by kernel_rfl) rfl #[] rfl zq4 ?_; (with_reducible refine (isobathlaw07_Example.calls  t108 t111 t112 t113 _ A2.out).mono ?_); rintro e w18 ⟨v109, v114, rfl, ho0, ho1, hb⟩; refine ⟨_, rfl, ?_⟩; have n0_ := zam (Kd.R_below (by (with_reducible repeat (first | apply zRa | apply zRn | apply zRd)); exact (Kd.R_mono (Kd.R_far (p := ⟨gb107, 1, none⟩) (Kd.R_far (p := ⟨gb107, 0, none⟩) (Kd.R_types HO103.out BK107.out (by decide)) (fun _ hk => hk.2) (.int .i64 t104)) (fun _ hk => hk.2) (.int .i64 t105)) (fun _ h_ => h_.1))) hb); have n1_ := zam (Kd.R_lower ho0 (zbz zq22)); have n2_ := zam (Kd.R_lower (Kd.R_newB ho1 (g := gb107) (o := .cells #[.int .i64 t104, .int .i64 t105] 24 (0, 0)) (by (with_reducible repeat (first | refine zkn ?_ _ | refine zkd ?_ | refine zka ?_ _)); refine blk_put (cs := #[.int .i64 t104, .int .i64 0]) ?_ 1 _ rfl; (with_reducible repeat (first | refine zkn ?_ _ | refine zkd ?_ | refine zka ?_ _)); refine blk_put (cs := #[.int .i64 0, .int .i64 0]) ?_ 0 _ rfl; (with_reducible repeat (first | refine zkn ?_ _ | refine zkd ?_ | refine zka ?_ _)); exact BK107.out)) (zbz zq22)); have n3_ := zam (zkb (g := gb107) (o := .cells #[.int .i64 t104, .int .i64 t105] 24 (0, 0)) (by (with_reducible repeat (first | refine zkn ?_ _ | refine zkd ?_ | refine zka ?_ _)); refine blk_put (cs := #[.int .i64 t104, .int .i64 0]) ?_ 1 _ rfl; (with_reducible repeat (first | refine zkn ?_ _ | refine zkd ?_ | refine zka ?_ _)); refine blk_put (cs := #[.int .i64 0, .int .i64 0]) ?_ 0 _ rfl; (with_reducible repeat (first | refine zkn ?_ _ | refine zkd ?_ | refine zka ?_ _)); exact BK107.out) hb); have n4_ := zam (zbt zq22 hb); clear HO103; clear BK107; clear HB; have HO103 := n0_; have HO110 := n1_; have HO115 := n2_; have BK107 := n3_; have HB := n4_; clear n0_ n1_ n2_ n3_ n4_; (try clear hb); (try clear hb2); (try clear hk); (try clear hi); (try clear ho0); (try clear ho1)) | ((with_reducible refine zgd (N := 3) rfl ?_); (try (refine gate_guard (by rfl) ?_; dsimp only)); refine box_event ?hg (N := 3) ?hd (cs := #[.slice none 0 0, .int .i64 0, .int .i64 0]) (t := 26) ?hr ?_; (case hd => rfl); (case hg => rfl); (case hr => first | (go_simp; done) | (go_simp; rfl)); intro gb116 hg w19 hbox hb; have n0_ := zam (Kd.R_below zq25 hb); have n1_ := zam (Kd.R_below (by (with_reducible repeat (first | apply zRa | apply zRn | apply zRd)); exact HO110.out) hb); have n2_ := zam (Kd.R_below (by (with_reducible repeat (first | apply zRa | apply zRn | apply zRd)); exact HO115.out) hb); have n3_ := zam (zkb (g := gb107) (o := .cells #[.int .i64 t104, .int .i64 t105] 24 (0, 0)) zq18 hb); have n4_ := zam (zbt zq22 hb); have n5_ := zam (hbox); have n6_ := zam ((by rw [hg]; exact (zbz zq22) : w.heap.size ≤ gb116)); have n7_ := zam ((by rw [hg]; exact (zbz zq22) : w.heap.size ≤ gb116)); have n8_ := zam ((by rw [hg]; exact Nat.ne_of_lt (blk_lt (g := gb107) (o := .cells #[.int .i64 t104, .int .i64 t105] 24 (0, 0)) zq18) : gb107 ≠ gb116)); have n9_ := zam ((by rw [hg]; exact Nat.ne_of_gt (blk_lt (g := gb107) (o := .cells #[.int .i64 t104, .int .i64 t105] 24 (0, 0)) zq18) : gb116 ≠ gb107)); clear HO103; clear HO110; clear HO115; clear BK107; clear HB; have HO103 := n0_; have HO110 := n1_; have HO115 := n2_; have BK107 := n3_; have HB := n4_; have BK116 := n5_; have GW116 := n6_; have GE116 := n7_; have NB107_116 := n8_; have NB116_107 := n9_; clear n0_ n1_ n2_ n3_ n4_ n5_ n6_ n7_ n8_ n9_; clear hb hbox hg; obtain ⟨Ao20, co20, eo20⟩ := Kd.R_slice HO110.out; subst eo20; have hnb21 := NB116_107.out; have hnc21 := NB107_116.out; have hcz22_0 : w19.cell? ⟨gb116, 0, none⟩ = some (.slice none 0 0) := (zkc BK116.out 0).trans rfl; have hcz22_1 : w19.cell? ⟨gb116, 1, none⟩ = some (.int .i64 0) := (zkc BK116.out 1).trans rfl; have hcz22_2 : w19.cell? ⟨gb116, 2, none⟩ = some (.int .i64 0) := (zkc BK116.out 2).trans rfl; have hfz22_0 := zkz BK116.out 0; have hfz22_1 := zkz BK116.out 1; have hfz22_2 := zkz BK116.out 2; obtain ⟨Ao23, co23, eo23⟩ := Kd.R_slice HO115.out; subst eo23) | ((with_reducible refine zgc (f := 15) rfl ?_); refine goesL_ (some 27) rfl rfl Try.func15 (by kernel_rfl) rfl #[.agg #[.slice Ao20 t108.length co20, .int .i64 t111, .int .i64 t112], .slice Ao23 t113.length co23, .agg #[.int .i64 0, .int .i64 4000, .int .i64 0, .int .i64 4000], .int .i64 1] rfl zq4 ?_; (with_reducible refine (sound_Region.calls k _ _ t108 t111 t112 _ _ t113 0 4000 0 4000 1 t117 t120 _ ?side1 ?side2 ?side3 ?side4 A3.out).mono ?_); (case side1 => refine (Kd.R_reads' (e := 29) (base := w.heap.size) (ok := fun k_ => True) (n := t108.length) (c := co20) ?_).2.2; exact zq17); (case side2 => exact (Kd.R_reads' HO110.out).2.1); (case side3 => refine (Kd.R_reads' (e := 24) (base := w.heap.size) (ok := fun k_ => (True ∧ k_ ≠ gb107)) (n := t113.length) (c := co23) ?_).2.2; exact (by (with_reducible repeat (first | apply zRa | apply zRn | apply zRd)); exact (Kd.R_mono (Kd.R_far (p := ⟨gb116, 2, none⟩) (Kd.R_far (p := ⟨gb116, 1, none⟩) (Kd.R_far (p := ⟨gb116, 0, none⟩) (Kd.R_types HO115.out BK116.out (by decide)) (fun _ hk => hk.2) (.slice Ao20 t108.length co20)) (fun _ hk => hk.2) (.int .i64 t111)) (fun _ hk => hk.2) (.int .i64 t112)) (fun _ h_ => h_.1)))); (case side4 => exact (Kd.R_reads' HO115.out).2.1); rintro e w24 ⟨v118, rfl, ho0, hb⟩; refine ⟨_, rfl, ?_⟩; have n0_ := zam (Kd.R_below (by (with_reducible repeat (first | apply zRa | apply zRn | apply zRd)); exact (Kd.R_mono (Kd.R_far (p := ⟨gb116, 2, none⟩) (Kd.R_far (p := ⟨gb116, 1, none⟩) (Kd.R_far (p := ⟨gb116, 0, none⟩) (Kd.R_types HO103.out BK116.out (by decide)) (fun _ hk => hk.2) (.slice Ao20 t108.length co20)) (fun _ hk => hk.2) (.int .i64 t111)) (fun _ hk => hk.2) (.int .i64 t112)) (fun _ h_ => h_.1))) hb); have n1_ := zam (Kd.R_elder' zq17 (Kd.R_base ho0) hb); have n2_ := zam (Kd.R_below (by (with_reducible repeat (first | apply zRa | apply zRn | apply zRd)); exact (Kd.R_mono (Kd.R_far (p := ⟨gb116, 2, none⟩) (Kd.R_far (p := ⟨gb116, 1, none⟩) (Kd.R_far (p := ⟨gb116, 0, none⟩) (Kd.R_types HO115.out BK116.out (by decide)) (fun _ hk => hk.2) (.slice Ao20 t108.length co20)) (fun _ hk => hk.2) (.int .i64 t111)) (fun _ hk => hk.2) (.int .i64 t112)) (fun _ h_ => h_.1))) hb); have n3_ := zam (Kd.R_lower (Kd.R_new' ho0 (Kd.R_lt zq17)) (zbz zq19)); have n4_ := zam (zkb (g := gb107) (o := .cells #[.int .i64 t104, .int .i64 t105] 24 (0, 0)) (by (with_reducible repeat (first | refine zkn ?_ _ | refine zkd ?_ | refine zka ?_ _)); refine zkf ?_ NB107_116.out _; (with_reducible repeat (first | refine zkn ?_ _ | refine zkd ?_ | refine zka ?_ _)); refine zkf ?_ NB107_116.out _; (with_reducible repeat (first | refine zkn ?_ _ | refine zkd ?_ | refine zka ?_ _)); refine zkf ?_ NB107_116.out _; (with_reducible repeat (first | refine zkn ?_ _ | refine zkd ?_ | refine zka ?_ _)); exact BK107.out) hb); have n5_ := zam (zkb (g := gb116) (o := .cells #[.slice Ao20 t108.length co20, .int .i64 t111, .int .i64 t112] 26 (0, 0)) (by (with_reducible repeat (first | refine zkn ?_ _ | refine zkd ?_ | refine zka ?_ _)); refine blk_put (cs := #[.slice Ao20 t108.length co20, .int .i64 t111, .int .i64 0]) ?_ 2 _ rfl; (with_reducible repeat (first | refine zkn ?_ _ | refine zkd ?_ | refine zka ?_ _)); refine blk_put (cs := #[.slice Ao20 t108.length co20, .int .i64 0, .int .i64 0]) ?_ 1 _ rfl; (with_reducible repeat (first | refine zkn ?_ _ | refine zkd ?_ | refine zka ?_ _)); refine blk_put (cs := #[.slice none 0 0, .int .i64 0, .int .i64 0]) ?_ 0 _ rfl; (with_reducible repeat (first | refine zkn ?_ _ | refine zkd ?_ | refine zka ?_ _)); exact BK116.out) hb); have n6_ := zam (zbt zq19 hb); clear HO103; clear HO110; clear HO115; clear BK107; clear BK116; clear HB; have HO103 := n0_; have HO110 := n1_; have HO115 := n2_; have HO119 := n3_; have BK107 := n4_; have BK116 := n5_; have HB := n6_; clear n0_ n1_ n2_ n3_ n4_ n5_ n6_; (try clear hb); (try clear hb2); (try clear hk); (try clear hi); (try clear ho0)) | ((with_reducible refine zgc (f := 57) rfl ?_); refine goesL_ (some 31) rfl rfl Try.func57 (by kernel_rfl) rfl #[] rfl zq4 ?_; (with_reducible refine (isobathlaw07_Gauges.calls  t121 t124 t125 t126 _ A4.out).mono ?_); rintro e w25 ⟨v122, rfl, ho0, hb⟩; refine ⟨_, rfl, ?_⟩; have n0_ := zam (Kd.R_below zq25 hb); have n1_ := zam (Kd.R_below (by (with_reducible repeat (first | apply zRa | apply zRn | apply zRd)); exact HO110.out) hb); have n2_ := zam (Kd.R_below (by (with_reducible repeat (first | apply zRa | apply zRn | apply zRd)); exact HO115.out) hb); have n3_ := zam (Kd.R_below (by (with_reducible repeat (first | apply zRa | apply zRn | apply zRd)); exact HO119.out) hb); have n4_ := zam (Kd.N_lower (Kd.N_mono (ok' := fun k_ => some k_ ≠ (.slice Ao14 y101.length co14 : Value).ownBlock ∧ some k_ ≠ (.slice Ao20 t108.length co20 : Value).ownBlock ∧ some k_ ≠ (.slice Ao23 t113.length co23 : Value).ownBlock ∧ some k_ ≠ (v118 : Value).ownBlock ∧ k_ ≠ gb107 ∧ k_ ≠ gb116) ho0 (fun k_ hk_ => ⟨(Kd.fresh' (Kd.R_lt zq25) k_ hk_), (Kd.fresh' (Kd.R_lt (by (with_reducible repeat (first | apply zRa | apply zRn | apply zRd)); exact HO110.out)) k_ hk_), (Kd.fresh' (Kd.R_lt (by (with_reducible repeat (first | apply zRa | apply zRn | apply zRd)); exact HO115.out)) k_ hk_), (Kd.fresh' (Kd.R_lt (by (with_reducible repeat (first | apply zRa | apply zRn | apply zRd)); exact HO119.out)) k_ hk_), (Kd.freshB (g := gb107) (o := .cells #[.int .i64 t104, .int .i64 t105] 24 (0, 0)) zq18 k_ hk_), (Kd.freshB (g := gb116) (o := .cells #[.slice Ao20 t108.length co20, .int .i64 t111, .int .i64 t112] 26 (0, 0)) zq26 k_ hk_)⟩)) (zbz zq19)); have n5_ := zam (zkb (g := gb107) (o := .cells #[.int .i64 t104, .int .i64 t105] 24 (0, 0)) zq18 hb); have n6_ := zam (zkb (g := gb116) (o := .cells #[.slice Ao20 t108.length co20, .int .i64 t111, .int .i64 t112] 26 (0, 0)) zq26 hb); have n7_ := zam (zbt zq19 hb); clear HO103; clear HO110; clear HO115; clear HO119; clear BK107; clear BK116; clear HB; have HO103 := n0_; have HO110 := n1_; have HO115 := n2_; have HO119 := n3_; have HO123 := n4_; have BK107 := n5_; have BK116 := n6_; have HB := n7_; clear n0_ n1_ n2_ n3_ n4_ n5_ n6_ n7_; (try clear hb); (try clear hb2); (try clear hk); (try clear hi); (try clear ho0)) | ((with_reducible refine zgd (N := 8) rfl ?_); (try (refine gate_guard (by rfl) ?_; dsimp only)); refine box_event ?hg (N := 8) ?hd (cs := #[.int .i64 0, .int .i64 0, .int .i64 0]) (t := 39) ?hr ?_; (case hd => rfl); (case hg => rfl); (case hr => first | (go_simp; done) | (go_simp; rfl)); intro gb127 hg w26 hbox hb; have n0_ := zam (Kd.R_below zq25 hb); have n1_ := zam (Kd.R_below (by (with_reducible repeat (first | apply zRa | apply zRn | apply zRd)); exact HO110.out) hb); have n2_ := zam (Kd.R_below (by (with_reducible repeat (first | apply zRa | apply zRn | apply zRd)); exact HO115.out) hb); have n3_ := zam (Kd.R_below (by (with_reducible repeat (first | apply zRa | apply zRn | apply zRd)); exact HO119.out) hb); have n4_ := zam (Kd.N_below (Kd.N_elderB (by (with_reducible repeat (first | apply Kd.N_alloc | apply Kd.N_drewN | apply Kd.N_drew)); exact HO123.out) gb127 (Nat.le_of_eq hg.symm)) hb); have n5_ := zam (zkb (g := gb107) (o := .cells #[.int .i64 t104, .int .i64 t105] 24 (0, 0)) zq18 hb); have n6_ := zam (zkb (g := gb116) (o := .cells #[.slice Ao20 t108.length co20, .int .i64 t111, .int .i64 t112] 26 (0, 0)) zq26 hb); have n7_ := zam (zbt zq19 hb); have n8_ := zam (hbox); have n9_ := zam ((by rw [hg]; exact (zbz zq19) : w.heap.size ≤ gb127)); have n10_ := zam ((by rw [hg]; exact (zbz zq19) : w.heap.size ≤ gb127)); have n11_ := zam ((by rw [hg]; exact Nat.ne_of_lt (blk_lt (g := gb107) (o := .cells #[.int .i64 t104, .int .i64 t105] 24 (0, 0)) zq18) : gb107 ≠ gb127)); have n12_ := zam ((by rw [hg]; exact Nat.ne_of_gt (blk_lt (g := gb107) (o := .cells #[.int .i64 t104, .int .i64 t105] 24 (0, 0)) zq18) : gb127 ≠ gb107)); have n13_ := zam ((by rw [hg]; exact Nat.ne_of_lt (blk_lt (g := gb116) (o := .cells #[.slice Ao20 t108.length co20, .int .i64 t111, .int .i64 t112] 26 (0, 0)) zq26) : gb116 ≠ gb127)); have n14_ := zam ((by rw [hg]; exact Nat.ne_of_gt (blk_lt (g := gb116) (o := .cells #[.slice Ao20 t108.length co20, .int .i64 t111, .int .i64 t112] 26 (0, 0)) zq26) : gb127 ≠ gb116)); clear HO103; clear HO110; clear HO115; clear HO119; clear HO123; clear BK107; clear BK116; clear HB; have HO103 := n0_; have HO110 := n1_; have HO115 := n2_; have HO119 := n3_; have HO123 := n4_; have BK107 := n5_; have BK116 := n6_; have HB := n7_; have BK127 := n8_; have GW127 := n9_; have GE127 := n10_; have NB107_127 := n11_; have NB127_107 := n12_; have NB116_127 := n13_; have NB127_116 := n14_; clear n0_ n1_ n2_ n3_ n4_ n5_ n6_ n7_ n8_ n9_ n10_ n11_ n12_ n13_ n14_; clear hb hbox hg; have hnb27 := NB127_107.out; have hnc27 := NB107_127.out; have hnb28 := NB127_116.out; have hnc28 := NB116_127.out; have hcz29_0 : w26.cell? ⟨gb127, 0, none⟩ = some (.int .i64 0) := (zkc BK127.out 0).trans rfl; have hcz29_1 : w26.cell? ⟨gb127, 1, none⟩ = some (.int .i64 0) := (zkc BK127.out 1).trans rfl; have hcz29_2 : w26.cell? ⟨gb127, 2, none⟩ = some (.int .i64 0) := (zkc BK127.out 2).trans rfl; have hfz29_0 := zkz BK127.out 0; have hfz29_1 := zkz BK127.out 1; have hfz29_2 := zkz BK127.out 2; obtain ⟨Ao30, co30, eo30⟩ := Kd.N_slice HO123.out; subst eo30) | ((with_reducible refine zgc (f := 23) rfl ?_); refine goesL_ (some 37) rfl rfl Try.func23 (by kernel_rfl) rfl #[.slice Ao30 t121.length co30, .agg #[.int .i64 t124, .int .i64 t125, .int .i64 t126]] rfl zq4 ?_; (with_reducible refine (sound_First.calls k _ _ t121 t124 t125 t126 t128 t129 t130 _ ?side1 ?side2 A5.out).mono ?_); (case side1 => refine (Kd.N_reads' (e := 45) (base := w.heap.size) (ok := fun k_ => ((some k_ ≠ (.slice Ao14 y101.length co14 : Value).ownBlock ∧ (some k_ ≠ (.slice Ao20 t108.length co20 : Value).ownBlock ∧ (some k_ ≠ (.slice Ao23 t113.length co23 : Value).ownBlock ∧ (some k_ ≠ (v118 : Value).ownBlock ∧ (k_ ≠ gb107 ∧ k_ ≠ gb116))))) ∧ k_ ≠ gb127)) (n := t121.length) (c := co30) ?_).2.2; exact (by (with_reducible repeat (first | apply Kd.N_alloc | apply Kd.N_drewN | apply Kd.N_drew)); exact (Kd.N_mono (Kd.N_far (p := ⟨gb127, 2, none⟩) (Kd.N_far (p := ⟨gb127, 1, none⟩) (Kd.N_far (p := ⟨gb127, 0, none⟩) (Kd.N_mono HO123.out (fun k_ hk => (⟨hk, hk.2⟩ : _ ∧ k_ ≠ gb127))) (fun _ hk => hk.2) (.int .i64 t124)) (fun _ hk => hk.2) (.int .i64 t125)) (fun _ hk => hk.2) (.int .i64 t126)) (fun _ h_ => h_.1)))); (case side2 => exact (Kd.N_reads' HO123.out).2.1); rintro e w31 ⟨rfl, hb⟩; refine ⟨_, rfl, ?_⟩; have n0_ := zam (Kd.R_below (by (with_reducible repeat (first | apply zRa | apply zRn | apply zRd)); exact (Kd.R_mono (Kd.R_far (p := ⟨gb127, 2, none⟩) (Kd.R_far (p := ⟨gb127, 1, none⟩) (Kd.R_far (p := ⟨gb127, 0, none⟩) (Kd.R_types HO103.out BK127.out (by decide)) (fun _ hk => hk.2) (.int .i64 t124)) (fun _ hk => hk.2) (.int .i64 t125)) (fun _ hk => hk.2) (.int .i64 t126)) (fun _ h_ => h_.1))) hb); have n1_ := zam (Kd.R_below (by (with_reducible repeat (first | apply zRa | apply zRn | apply zRd)); exact (Kd.R_mono (Kd.R_far (p := ⟨gb127, 2, none⟩) (Kd.R_far (p := ⟨gb127, 1, none⟩) (Kd.R_far (p := ⟨gb127, 0, none⟩) (Kd.R_types HO110.out BK127.out (by decide)) (fun _ hk => hk.2) (.int .i64 t124)) (fun _ hk => hk.2) (.int .i64 t125)) (fun _ hk => hk.2) (.int .i64 t126)) (fun _ h_ => h_.1))) hb); have n2_ := zam (Kd.R_below (by (with_reducible repeat (first | apply zRa | apply zRn | apply zRd)); exact (Kd.R_mono (Kd.R_far (p := ⟨gb127, 2, none⟩) (Kd.R_far (p := ⟨gb127, 1, none⟩) (Kd.R_far (p := ⟨gb127, 0, none⟩) (Kd.R_types HO115.out BK127.out (by decide)) (fun _ hk => hk.2) (.int .i64 t124)) (fun _ hk => hk.2) (.int .i64 t125)) (fun _ hk => hk.2) (.int .i64 t126)) (fun _ h_ => h_.1))) hb); have n3_ := zam (Kd.R_below (by (with_reducible repeat (first | apply zRa | apply zRn | apply zRd)); exact (Kd.R_mono (Kd.R_far (p := ⟨gb127, 2, none⟩) (Kd.R_far (p := ⟨gb127, 1, none⟩) (Kd.R_far (p := ⟨gb127, 0, none⟩) (Kd.R_types HO119.out BK127.out (by decide)) (fun _ hk => hk.2) (.int .i64 t124)) (fun _ hk => hk.2) (.int .i64 t125)) (fun _ hk => hk.2) (.int .i64 t126)) (fun _ h_ => h_.1))) hb); have n4_ := zam (Kd.N_below (by (with_reducible repeat (first | apply Kd.N_alloc | apply Kd.N_drewN | apply Kd.N_drew)); exact (Kd.N_mono (Kd.N_far (p := ⟨gb127, 2, none⟩) (Kd.N_far (p := ⟨gb127, 1, none⟩) (Kd.N_far (p := ⟨gb127, 0, none⟩) (Kd.N_mono HO123.out (fun k_ hk => (⟨hk, hk.2⟩ : _ ∧ k_ ≠ gb127))) (fun _ hk => hk.2) (.int .i64 t124)) (fun _ hk => hk.2) (.int .i64 t125)) (fun _ hk => hk.2) (.int .i64 t126)) (fun _ h_ => h_.1))) hb); have n5_ := zam (zkb (g := gb107) (o := .cells #[.int .i64 t104, .int .i64 t105] 24 (0, 0)) (by (with_reducible repeat (first | refine zkn ?_ _ | refine zkd ?_ | refine zka ?_ _)); refine zkf ?_ NB107_127.out _; (with_reducible repeat (first | refine zkn ?_ _ | refine zkd ?_ | refine zka ?_ _)); refine zkf ?_ NB107_127.out _; (with_reducible repeat (first | refine zkn ?_ _ | refine zkd ?_ | refine zka ?_ _)); refine zkf ?_ NB107_127.out _; (with_reducible repeat (first | refine zkn ?_ _ | refine zkd ?_ | refine zka ?_ _)); exact BK107.out) hb); have n6_ := zam (zkb (g := gb116) (o := .cells #[.slice Ao20 t108.length co20, .int .i64 t111, .int .i64 t112] 26 (0, 0)) (by (with_reducible repeat (first | refine zkn ?_ _ | refine zkd ?_ | refine zka ?_ _)); refine zkf ?_ NB116_127.out _; (with_reducible repeat (first | refine zkn ?_ _ | refine zkd ?_ | refine zka ?_ _)); refine zkf ?_ NB116_127.out _; (with_reducible repeat (first | refine zkn ?_ _ | refine zkd ?_ | refine zka ?_ _)); refine zkf ?_ NB116_127.out _; (with_reducible repeat (first | refine zkn ?_ _ | refine zkd ?_ | refine zka ?_ _)); exact BK116.out) hb); have n7_ := zam (zkb (g := gb127) (o := .cells #[.int .i64 t124, .int .i64 t125, .int .i64 t126] 39 (0, 0)) (by (with_reducible repeat (first | refine zkn ?_ _ | refine zkd ?_ | refine zka ?_ _)); refine blk_put (cs := #[.int .i64 t124, .int .i64 t125, .int .i64 0]) ?_ 2 _ rfl; (with_reducible repeat (first | refine zkn ?_ _ | refine zkd ?_ | refine zka ?_ _)); refine blk_put (cs := #[.int .i64 t124, .int .i64 0, .int .i64 0]) ?_ 1 _ rfl; (with_reducible repeat (first | refine zkn ?_ _ | refine zkd ?_ | refine zka ?_ _)); refine blk_put (cs := #[.int .i64 0, .int .i64 0, .int .i64 0]) ?_ 0 _ rfl; (with_reducible repeat (first | refine zkn ?_ _ | refine zkd ?_ | refine zka ?_ _)); exact BK127.out) hb); have n8_ := zam (zbt (by repeat (first | (with_reducible first | exact HB.out | apply zba | apply zbn | apply zb1 | refine zbs ?_ GE107.out | refine zbs ?_ GE116.out | refine zbs ?_ GE127.out) | exact HB.out)) hb); clear HO103; clear HO110; clear HO115; clear HO119; clear HO123; clear BK107; clear BK116; clear BK127; clear HB; have HO103 := n0_; have HO110 := n1_; have HO115 := n2_; have HO119 := n3_; have HO123 := n4_; have BK107 := n5_; have BK116 := n6_; have BK127 := n7_; have HB := n8_; clear n0_ n1_ n2_ n3_ n4_ n5_ n6_ n7_ n8_; (try clear hb); (try clear hb2); (try clear hk); (try clear hi); have hcz32_0 : w31.cell? ⟨gb107, 0, none⟩ = some (.int .i64 t104) := (zkc BK107.out 0).trans rfl; have hcz32_1 : w31.cell? ⟨gb107, 1, none⟩ = some (.int .i64 t105) := (zkc BK107.out 1).trans rfl; have hfz32_0 := zkz BK107.out 0; have hfz32_1 := zkz BK107.out 1; obtain ⟨Ao33, co33, eo33⟩ := Kd.R_slice HO119.out; subst eo33; have p131 : 0 ≤ (0 : Int) := (by omega); have q131 : 0 < (t117.length : Int) := zod zq8; obtain ⟨ad131, e131, hx131_0, hx131_1, hx131_2, hx131_3⟩ := at_T29 (Kd.R_reads' HO119.out).2.2 0 p131 q131; cases e131; have qi131 : (0 < t117.length) = True := eq_true (by omega); (try rw [show ((0 : Int)).toNat = 0 from rfl] at hx131_0); (try rw [show 0 * 4 = 0 from rfl] at hx131_0); (try rw [Addr.add_zero'] at hx131_0); (try rw [show ((0 : Int)).toNat = 0 from rfl] at hx131_1); (try rw [show 0 * 4 = 0 from rfl] at hx131_1); (try rw [Addr.add_zero'] at hx131_1); (try rw [show ((0 : Int)).toNat = 0 from rfl] at hx131_2); (try rw [show 0 * 4 = 0 from rfl] at hx131_2); (try rw [Addr.add_zero'] at hx131_2); (try rw [show ((0 : Int)).toNat = 0 from rfl] at hx131_3); (try rw [show 0 * 4 = 0 from rfl] at hx131_3); (try rw [Addr.add_zero'] at hx131_3); replace p131 := eq_true p131; replace q131 := eq_true q131))
 go_ret
 exact ⟨by first | rfl | (simp [errW_none, errW_some] <;> rfl) | (simp [*, errW_none, errW_some] <;> rfl), by repeat (first | (with_reducible first | exact HB.out | apply zba | apply zbn | apply zb1 | refine zbs ?_ GE107.out | refine zbs ?_ GE116.out | refine zbs ?_ GE127.out) | exact HB.out)⟩
end Go.Proofs.Ytaheamdoldiojaa.P
namespace Go.Proofs.Ytaheamdoldiojaa.P
open Go.RowKit Go.Proofs.YtaheamdoldiojaaW.PrintWords Go.Proofs.YtaheamdoldiojaaW.PrintLast Go.Proofs.YtaheamdoldiojaaW.PrintMore
attribute [local go_sem] max2_int min2_int max_two min_two max_three min_three max_four min_four   -- for this text's walks alone
set_option linter.unusedVariables false
set_option linter.unusedSimpArgs false
def isobathlaw07_inside.f (a0_0 : Int) (a0_1 : Int) (a0_2 : Int) (a0_3 : Int) (a1 : Int) (a2 : Int) : Option (Bool) := if a0_0 ≤ a1 then (if a1 ≤ a0_1 then (if a0_2 ≤ a2 then (some (decide (a2 ≤ a0_3))) else (some false)) else (some false)) else (some false)
set_option maxHeartbeats 8000000 in
set_option maxRecDepth 100000 in
theorem isobathlaw07_inside.calls (a0_0 : Int) (a0_1 : Int) (a0_2 : Int) (a0_3 : Int) (a1 : Int) (a2 : Int) (r : Bool) (w : World) (h : isobathlaw07_inside.f a0_0 a0_1 a0_2 a0_3 a1 a2 = some r) :
  Calls Try.prog 27 #[.agg #[.int .i64 a0_0, .int .i64 a0_1, .int .i64 a0_2, .int .i64 a0_3], .int .i64 a1, .int .i64 a2] w fun e w' => e = .returned (.bool r) ∧ Below w.heap.size w w' := by
 have hu29 := Try.underlying29
 have HB := zam (Below.refl w.heap.size w)
 have H : (if a0_0 ≤ a1 then (if a1 ≤ a0_1 then (if a0_2 ≤ a2 then (some (decide (a2 ≤ a0_3))) else (some false)) else (some false)) else (some false)) = some r := h
 clear h
 by_cases c4 : a0_0 ≤ a1
 ·rw [if_pos c4] at H
  have c4b0 : decide (a0_0 ≤ a1) = true := zdt c4
  clear c4
  by_cases c5 : a1 ≤ a0_1
  ·rw [if_pos c5] at H
   have c5b0 : decide (a1 ≤ a0_1) = true := zdt c5
   clear c5
   by_cases c6 : a0_2 ≤ a2
   ·rw [if_pos c6] at H
    have c6b0 : decide (a0_2 ≤ a2) = true := zdt c6
    clear c6
    obtain rfl := zsi H
    go_enter Try.func27, Try.ntmps27
    go_wp2_with (first | ((with_reducible refine zgd (N := 3) rfl ?_); refine box_event ?hg (N := 3) ?hd (cs := #[.int .i64 a0_0, .int .i64 a0_1, .int .i64 a0_2, .int .i64 a0_3]) (t := 29) ?hr ?_; (case hd => rfl); (case hg => rfl); (case hr => first | (go_simp; done) | (go_simp; rfl)); intro gb101 hg w7 hbox hb; have n0_ := zam (zbt zq1 hb); have n1_ := zam (hbox); have n2_ := zam ((by rw [hg]; exact (zbz zq1) : w.heap.size ≤ gb101)); have n3_ := zam ((by rw [hg]; exact (zbz zq1) : w.heap.size ≤ gb101)); clear HB; have HB := n0_; have BK101 := n1_; have GW101 := n2_; have GE101 := n3_; clear n0_ n1_ n2_ n3_; clear hb hbox hg; have hcz8_0 : w7.cell? ⟨gb101, 0, none⟩ = some (.int .i64 a0_0) := (zkc BK101.out 0).trans rfl; have hcz8_1 : w7.cell? ⟨gb101, 1, none⟩ = some (.int .i64 a0_1) := (zkc BK101.out 1).trans rfl; have hcz8_2 : w7.cell? ⟨gb101, 2, none⟩ = some (.int .i64 a0_2) := (zkc BK101.out 2).trans rfl; have hcz8_3 : w7.cell? ⟨gb101, 3, none⟩ = some (.int .i64 a0_3) := (zkc BK101.out 3).trans rfl; have hfz8_0 := zkz BK101.out 0; have hfz8_1 := zkz BK101.out 1; have hfz8_2 := zkz BK101.out 2; have hfz8_3 := zkz BK101.out 3))
    go_ret
    exact ⟨by first | rfl | (simp [errW_none, errW_some] <;> rfl) | (simp [*, errW_none, errW_some] <;> rfl), by repeat (first | (with_reducible first | exact HB.out | apply zba | apply zbn | apply zb1 | refine zbs ?_ GE101.out) | exact HB.out)⟩
   rw [if_neg c6] at H
   have c6b0 : decide (a0_2 ≤ a2) = false := zdf c6
   clear c6
   obtain rfl := zsi H
   go_enter Try.func27, Try.ntmps27
   go_wp2_with (first | ((with_reducible refine zgd (N := 3) rfl ?_); refine box_event ?hg (N := 3) ?hd (cs := #[.int .i64 a0_0, .int .i64 a0_1, .int .i64 a0_2, .int .i64 a0_3]) (t := 29) ?hr ?_; (case hd => rfl); (case hg => rfl); (case hr => first | (go_simp; done) | (go_simp; rfl)); intro gb101 hg w9 hbox hb; have n0_ := zam (zbt zq1 hb); have n1_ := zam (hbox); have n2_ := zam ((by rw [hg]; exact (zbz zq1) : w.heap.size ≤ gb101)); have n3_ := zam ((by rw [hg]; exact (zbz zq1) : w.heap.size ≤ gb101)); clear HB; have HB := n0_; have BK101 := n1_; have GW101 := n2_; have GE101 := n3_; clear n0_ n1_ n2_ n3_; clear hb hbox hg; have hcz10_0 : w9.cell? ⟨gb101, 0, none⟩ = some (.int .i64 a0_0) := (zkc BK101.out 0).trans rfl; have hcz10_1 : w9.cell? ⟨gb101, 1, none⟩ = some (.int .i64 a0_1) := (zkc BK101.out 1).trans rfl; have hcz10_2 : w9.cell? ⟨gb101, 2, none⟩ = some (.int .i64 a0_2) := (zkc BK101.out 2).trans rfl; have hcz10_3 : w9.cell? ⟨gb101, 3, none⟩ = some (.int .i64 a0_3) := (zkc BK101.out 3).trans rfl; have hfz10_0 := zkz BK101.out 0; have hfz10_1 := zkz BK101.out 1; have hfz10_2 := zkz BK101.out 2; have hfz10_3 := zkz BK101.out 3))
   go_ret
   exact ⟨by first | rfl | (simp [errW_none, errW_some] <;> rfl) | (simp [*, errW_none, errW_some] <;> rfl), by repeat (first | (with_reducible first | exact HB.out | apply zba | apply zbn | apply zb1 | refine zbs ?_ GE101.out) | exact HB.out)⟩
  rw [if_neg c5] at H
  have c5b0 : decide (a1 ≤ a0_1) = false := zdf c5
  clear c5
  obtain rfl := zsi H
  go_enter Try.func27, Try.ntmps27
  go_wp2_with (first | ((with_reducible refine zgd (N := 3) rfl ?_); refine box_event ?hg (N := 3) ?hd (cs := #[.int .i64 a0_0, .int .i64 a0_1, .int .i64 a0_2, .int .i64 a0_3]) (t := 29) ?hr ?_; (case hd => rfl); (case hg => rfl); (case hr => first | (go_simp; done) | (go_simp; rfl)); intro gb101 hg w11 hbox hb; have n0_ := zam (zbt zq1 hb); have n1_ := zam (hbox); have n2_ := zam ((by rw [hg]; exact (zbz zq1) : w.heap.size ≤ gb101)); have n3_ := zam ((by rw [hg]; exact (zbz zq1) : w.heap.size ≤ gb101)); clear HB; have HB := n0_; have BK101 := n1_; have GW101 := n2_; have GE101 := n3_; clear n0_ n1_ n2_ n3_; clear hb hbox hg; have hcz12_0 : w11.cell? ⟨gb101, 0, none⟩ = some (.int .i64 a0_0) := (zkc BK101.out 0).trans rfl; have hcz12_1 : w11.cell? ⟨gb101, 1, none⟩ = some (.int .i64 a0_1) := (zkc BK101.out 1).trans rfl; have hcz12_2 : w11.cell? ⟨gb101, 2, none⟩ = some (.int .i64 a0_2) := (zkc BK101.out 2).trans rfl; have hcz12_3 : w11.cell? ⟨gb101, 3, none⟩ = some (.int .i64 a0_3) := (zkc BK101.out 3).trans rfl; have hfz12_0 := zkz BK101.out 0; have hfz12_1 := zkz BK101.out 1; have hfz12_2 := zkz BK101.out 2; have hfz12_3 := zkz BK101.out 3))
  go_ret
  exact ⟨by first | rfl | (simp [errW_none, errW_some] <;> rfl) | (simp [*, errW_none, errW_some] <;> rfl), by repeat (first | (with_reducible first | exact HB.out | apply zba | apply zbn | apply zb1 | refine zbs ?_ GE101.out) | exact HB.out)⟩
 rw [if_neg c4] at H
 have c4b0 : decide (a0_0 ≤ a1) = false := zdf c4
 clear c4
 obtain rfl := zsi H
 go_enter Try.func27, Try.ntmps27
 go_wp2_with (first | ((with_reducible refine zgd (N := 3) rfl ?_); refine box_event ?hg (N := 3) ?hd (cs := #[.int .i64 a0_0, .int .i64 a0_1, .int .i64 a0_2, .int .i64 a0_3]) (t := 29) ?hr ?_; (case hd => rfl); (case hg => rfl); (case hr => first | (go_simp; done) | (go_simp; rfl)); intro gb101 hg w13 hbox hb; have n0_ := zam (zbt zq1 hb); have n1_ := zam (hbox); have n2_ := zam ((by rw [hg]; exact (zbz zq1) : w.heap.size ≤ gb101)); have n3_ := zam ((by rw [hg]; exact (zbz zq1) : w.heap.size ≤ gb101)); clear HB; have HB := n0_; have BK101 := n1_; have GW101 := n2_; have GE101 := n3_; clear n0_ n1_ n2_ n3_; clear hb hbox hg; have hcz14_0 : w13.cell? ⟨gb101, 0, none⟩ = some (.int .i64 a0_0) := (zkc BK101.out 0).trans rfl; have hcz14_1 : w13.cell? ⟨gb101, 1, none⟩ = some (.int .i64 a0_1) := (zkc BK101.out 1).trans rfl; have hcz14_2 : w13.cell? ⟨gb101, 2, none⟩ = some (.int .i64 a0_2) := (zkc BK101.out 2).trans rfl; have hcz14_3 : w13.cell? ⟨gb101, 3, none⟩ = some (.int .i64 a0_3) := (zkc BK101.out 3).trans rfl; have hfz14_0 := zkz BK101.out 0; have hfz14_1 := zkz BK101.out 1; have hfz14_2 := zkz BK101.out 2; have hfz14_3 := zkz BK101.out 3))
 go_ret
 exact ⟨by first | rfl | (simp [errW_none, errW_some] <;> rfl) | (simp [*, errW_none, errW_some] <;> rfl), by repeat (first | (with_reducible first | exact HB.out | apply zba | apply zbn | apply zb1 | refine zbs ?_ GE101.out) | exact HB.out)⟩
def isobathlaw07_pick.f (l0 : List Int) (a1 : Int) : Option (Int) := if a1 < (l0.length : Int) then (if 0 ≤ a1 then (some (rd l0 a1)) else (none)) else (some 0)
set_option maxHeartbeats 8000000 in
set_option maxRecDepth 100000 in
theorem isobathlaw07_pick.calls (A0 : Option Addr) (c0 : Nat) (l0 : List Int) (a1 : Int) (r : Int) (w : World) (hr0 : Kd.C (Kd.int .u16) w A0 l0.length l0) (hc0 : l0.length ≤ c0) (h : isobathlaw07_pick.f l0 a1 = some r) :
  Calls Try.prog 20 #[.slice A0 l0.length c0, .int .i64 a1] w fun e w' => e = .returned (.int .u16 r) ∧ Drawn0 w w' := by
 have HR0 := zam hr0
 have HC0 := zam hc0
 clear hr0 hc0
 have H : (if a1 < (l0.length : Int) then (if 0 ≤ a1 then (some (rd l0 a1)) else (none)) else (some 0)) = some r := h
 clear h
 by_cases c3 : a1 < (l0.length : Int)
 ·rw [if_pos c3] at H
  have c3b0 : decide (a1 < (l0.length : Int)) = true := zdt c3
  clear c3
  by_cases c4 : 0 ≤ a1
  ·rw [if_pos c4] at H
   have c4b0 : decide (0 ≤ a1) = true := zdt c4
   clear c4
   obtain rfl := zsi H
   have p101 : 0 ≤ (a1 : Int) := zod zq8
   have q101 : a1 < (l0.length : Int) := zod zq8
   obtain ⟨ad101, e101, hx101_0⟩ := Kd.at_int HR0.out a1 p101 q101
   cases e101
   replace p101 := eq_true p101
   replace q101 := eq_true q101
   go_enter Try.func20, Try.ntmps20
   go_wp2
   go_ret
   exact ⟨by first | rfl | (simp; done) | (simp [*]; done), by repeat (first | exact Drawn0.refl _ | apply Drawn0.step)⟩
  rw [if_neg c4] at H
  exact absurd H (by simp)
 rw [if_neg c3] at H
 have c3b0 : decide (a1 < (l0.length : Int)) = false := zdf c3
 clear c3
 obtain rfl := zsi H
 go_enter Try.func20, Try.ntmps20
 go_wp2
 go_ret
 exact ⟨by first | rfl | (simp; done) | (simp [*]; done), by repeat (first | exact Drawn0.refl _ | apply Drawn0.step)⟩
def isobathlaw07_truth.l0 : Nat → Int → Int → Int → Int → List Int → List (S24) → Int → List (S29) → Int → Int → Option ((List (S24)))
 | 0, _, _, _, _, _, _, _, _, _, _ => none
 | k + 1, x1, x2, x3, x4, x5, x13, x14, x102000, x102001, x102002 => if x14 < (x102000.length : Int) then (if 0 ≤ x14 then ((isobathlaw07_pick.f x5 (wrap64 (4 * x14))).bind fun t104 => ((isobathlaw01_Part.f ((rd_T29 x102000 x14).f0.f0) ((rd_T29 x102000 x14).f0.f1) t104).bind fun t105 => ((isobathlaw07_pick.f x5 (wrap64 ((wrap64 (4 * x14)) + 1))).bind fun t106 => ((isobathlaw01_Part.f ((rd_T29 x102000 x14).f1.f0) ((rd_T29 x102000 x14).f1.f1) t106).bind fun t107 => ((isobathref01_Sqrt.f k (wrap64 ((wrap64 ((wrap64 (t105 - x1)) * (wrap64 (t105 - x1)))) + (wrap64 ((wrap64 (t107 - x2)) * (wrap64 (t107 - x2))))))).bind fun t108 => ((isobathref01_Down.f k (wrap64 (1000 * t108)) x4).bind fun t109 => ((isobathref01_SqrtUp.f k (wrap64 ((wrap64 ((wrap64 (t105 - x1)) * (wrap64 (t105 - x1)))) + (wrap64 ((wrap64 (t107 - x2)) * (wrap64 (t107 - x2))))))).bind fun t110 => ((isobathref01_Up.f k (wrap64 (1000 * t110)) x4).bind fun t111 => ((isobathlaw07_pick.f x5 (wrap64 ((wrap64 (4 * x14)) + 2))).bind fun t112 => ((isobathlaw07_pick.f x5 (wrap64 ((wrap64 (4 * x14)) + 3))).bind fun t113 => (if x13.length < 8796093022208 then (isobathlaw07_truth.l0 k x1 x2 x3 x4 x5 (x13 ++ [(⟨wrap64 ((wrap64 (x3 + t109)) - (wrap64 (Int.tmod t112 100))), wrap64 ((wrap64 (x3 + t111)) + (wrap64 (Int.tmod t113 100)))⟩ : S24)]) (wrap64 (x14 + 1)) x102000 x102001 x102002) else (none)))))))))))) else (none)) else (some x13)
def isobathlaw07_truth.f (k : Nat) (l0_0 : List (S29)) (a0_1 : Int) (a0_2 : Int) (a1 : Int) (a2 : Int) (a3 : Int) (a4 : Int) (l5 : List Int) : Option ((List (S24))) := isobathlaw07_truth.l0 k a1 a2 a3 a4 l5 ([] : List (S24)) 0 l0_0 a0_1 a0_2
def isobathlaw07_truth.T6 : Bool × List (List Nat × List Nat) := (true, [([], []), ([0], [0]), ([], []), ([], []), ([3], [3]), ([2, 4], [2, 4]), ([1, 5, 5], [1, 5]), ([], []), ([6, 7], [6, 7]), ([], []), ([9], [9]), ([], []), ([], []), ([12], [12]), ([13], [13]), ([11, 14, 6], [11, 14]), ([10, 15, 15], [10, 15]), ([], []), ([16, 17], [16, 17]), ([8, 16, 0, 1, 2, 3, 4, 5, 6, 7, 8], [8]), ([18, 19, 0, 1, 2, 3, 4, 5, 6, 7, 8, 9, 10, 11, 12, 13, 14, 15, 16, 17, 18, 19], [18])])
def isobathlaw07_truth.B6 : List Nat := [0, 1, 0, 0, 8, 28, 63, 0, 255, 0, 512, 0, 0, 4096, 12288, 30847, 65151, 0, 261759, 131071, 1048575]
theorem isobathlaw07_truth.tab6 : rtab .any (opsOf Try.f26 6) = isobathlaw07_truth.T6 := by kernel_rfl
theorem isobathlaw07_truth.bits6 : waitsOk isobathlaw07_truth.T6.2 isobathlaw07_truth.B6 = true := by kernel_rfl
set_option maxHeartbeats 8000000 in
set_option maxRecDepth 100000 in
theorem isobathlaw07_truth.calls (k : Nat) (A0_0 : Option Addr) (c0_0 : Nat) (l0_0 : List (S29)) (a0_1 : Int) (a0_2 : Int) (a1 : Int) (a2 : Int) (a3 : Int) (a4 : Int) (A5 : Option Addr) (c5 : Nat) (l5 : List Int) (r : List (S24)) (w : World) (hr0_0 : Kd.C k29 w A0_0 l0_0.length l0_0) (hc0_0 : l0_0.length ≤ c0_0) (hr5 : Kd.C (Kd.int .u16) w A5 l5.length l5) (hc5 : l5.length ≤ c5) (h : isobathlaw07_truth.f k l0_0 a0_1 a0_2 a1 a2 a3 a4 l5 = some r) :
  Calls Try.prog 26 #[.agg #[.slice A0_0 l0_0.length c0_0, .int .i64 a0_1, .int .i64 a0_2], .int .i64 a1, .int .i64 a2, .int .i64 a3, .int .i64 a4, .slice A5 l5.length c5] w fun e w' => ∃ v0_ : Value, e = .returned (v0_) ∧ Kd.R k24 24 w' w.heap.size (fun _ => True) v0_ r ∧ Below w.heap.size w w' := by
 have hu26 := Try.underlying26
 have hu29 := Try.underlying29
 have hu24 := Try.underlying24
 have HR0_0 := zam hr0_0
 have HC0_0 := zam hc0_0
 clear hr0_0 hc0_0
 have HR5 := zam hr5
 have HC5 := zam hc5
 clear hr5 hc5
 have HB := zam (Below.refl w.heap.size w)
 have H : (isobathlaw07_truth.l0 k a1 a2 a3 a4 l5 ([] : List (S24)) 0 l0_0 a0_1 a0_2) = some r := h
 clear h
 have H' := zam H
 clear H
 go_enter Try.func26, Try.ntmps26
 go_wp2_with (first | ((with_reducible refine zgd (N := 6) rfl ?_); refine box_event ?hg (N := 6) ?hd (cs := #[.slice A0_0 l0_0.length c0_0, .int .i64 a0_1, .int .i64 a0_2]) (t := 26) ?hr ?_; (case hd => rfl); (case hg => rfl); (case hr => first | (go_simp; done) | (go_simp; rfl)); intro gb101 hg w7 hbox hb; have n0_ := zam (zbt zq1 hb); have n1_ := zam (hbox); have n2_ := zam ((by rw [hg]; exact (zbz zq1) : w.heap.size ≤ gb101)); have n3_ := zam ((by rw [hg]; exact (zbz zq1) : w.heap.size ≤ gb101)); clear HB; have HB := n0_; have BK101 := n1_; have GW101 := n2_; have GE101 := n3_; clear n0_ n1_ n2_ n3_; clear hb hbox hg))
 go_loopg [13, 14] k (fun kq v13 v14 w' => ∃ (x13_1 : List (S24)) (x14_1 : Int), v14 = .int .i64 x14_1 ∧ Aside0 (isobathlaw07_truth.l0 kq a1 a2 a3 a4 l5 x13_1 x14_1 l0_0 a0_1 a0_2 = some r) ∧ Aside0 (kq ≤ k) ∧ Aside0 (Kd.R k24 24 w' w.heap.size (fun _ => True) v13 x13_1) ∧ Aside0 (w'.heap[gb101]? = some (.cells #[(.slice A0_0 l0_0.length c0_0), .int .i64 a0_1, .int .i64 a0_2] 26 (0, 0))) ∧ Aside0 (Below w.heap.size w w'))
 case atStart => exact ⟨(([] : List (S24))), (0), zq9, H', ⟨Nat.le_refl _⟩, ⟨by first | exact Kd.R_nil _ _ _ _ _ | exact Kd.N_nil _ _ _ _ _ | exact Kd.V_nil _ _ _ _ _ | exact Kd.Q_nil _ _ _ _ _ | exact Kd.S_nil _ _ _ _ _⟩, ⟨by (with_reducible repeat (first | refine zkn ?_ _ | refine zkd ?_ | refine zka ?_ _)); exact BK101.out⟩, ⟨by repeat (first | (with_reducible first | exact HB.out | apply zba | apply zbn | apply zb1 | refine zbs ?_ GE101.out) | exact HB.out)⟩⟩
 case round =>
  clear H'
  try clear c2
  try clear p2
  try clear c5
  obtain ⟨x13_1, x14_1, rfl, HA, HK1, HO_13, BK101, HB⟩ := hrel
  cases gk with
  | zero => exact absurd HA.out (by simp [isobathlaw07_truth.l0])
  | succ k1 =>
   have H := HA.out
   clear HA
   simp only [isobathlaw07_truth.l0] at H
   by_cases c8 : x14_1 < (l0_0.length : Int)
   ·rw [if_pos c8] at H
    have c8b0 : decide (x14_1 < (l0_0.length : Int)) = true := zdt c8
    clear c8
    by_cases c9 : 0 ≤ x14_1
    ·rw [if_pos c9] at H
     have c9b0 : decide (0 ≤ x14_1) = true := zdt c9
     clear c9
     replace H := Option.bind_eq_some_iff.mp H
     obtain ⟨t104, A100, H⟩ := H
     replace H : ((isobathlaw01_Part.f ((rd_T29 l0_0 x14_1).f0.f0) ((rd_T29 l0_0 x14_1).f0.f1) t104).bind fun t105 => ((isobathlaw07_pick.f l5 (wrap64 ((wrap64 (4 * x14_1)) + 1))).bind fun t106 => ((isobathlaw01_Part.f ((rd_T29 l0_0 x14_1).f1.f0) ((rd_T29 l0_0 x14_1).f1.f1) t106).bind fun t107 => ((isobathref01_Sqrt.f k1 (wrap64 ((wrap64 ((wrap64 (t105 - a1)) * (wrap64 (t105 - a1)))) + (wrap64 ((wrap64 (t107 - a2)) * (wrap64 (t107 - a2))))))).bind fun t108 => ((isobathref01_Down.f k1 (wrap64 (1000 * t108)) a4).bind fun t109 => ((isobathref01_SqrtUp.f k1 (wrap64 ((wrap64 ((wrap64 (t105 - a1)) * (wrap64 (t105 - a1)))) + (wrap64 ((wrap64 (t107 - a2)) * (wrap64 (t107 - a2))))))).bind fun t110 => ((isobathref01_Up.f k1 (wrap64 (1000 * t110)) a4).bind fun t111 => ((isobathlaw07_pick.f l5 (wrap64 ((wrap64 (4 * x14_1)) + 2))).bind fun t112 => ((isobathlaw07_pick.f l5 (wrap64 ((wrap64 (4 * x14_1)) + 3))).bind fun t113 => (if x13_1.length < 8796093022208 then (isobathlaw07_truth.l0 k1 a1 a2 a3 a4 l5 (x13_1 ++ [(⟨wrap64 ((wrap64 (a3 + t109)) - (wrap64 (Int.tmod t112 100))), wrap64 ((wrap64 (a3 + t111)) + (wrap64 (Int.tmod t113 100)))⟩ : S24)]) (wrap64 (x14_1 + 1)) l0_0 a0_1 a0_2) else (none))))))))))) = some r := H
     have A10 := zam A100
     clear A100
     replace H := Option.bind_eq_some_iff.mp H
     obtain ⟨t105, A110, H⟩ := H
     replace H : ((isobathlaw07_pick.f l5 (wrap64 ((wrap64 (4 * x14_1)) + 1))).bind fun t106 => ((isobathlaw01_Part.f ((rd_T29 l0_0 x14_1).f1.f0) ((rd_T29 l0_0 x14_1).f1.f1) t106).bind fun t107 => ((isobathref01_Sqrt.f k1 (wrap64 ((wrap64 ((wrap64 (t105 - a1)) * (wrap64 (t105 - a1)))) + (wrap64 ((wrap64 (t107 - a2)) * (wrap64 (t107 - a2))))))).bind fun t108 => ((isobathref01_Down.f k1 (wrap64 (1000 * t108)) a4).bind fun t109 => ((isobathref01_SqrtUp.f k1 (wrap64 ((wrap64 ((wrap64 (t105 - a1)) * (wrap64 (t105 - a1)))) + (wrap64 ((wrap64 (t107 - a2)) * (wrap64 (t107 - a2))))))).bind fun t110 => ((isobathref01_Up.f k1 (wrap64 (1000 * t110)) a4).bind fun t111 => ((isobathlaw07_pick.f l5 (wrap64 ((wrap64 (4 * x14_1)) + 2))).bind fun t112 => ((isobathlaw07_pick.f l5 (wrap64 ((wrap64 (4 * x14_1)) + 3))).bind fun t113 => (if x13_1.length < 8796093022208 then (isobathlaw07_truth.l0 k1 a1 a2 a3 a4 l5 (x13_1 ++ [(⟨wrap64 ((wrap64 (a3 + t109)) - (wrap64 (Int.tmod t112 100))), wrap64 ((wrap64 (a3 + t111)) + (wrap64 (Int.tmod t113 100)))⟩ : S24)]) (wrap64 (x14_1 + 1)) l0_0 a0_1 a0_2) else (none)))))))))) = some r := H
     have A11 := zam A110
     clear A110
     replace H := Option.bind_eq_some_iff.mp H
     obtain ⟨t106, A120, H⟩ := H
     replace H : ((isobathlaw01_Part.f ((rd_T29 l0_0 x14_1).f1.f0) ((rd_T29 l0_0 x14_1).f1.f1) t106).bind fun t107 => ((isobathref01_Sqrt.f k1 (wrap64 ((wrap64 ((wrap64 (t105 - a1)) * (wrap64 (t105 - a1)))) + (wrap64 ((wrap64 (t107 - a2)) * (wrap64 (t107 - a2))))))).bind fun t108 => ((isobathref01_Down.f k1 (wrap64 (1000 * t108)) a4).bind fun t109 => ((isobathref01_SqrtUp.f k1 (wrap64 ((wrap64 ((wrap64 (t105 - a1)) * (wrap64 (t105 - a1)))) + (wrap64 ((wrap64 (t107 - a2)) * (wrap64 (t107 - a2))))))).bind fun t110 => ((isobathref01_Up.f k1 (wrap64 (1000 * t110)) a4).bind fun t111 => ((isobathlaw07_pick.f l5 (wrap64 ((wrap64 (4 * x14_1)) + 2))).bind fun t112 => ((isobathlaw07_pick.f l5 (wrap64 ((wrap64 (4 * x14_1)) + 3))).bind fun t113 => (if x13_1.length < 8796093022208 then (isobathlaw07_truth.l0 k1 a1 a2 a3 a4 l5 (x13_1 ++ [(⟨wrap64 ((wrap64 (a3 + t109)) - (wrap64 (Int.tmod t112 100))), wrap64 ((wrap64 (a3 + t111)) + (wrap64 (Int.tmod t113 100)))⟩ : S24)]) (wrap64 (x14_1 + 1)) l0_0 a0_1 a0_2) else (none))))))))) = some r := H
     have A12 := zam A120
     clear A120
     replace H := Option.bind_eq_some_iff.mp H
     obtain ⟨t107, A130, H⟩ := H
     replace H : ((isobathref01_Sqrt.f k1 (wrap64 ((wrap64 ((wrap64 (t105 - a1)) * (wrap64 (t105 - a1)))) + (wrap64 ((wrap64 (t107 - a2)) * (wrap64 (t107 - a2))))))).bind fun t108 => ((isobathref01_Down.f k1 (wrap64 (1000 * t108)) a4).bind fun t109 => ((isobathref01_SqrtUp.f k1 (wrap64 ((wrap64 ((wrap64 (t105 - a1)) * (wrap64 (t105 - a1)))) + (wrap64 ((wrap64 (t107 - a2)) * (wrap64 (t107 - a2))))))).bind fun t110 => ((isobathref01_Up.f k1 (wrap64 (1000 * t110)) a4).bind fun t111 => ((isobathlaw07_pick.f l5 (wrap64 ((wrap64 (4 * x14_1)) + 2))).bind fun t112 => ((isobathlaw07_pick.f l5 (wrap64 ((wrap64 (4 * x14_1)) + 3))).bind fun t113 => (if x13_1.length < 8796093022208 then (isobathlaw07_truth.l0 k1 a1 a2 a3 a4 l5 (x13_1 ++ [(⟨wrap64 ((wrap64 (a3 + t109)) - (wrap64 (Int.tmod t112 100))), wrap64 ((wrap64 (a3 + t111)) + (wrap64 (Int.tmod t113 100)))⟩ : S24)]) (wrap64 (x14_1 + 1)) l0_0 a0_1 a0_2) else (none)))))))) = some r := H
     have A13 := zam A130
     clear A130
     replace H := Option.bind_eq_some_iff.mp H
     obtain ⟨t108, A140, H⟩ := H
     replace H : ((isobathref01_Down.f k1 (wrap64 (1000 * t108)) a4).bind fun t109 => ((isobathref01_SqrtUp.f k1 (wrap64 ((wrap64 ((wrap64 (t105 - a1)) * (wrap64 (t105 - a1)))) + (wrap64 ((wrap64 (t107 - a2)) * (wrap64 (t107 - a2))))))).bind fun t110 => ((isobathref01_Up.f k1 (wrap64 (1000 * t110)) a4).bind fun t111 => ((isobathlaw07_pick.f l5 (wrap64 ((wrap64 (4 * x14_1)) + 2))).bind fun t112 => ((isobathlaw07_pick.f l5 (wrap64 ((wrap64 (4 * x14_1)) + 3))).bind fun t113 => (if x13_1.length < 8796093022208 then (isobathlaw07_truth.l0 k1 a1 a2 a3 a4 l5 (x13_1 ++ [(⟨wrap64 ((wrap64 (a3 + t109)) - (wrap64 (Int.tmod t112 100))), wrap64 ((wrap64 (a3 + t111)) + (wrap64 (Int.tmod t113 100)))⟩ : S24)]) (wrap64 (x14_1 + 1)) l0_0 a0_1 a0_2) else (none))))))) = some r := H
     have A14 := zam A140
     clear A140
     replace H := Option.bind_eq_some_iff.mp H
     obtain ⟨t109, A150, H⟩ := H
     replace H : ((isobathref01_SqrtUp.f k1 (wrap64 ((wrap64 ((wrap64 (t105 - a1)) * (wrap64 (t105 - a1)))) + (wrap64 ((wrap64 (t107 - a2)) * (wrap64 (t107 - a2))))))).bind fun t110 => ((isobathref01_Up.f k1 (wrap64 (1000 * t110)) a4).bind fun t111 => ((isobathlaw07_pick.f l5 (wrap64 ((wrap64 (4 * x14_1)) + 2))).bind fun t112 => ((isobathlaw07_pick.f l5 (wrap64 ((wrap64 (4 * x14_1)) + 3))).bind fun t113 => (if x13_1.length < 8796093022208 then (isobathlaw07_truth.l0 k1 a1 a2 a3 a4 l5 (x13_1 ++ [(⟨wrap64 ((wrap64 (a3 + t109)) - (wrap64 (Int.tmod t112 100))), wrap64 ((wrap64 (a3 + t111)) + (wrap64 (Int.tmod t113 100)))⟩ : S24)]) (wrap64 (x14_1 + 1)) l0_0 a0_1 a0_2) else (none)))))) = some r := H
     have A15 := zam A150
     clear A150
     replace H := Option.bind_eq_some_iff.mp H
     obtain ⟨t110, A160, H⟩ := H
     replace H : ((isobathref01_Up.f k1 (wrap64 (1000 * t110)) a4).bind fun t111 => ((isobathlaw07_pick.f l5 (wrap64 ((wrap64 (4 * x14_1)) + 2))).bind fun t112 => ((isobathlaw07_pick.f l5 (wrap64 ((wrap64 (4 * x14_1)) + 3))).bind fun t113 => (if x13_1.length < 8796093022208 then (isobathlaw07_truth.l0 k1 a1 a2 a3 a4 l5 (x13_1 ++ [(⟨wrap64 ((wrap64 (a3 + t109)) - (wrap64 (Int.tmod t112 100))), wrap64 ((wrap64 (a3 + t111)) + (wrap64 (Int.tmod t113 100)))⟩ : S24)]) (wrap64 (x14_1 + 1)) l0_0 a0_1 a0_2) else (none))))) = some r := H
     have A16 := zam A160
     clear A160
     replace H := Option.bind_eq_some_iff.mp H
     obtain ⟨t111, A170, H⟩ := H
     replace H : ((isobathlaw07_pick.f l5 (wrap64 ((wrap64 (4 * x14_1)) + 2))).bind fun t112 => ((isobathlaw07_pick.f l5 (wrap64 ((wrap64 (4 * x14_1)) + 3))).bind fun t113 => (if x13_1.length < 8796093022208 then (isobathlaw07_truth.l0 k1 a1 a2 a3 a4 l5 (x13_1 ++ [(⟨wrap64 ((wrap64 (a3 + t109)) - (wrap64 (Int.tmod t112 100))), wrap64 ((wrap64 (a3 + t111)) + (wrap64 (Int.tmod t113 100)))⟩ : S24)]) (wrap64 (x14_1 + 1)) l0_0 a0_1 a0_2) else (none)))) = some r := H
     have A17 := zam A170
     clear A170
     replace H := Option.bind_eq_some_iff.mp H
     obtain ⟨t112, A180, H⟩ := H
     replace H : ((isobathlaw07_pick.f l5 (wrap64 ((wrap64 (4 * x14_1)) + 3))).bind fun t113 => (if x13_1.length < 8796093022208 then (isobathlaw07_truth.l0 k1 a1 a2 a3 a4 l5 (x13_1 ++ [(⟨wrap64 ((wrap64 (a3 + t109)) - (wrap64 (Int.tmod t112 100))), wrap64 ((wrap64 (a3 + t111)) + (wrap64 (Int.tmod t113 100)))⟩ : S24)]) (wrap64 (x14_1 + 1)) l0_0 a0_1 a0_2) else (none))) = some r := H
     have A18 := zam A180
     clear A180
     replace H := Option.bind_eq_some_iff.mp H
     obtain ⟨t113, A190, H⟩ := H
     replace H : (if x13_1.length < 8796093022208 then (isobathlaw07_truth.l0 k1 a1 a2 a3 a4 l5 (x13_1 ++ [(⟨wrap64 ((wrap64 (a3 + t109)) - (wrap64 (Int.tmod t112 100))), wrap64 ((wrap64 (a3 + t111)) + (wrap64 (Int.tmod t113 100)))⟩ : S24)]) (wrap64 (x14_1 + 1)) l0_0 a0_1 a0_2) else (none)) = some r := H
     have A19 := zam A190
     clear A190
     by_cases c20 : x13_1.length < 8796093022208
     ·rw [if_pos c20] at H
      have LMc20 := zam c20
      clear c20
      obtain ⟨y114, hy114⟩ : ∃ y_ : List (S24), y_ = (x13_1 ++ [(⟨wrap64 ((wrap64 (a3 + t109)) - (wrap64 (Int.tmod t112 100))), wrap64 ((wrap64 (a3 + t111)) + (wrap64 (Int.tmod t113 100)))⟩ : S24)]) := ⟨_, rfl⟩
      replace H : (isobathlaw07_truth.l0 k1 a1 a2 a3 a4 l5 y114 (wrap64 (x14_1 + 1)) l0_0 a0_1 a0_2) = some r := by first | (rw [hy114]; with_reducible exact H) | (have H2_ := (Option.bind_some _ _).symm.trans H; rw [hy114]; with_reducible exact H2_) | (have H2_ := (Option.bind_some _ _).symm.trans H; with_reducible exact H2_) | with_reducible exact H | (rw [hy114]; exact H) | exact H
      have Ny114 := zam hy114
      clear hy114
      have H' := zam H
      clear H
      have hcz21_0 : wr.cell? ⟨gb101, 0, none⟩ = some (.slice A0_0 l0_0.length c0_0) := (zkc BK101.out 0).trans rfl
      have hcz21_1 : wr.cell? ⟨gb101, 1, none⟩ = some (.int .i64 a0_1) := (zkc BK101.out 1).trans rfl
      have hcz21_2 : wr.cell? ⟨gb101, 2, none⟩ = some (.int .i64 a0_2) := (zkc BK101.out 2).trans rfl
      have hfz21_0 := zkz BK101.out 0
      have hfz21_1 := zkz BK101.out 1
      have hfz21_2 := zkz BK101.out 2
      have p102 : 0 ≤ (x14_1 : Int) := zod zq8
      have q102 : x14_1 < (l0_0.length : Int) := zod zq8
      obtain ⟨ad102, e102, hx102_0, hx102_1, hx102_2, hx102_3⟩ := at_T29 HR0_0.out x14_1 p102 q102
      cases e102
      replace hx102_0 := (HB.out.cell (zwb w _ hx102_0)).trans hx102_0
      replace hx102_1 := (HB.out.cell (zwb w _ hx102_1)).trans hx102_1
      replace hx102_2 := (HB.out.cell (zwb w _ hx102_2)).trans hx102_2
      replace hx102_3 := (HB.out.cell (zwb w _ hx102_3)).trans hx102_3
      replace p102 := eq_true p102
      replace q102 := eq_true q102
      try go_wp2_with (first | ((with_reducible refine zgd (N := 15) rfl ?_); refine box_event ?hg (N := 15) ?hd (cs := #[.int .i64 0, .int .i64 0, .int .i64 0, .int .i64 0]) (t := 29) ?hr ?_; (case hd => rfl); (case hg => rfl); (case hr => first | (go_simp; done) | (go_simp; rfl)); intro gb103 hg w22 hbox hb; have n0_ := zam (Kd.R_below (by (with_reducible repeat (first | apply zRa | apply zRn | apply zRd)); exact HO_13.out) hb); have n1_ := zam (zkb (g := gb101) (o := .cells #[.slice (some ad102) l0_0.length c0_0, .int .i64 a0_1, .int .i64 a0_2] 26 (0, 0)) zq0 hb); have n2_ := zam (zbt zq2 hb); have n3_ := zam (hbox); have n4_ := zam ((by rw [hg]; exact (zbz zq2) : w.heap.size ≤ gb103)); have n5_ := zam ((by rw [hg]; exact (zbz zq2) : w.heap.size ≤ gb103)); have n6_ := zam ((by rw [hg]; exact Nat.ne_of_lt (blk_lt (g := gb101) (o := .cells #[.slice (some ad102) l0_0.length c0_0, .int .i64 a0_1, .int .i64 a0_2] 26 (0, 0)) zq0) : gb101 ≠ gb103)); have n7_ := zam ((by rw [hg]; exact Nat.ne_of_gt (blk_lt (g := gb101) (o := .cells #[.slice (some ad102) l0_0.length c0_0, .int .i64 a0_1, .int .i64 a0_2] 26 (0, 0)) zq0) : gb103 ≠ gb101)); clear HO_13; clear BK101; clear HB; have HO_13 := n0_; have BK101 := n1_; have HB := n2_; have BK103 := n3_; have GW103 := n4_; have GE103 := n5_; have NB101_103 := n6_; have NB103_101 := n7_; clear n0_ n1_ n2_ n3_ n4_ n5_ n6_ n7_; clear hb hbox hg; have hnb23 := NB103_101.out; have hnc23 := NB101_103.out; have hcz24_0 : w22.cell? ⟨gb103, 0, none⟩ = some (.int .i64 0) := (zkc BK103.out 0).trans rfl; have hcz24_1 : w22.cell? ⟨gb103, 1, none⟩ = some (.int .i64 0) := (zkc BK103.out 1).trans rfl; have hcz24_2 : w22.cell? ⟨gb103, 2, none⟩ = some (.int .i64 0) := (zkc BK103.out 2).trans rfl; have hcz24_3 : w22.cell? ⟨gb103, 3, none⟩ = some (.int .i64 0) := (zkc BK103.out 3).trans rfl; have hfz24_0 := zkz BK103.out 0; have hfz24_1 := zkz BK103.out 1; have hfz24_2 := zkz BK103.out 2; have hfz24_3 := zkz BK103.out 3))
      have n0_ : Aside0 (Kd.R k24 24 ((((w22.setCell ⟨gb103, 0, none⟩ (.int .i64 ((rd_T29 l0_0 x14_1).f0.f0))).setCell ⟨gb103, 1, none⟩ (.int .i64 ((rd_T29 l0_0 x14_1).f0.f1))).setCell ⟨gb103, 2, none⟩ (.int .i64 ((rd_T29 l0_0 x14_1).f1.f0))).setCell ⟨gb103, 3, none⟩ (.int .i64 ((rd_T29 l0_0 x14_1).f1.f1))) w.heap.size (fun _ => True) u13 x13_1) := ⟨by (with_reducible repeat (first | apply zRa | apply zRn | apply zRd)); exact Kd.R_mono (Kd.R_far (p := ⟨gb103, 3, none⟩) (Kd.R_far (p := ⟨gb103, 2, none⟩) (Kd.R_far (p := ⟨gb103, 1, none⟩) (Kd.R_far (p := ⟨gb103, 0, none⟩) (Kd.R_types HO_13.out BK103.out (by decide)) (fun _ hk => hk.2) (.int .i64 ((rd_T29 l0_0 x14_1).f0.f0))) (fun _ hk => hk.2) (.int .i64 ((rd_T29 l0_0 x14_1).f0.f1))) (fun _ hk => hk.2) (.int .i64 ((rd_T29 l0_0 x14_1).f1.f0))) (fun _ hk => hk.2) (.int .i64 ((rd_T29 l0_0 x14_1).f1.f1))) (fun _ hk => trivial)⟩
      have n1_ : Aside0 (((((w22.setCell ⟨gb103, 0, none⟩ (.int .i64 ((rd_T29 l0_0 x14_1).f0.f0))).setCell ⟨gb103, 1, none⟩ (.int .i64 ((rd_T29 l0_0 x14_1).f0.f1))).setCell ⟨gb103, 2, none⟩ (.int .i64 ((rd_T29 l0_0 x14_1).f1.f0))).setCell ⟨gb103, 3, none⟩ (.int .i64 ((rd_T29 l0_0 x14_1).f1.f1))).heap[gb101]? = some (.cells #[.slice (some ad102) l0_0.length c0_0, .int .i64 a0_1, .int .i64 a0_2] 26 (0, 0))) := ⟨by (with_reducible repeat (first | refine zkn ?_ _ | refine zkd ?_ | refine zka ?_ _)); refine zkf ?_ NB101_103.out _; (with_reducible repeat (first | refine zkn ?_ _ | refine zkd ?_ | refine zka ?_ _)); refine zkf ?_ NB101_103.out _; (with_reducible repeat (first | refine zkn ?_ _ | refine zkd ?_ | refine zka ?_ _)); refine zkf ?_ NB101_103.out _; (with_reducible repeat (first | refine zkn ?_ _ | refine zkd ?_ | refine zka ?_ _)); refine zkf ?_ NB101_103.out _; (with_reducible repeat (first | refine zkn ?_ _ | refine zkd ?_ | refine zka ?_ _)); exact BK101.out⟩
      have n2_ : Aside0 (((((w22.setCell ⟨gb103, 0, none⟩ (.int .i64 ((rd_T29 l0_0 x14_1).f0.f0))).setCell ⟨gb103, 1, none⟩ (.int .i64 ((rd_T29 l0_0 x14_1).f0.f1))).setCell ⟨gb103, 2, none⟩ (.int .i64 ((rd_T29 l0_0 x14_1).f1.f0))).setCell ⟨gb103, 3, none⟩ (.int .i64 ((rd_T29 l0_0 x14_1).f1.f1))).heap[gb103]? = some (.cells #[.int .i64 ((rd_T29 l0_0 x14_1).f0.f0), .int .i64 ((rd_T29 l0_0 x14_1).f0.f1), .int .i64 ((rd_T29 l0_0 x14_1).f1.f0), .int .i64 ((rd_T29 l0_0 x14_1).f1.f1)] 29 (0, 0))) := ⟨by (with_reducible repeat (first | refine zkn ?_ _ | refine zkd ?_ | refine zka ?_ _)); refine blk_put (cs := #[.int .i64 ((rd_T29 l0_0 x14_1).f0.f0), .int .i64 ((rd_T29 l0_0 x14_1).f0.f1), .int .i64 ((rd_T29 l0_0 x14_1).f1.f0), .int .i64 0]) ?_ 3 _ rfl; (with_reducible repeat (first | refine zkn ?_ _ | refine zkd ?_ | refine zka ?_ _)); refine blk_put (cs := #[.int .i64 ((rd_T29 l0_0 x14_1).f0.f0), .int .i64 ((rd_T29 l0_0 x14_1).f0.f1), .int .i64 0, .int .i64 0]) ?_ 2 _ rfl; (with_reducible repeat (first | refine zkn ?_ _ | refine zkd ?_ | refine zka ?_ _)); refine blk_put (cs := #[.int .i64 ((rd_T29 l0_0 x14_1).f0.f0), .int .i64 0, .int .i64 0, .int .i64 0]) ?_ 1 _ rfl; (with_reducible repeat (first | refine zkn ?_ _ | refine zkd ?_ | refine zka ?_ _)); refine blk_put (cs := #[.int .i64 0, .int .i64 0, .int .i64 0, .int .i64 0]) ?_ 0 _ rfl; (with_reducible repeat (first | refine zkn ?_ _ | refine zkd ?_ | refine zka ?_ _)); exact BK103.out⟩
      have n3_ : Aside0 (Below w.heap.size w ((((w22.setCell ⟨gb103, 0, none⟩ (.int .i64 ((rd_T29 l0_0 x14_1).f0.f0))).setCell ⟨gb103, 1, none⟩ (.int .i64 ((rd_T29 l0_0 x14_1).f0.f1))).setCell ⟨gb103, 2, none⟩ (.int .i64 ((rd_T29 l0_0 x14_1).f1.f0))).setCell ⟨gb103, 3, none⟩ (.int .i64 ((rd_T29 l0_0 x14_1).f1.f1)))) := ⟨by repeat (first | (with_reducible first | exact HB.out | apply zba | apply zbn | apply zb1 | refine zbs ?_ GE101.out | refine zbs ?_ GE103.out) | exact HB.out)⟩
      (try clear HO_13)
      (try clear BK101)
      (try clear BK103)
      (try clear HB)
      generalize ((((w22.setCell ⟨gb103, 0, none⟩ (.int .i64 ((rd_T29 l0_0 x14_1).f0.f0))).setCell ⟨gb103, 1, none⟩ (.int .i64 ((rd_T29 l0_0 x14_1).f0.f1))).setCell ⟨gb103, 2, none⟩ (.int .i64 ((rd_T29 l0_0 x14_1).f1.f0))).setCell ⟨gb103, 3, none⟩ (.int .i64 ((rd_T29 l0_0 x14_1).f1.f1))) = w25 at n0_ n1_ n2_ n3_ ⊢
      have HO_13 := n0_
      have BK101 := n1_
      have BK103 := n2_
      have HB := n3_
      clear n0_ n1_ n2_ n3_
      have n0_ := zam (zRd HO_13.out)
      have n1_ := zam (zkd BK101.out)
      have n2_ := zam (zkd BK103.out)
      have n3_ := zam (zb1 HB.out)
      clear HO_13
      clear BK101
      clear BK103
      clear HB
      have HO_13 := n0_
      have BK101 := n1_
      have BK103 := n2_
      have HB := n3_
      clear n0_ n1_ n2_ n3_
      refine start_ (n := 21) (S := fun w' => w'.cell? ⟨gb103, 0, none⟩ = some (.int .i64 ((rd_T29 l0_0 x14_1).f0.f0)) ∧ w'.cell? ⟨gb103, 1, none⟩ = some (.int .i64 ((rd_T29 l0_0 x14_1).f0.f1)) ∧ w'.cell? ⟨gb103, 2, none⟩ = some (.int .i64 ((rd_T29 l0_0 x14_1).f1.f0)) ∧ w'.cell? ⟨gb103, 3, none⟩ = some (.int .i64 ((rd_T29 l0_0 x14_1).f1.f1))) (ds := []) #[false, false, false, false, false, false, false, false, false, false, false, false, false, false, false, false, false, false, false, false, false] (by kernel_rfl) rfl rfl ⟨(zkc BK103.out 0).trans rfl, (zkc BK103.out 1).trans rfl, (zkc BK103.out 2).trans rfl, (zkc BK103.out 3).trans rfl⟩ (fun hHeld => ?_); refine with_tabW isobathlaw07_truth.tab6 isobathlaw07_truth.bits6 (fun HT_ HW_ => ?_)
      generalize w25.drew = w26 at HO_13 BK101 BK103 HB hHeld ⊢
      refine pure_ (i := 0) (N := some 33) (v := ?_) (a' := ?_) #[true, false, false, false, false, false, false, false, false, false, false, false, false, false, false, false, false, false, false, false, false] rfl rfl (any_of HT_.out (by kernel_rfl)) (fun _ _ _ h => h) (Or.inl ⟨by rfl, ?_⟩) ?_ ?_
      rotate_left
      ·intro w'
       go_simp
       with_reducible rfl
      rotate_left
      ·simp only [Act.put, zsa, zsz, zss, i64_w, i32_w]
       rfl
      refine pure_ (i := 2) (N := some 35) (v := ?_) (a' := ?_) #[true, false, true, false, false, false, false, false, false, false, false, false, false, false, false, false, false, false, false, false, false] rfl rfl (any_of HT_.out (by kernel_rfl)) (fun _ _ _ h => h) (Or.inl ⟨by rfl, ?_⟩) ?_ ?_
      rotate_left
      ·intro w'
       go_simp
       with_reducible rfl
      rotate_left
      ·simp only [Act.put, zsa, zsz, zss, i64_w, i32_w]
       rfl
      refine pure_ (i := 3) (N := some 36) (v := ?_) (a' := ?_) #[true, false, true, true, false, false, false, false, false, false, false, false, false, false, false, false, false, false, false, false, false] rfl rfl (any_of HT_.out (by kernel_rfl)) (fun _ _ _ h => h) (Or.inl ⟨by rfl, ?_⟩) ?_ ?_
      rotate_left
      ·intro w'
       go_simp
       with_reducible rfl
      rotate_left
      ·simp only [Act.put, zsa, zsz, zss, i64_w, i32_w]
       rfl
      refine pure_ (i := 4) (N := some 37) (v := ?_) (a' := ?_) #[true, false, true, true, true, false, false, false, false, false, false, false, false, false, false, false, false, false, false, false, false] rfl rfl (any_of HT_.out (by kernel_rfl)) (fun _ _ _ h => h) (Or.inl ⟨by rfl, ?_⟩) ?_ ?_
      rotate_left
      ·intro w'
       go_simp
       with_reducible rfl
      rotate_left
      ·simp only [Act.put, zsa, zsz, zss, i64_w, i32_w]
       rfl
      refine pure_ (i := 7) (N := some 40) (v := ?_) (a' := ?_) #[true, false, true, true, true, false, false, true, false, false, false, false, false, false, false, false, false, false, false, false, false] rfl rfl (any_of HT_.out (by kernel_rfl)) (fun _ _ _ h => h) (Or.inl ⟨by rfl, ?_⟩) ?_ ?_
      rotate_left
      ·intro w'
       go_simp
       with_reducible rfl
      rotate_left
      ·simp only [Act.put, zsa, zsz, zss, i64_w, i32_w]
       rfl
      refine pure_ (i := 9) (N := some 42) (v := ?_) (a' := ?_) #[true, false, true, true, true, false, false, true, false, true, false, false, false, false, false, false, false, false, false, false, false] rfl rfl (any_of HT_.out (by kernel_rfl)) (fun _ _ _ h => h) (Or.inl ⟨by rfl, ?_⟩) ?_ ?_
      rotate_left
      ·intro w'
       go_simp
       with_reducible rfl
      rotate_left
      ·simp only [Act.put, zsa, zsz, zss, i64_w, i32_w]
       rfl
      refine pure_ (i := 11) (N := some 44) (v := ?_) (a' := ?_) #[true, false, true, true, true, false, false, true, false, true, false, true, false, false, false, false, false, false, false, false, false] rfl rfl (any_of HT_.out (by kernel_rfl)) (fun _ _ _ h => h) (Or.inl ⟨by rfl, ?_⟩) ?_ ?_
      rotate_left
      ·intro w'
       go_simp
       with_reducible rfl
      rotate_left
      ·simp only [Act.put, zsa, zsz, zss, i64_w, i32_w]
       rfl
      refine pure_ (i := 12) (N := some 45) (v := ?_) (a' := ?_) #[true, false, true, true, true, false, false, true, false, true, false, true, true, false, false, false, false, false, false, false, false] rfl rfl (any_of HT_.out (by kernel_rfl)) (fun _ _ _ h => h) (Or.inl ⟨by rfl, ?_⟩) ?_ ?_
      rotate_left
      ·intro w'
       go_simp
       with_reducible rfl
      rotate_left
      ·simp only [Act.put, zsa, zsz, zss, i64_w, i32_w]
       rfl
      refine pure_ (i := 13) (N := some 46) (v := ?_) (a' := ?_) #[true, false, true, true, true, false, false, true, false, true, false, true, true, true, false, false, false, false, false, false, false] rfl rfl (any_of HT_.out (by kernel_rfl)) (fun _ _ _ h => h) (Or.inl ⟨by rfl, ?_⟩) ?_ ?_
      rotate_left
      ·intro w'
       go_simp
       with_reducible rfl
      rotate_left
      ·simp only [Act.put, zsa, zsz, zss, i64_w, i32_w]
       rfl
      refine pure_ (i := 14) (N := some 47) (v := ?_) (a' := ?_) #[true, false, true, true, true, false, false, true, false, true, false, true, true, true, true, false, false, false, false, false, false] rfl rfl (any_of HT_.out (by kernel_rfl)) (fun _ _ _ h => h) (Or.inl ⟨by rfl, ?_⟩) ?_ ?_
      rotate_left
      ·intro w'
       go_simp
       with_reducible rfl
      rotate_left
      ·simp only [Act.put, zsa, zsz, zss, i64_w, i32_w]
       rfl
      refine pure_ (i := 17) (N := some 50) (v := ?_) (a' := ?_) #[true, false, true, true, true, false, false, true, false, true, false, true, true, true, true, false, false, true, false, false, false] rfl rfl (any_of HT_.out (by kernel_rfl)) (fun _ _ _ h => h) (Or.inl ⟨by rfl, ?_⟩) ?_ ?_
      rotate_left
      ·intro w'
       go_simp
       with_reducible rfl
      rotate_left
      ·simp only [Act.put, zsa, zsz, zss, i64_w, i32_w]
       rfl
      refine take_ (i := 1) (N := some 34) (v := ?_) (a' := ?_) #[true, true, true, true, true, false, false, true, false, true, false, true, true, true, true, false, false, true, false, false, false] rfl rfl (take_ofW HT_.out HW_.out (by kernel_rfl)) (fun _ _ _ h => h) (Or.inl ⟨by rfl, ?_⟩) hHeld ?_ ?_
      rotate_left
      ·rintro w' ⟨s0, s1, s2, s3⟩
       go_simp
       with_reducible rfl
      rotate_left
      ·simp only [Act.put, zsa, zsz, zss, i64_w, i32_w]
       rfl
      refine take_ (i := 10) (N := some 43) (v := ?_) (a' := ?_) #[true, true, true, true, true, false, false, true, false, true, true, true, true, true, true, false, false, true, false, false, false] rfl rfl (take_ofW HT_.out HW_.out (by kernel_rfl)) (fun _ _ _ h => h) (Or.inl ⟨by rfl, ?_⟩) hHeld ?_ ?_
      rotate_left
      ·rintro w' ⟨s0, s1, s2, s3⟩
       go_simp
       with_reducible rfl
      rotate_left
      ·simp only [Act.put, zsa, zsz, zss, i64_w, i32_w]
       rfl
      refine one_ (i := 5) (N := some 38) #[true, true, true, true, true, true, false, true, false, true, true, true, true, true, true, false, false, true, false, false, false] rfl rfl (one_of HT_.out (by kernel_rfl)) (by decide) (fun K hK => ?_)
      refine goes_ Try.func20 (by kernel_rfl) rfl #[.slice A5 l5.length c5, .int .i64 (wrap64 (4 * x14_1))] (by rfl) rfl rfl zq4 ?_
      with_reducible refine (isobathlaw07_pick.calls _ _ l5 (wrap64 (4 * x14_1)) t104 _ ?side1 ?side2 A10.out).mono ?_
      (case side1 => repeat (first | exact (Kd.C_below HR5.out HB.out) | (with_reducible refine Kd.C_alloc ?_ _) | (with_reducible refine Kd.C_drewN ?_ _) | (with_reducible refine Kd.C_drew ?_)))
      (case side2 => exact HC5.out)
      rintro e w' ⟨rfl, ⟨nd, rfl⟩⟩
      refine ⟨_, rfl, ?_⟩
      refine hK.out _ _ ⟨(zkc BK103.out 0).trans rfl, (zkc BK103.out 1).trans rfl, (zkc BK103.out 2).trans rfl, (zkc BK103.out 3).trans rfl⟩ (fun hHeld => ?_)
      clear hK K
      refine norm_ (a' := ?_) ?_ ?_
      rotate_left
      ·show Act.put _ (some 38) _ = _
       simp only [Act.put, zsa, zsz, zss, i64_w, i32_w]
       rfl
      refine one_ (i := 6) (N := some 39) #[true, true, true, true, true, true, true, true, false, true, true, true, true, true, true, false, false, true, false, false, false] rfl rfl (one_of HT_.out (by kernel_rfl)) (by decide) (fun K hK => ?_)
      refine goes_ Try.func19 (by kernel_rfl) rfl #[.agg #[.int .i64 ((rd_T29 l0_0 x14_1).f0.f0), .int .i64 ((rd_T29 l0_0 x14_1).f0.f1)], .int .u16 t104] (by rfl) rfl rfl zq4 ?_
      with_reducible refine (isobathlaw01_Part.calls ((rd_T29 l0_0 x14_1).f0.f0) ((rd_T29 l0_0 x14_1).f0.f1) t104 t105 _ A11.out).mono ?_
      rintro e w27 ⟨rfl, hb⟩
      refine ⟨_, rfl, ?_⟩
      have n0_ := zam (Kd.R_below (by (with_reducible repeat (first | apply zRa | apply zRn | apply zRd)); exact HO_13.out) hb)
      have n1_ := zam (zkb (g := gb101) (o := .cells #[.slice (some ad102) l0_0.length c0_0, .int .i64 a0_1, .int .i64 a0_2] 26 (0, 0)) zq0 hb)
      have n2_ := zam (zkb (g := gb103) (o := .cells #[.int .i64 ((rd_T29 l0_0 x14_1).f0.f0), .int .i64 ((rd_T29 l0_0 x14_1).f0.f1), .int .i64 ((rd_T29 l0_0 x14_1).f1.f0), .int .i64 ((rd_T29 l0_0 x14_1).f1.f1)] 29 (0, 0)) zq7 hb)
      have n3_ := zam (zbt zq14 hb)
      clear HO_13
      clear BK101
      clear BK103
      clear HB
      have HO_13 := n0_
      have BK101 := n1_
      have BK103 := n2_
      have HB := n3_
      clear n0_ n1_ n2_ n3_
      (try clear hb)
      (try clear hb2)
      (try clear hk)
      (try clear hi)
      refine hK.out _ _ ⟨(zkc BK103.out 0).trans rfl, (zkc BK103.out 1).trans rfl, (zkc BK103.out 2).trans rfl, (zkc BK103.out 3).trans rfl⟩ (fun hHeld => ?_)
      clear hK K
      refine norm_ (a' := ?_) ?_ ?_
      rotate_left
      ·show Act.put _ (some 39) _ = _
       simp only [Act.put, zsa, zsz, zss, i64_w, i32_w]
       rfl
      refine pure_ (i := 8) (N := some 41) (v := ?_) (a' := ?_) #[true, true, true, true, true, true, true, true, true, true, true, true, true, true, true, false, false, true, false, false, false] rfl rfl (any_of HT_.out (by kernel_rfl)) (fun _ _ _ h => h) (Or.inl ⟨by rfl, ?_⟩) ?_ ?_
      rotate_left
      ·intro w'
       go_simp
       with_reducible rfl
      rotate_left
      ·simp only [Act.put, zsa, zsz, zss, i64_w, i32_w]
       rfl
      refine one_ (i := 15) (N := some 48) #[true, true, true, true, true, true, true, true, true, true, true, true, true, true, true, true, false, true, false, false, false] rfl rfl (one_of HT_.out (by kernel_rfl)) (by decide) (fun K hK => ?_)
      refine goes_ Try.func20 (by kernel_rfl) rfl #[.slice A5 l5.length c5, .int .i64 (wrap64 ((wrap64 (4 * x14_1)) + 1))] (by rfl) rfl rfl zq4 ?_
      with_reducible refine (isobathlaw07_pick.calls _ _ l5 (wrap64 ((wrap64 (4 * x14_1)) + 1)) t106 _ ?side1 ?side2 A12.out).mono ?_
      (case side1 => repeat (first | exact (Kd.C_below HR5.out HB.out) | (with_reducible refine Kd.C_alloc ?_ _) | (with_reducible refine Kd.C_drewN ?_ _) | (with_reducible refine Kd.C_drew ?_)))
      (case side2 => exact HC5.out)
      rintro e w' ⟨rfl, ⟨nd, rfl⟩⟩
      refine ⟨_, rfl, ?_⟩
      refine hK.out _ _ ⟨(zkc BK103.out 0).trans rfl, (zkc BK103.out 1).trans rfl, (zkc BK103.out 2).trans rfl, (zkc BK103.out 3).trans rfl⟩ (fun hHeld => ?_)
      clear hK K
      refine norm_ (a' := ?_) ?_ ?_
      rotate_left
      ·show Act.put _ (some 48) _ = _
       simp only [Act.put, zsa, zsz, zss, i64_w, i32_w]
       rfl
      refine one_ (i := 16) (N := some 49) #[true, true, true, true, true, true, true, true, true, true, true, true, true, true, true, true, true, true, false, false, false] rfl rfl (one_of HT_.out (by kernel_rfl)) (by decide) (fun K hK => ?_)
      refine goes_ Try.func19 (by kernel_rfl) rfl #[.agg #[.int .i64 ((rd_T29 l0_0 x14_1).f1.f0), .int .i64 ((rd_T29 l0_0 x14_1).f1.f1)], .int .u16 t106] (by rfl) rfl rfl zq4 ?_
      with_reducible refine (isobathlaw01_Part.calls ((rd_T29 l0_0 x14_1).f1.f0) ((rd_T29 l0_0 x14_1).f1.f1) t106 t107 _ A13.out).mono ?_
      rintro e w28 ⟨rfl, hb⟩
      refine ⟨_, rfl, ?_⟩
      have n0_ := zam (Kd.R_below (by (with_reducible repeat (first | apply zRa | apply zRn | apply zRd)); exact HO_13.out) hb)
      have n1_ := zam (zkb (g := gb101) (o := .cells #[.slice (some ad102) l0_0.length c0_0, .int .i64 a0_1, .int .i64 a0_2] 26 (0, 0)) zq0 hb)
      have n2_ := zam (zkb (g := gb103) (o := .cells #[.int .i64 ((rd_T29 l0_0 x14_1).f0.f0), .int .i64 ((rd_T29 l0_0 x14_1).f0.f1), .int .i64 ((rd_T29 l0_0 x14_1).f1.f0), .int .i64 ((rd_T29 l0_0 x14_1).f1.f1)] 29 (0, 0)) zq7 hb)
      have n3_ := zam (zbt zq14 hb)
      clear HO_13
      clear BK101
      clear BK103
      clear HB
      have HO_13 := n0_
      have BK101 := n1_
      have BK103 := n2_
      have HB := n3_
      clear n0_ n1_ n2_ n3_
      (try clear hb)
      (try clear hb2)
      (try clear hk)
      (try clear hi)
      refine hK.out _ _ ⟨(zkc BK103.out 0).trans rfl, (zkc BK103.out 1).trans rfl, (zkc BK103.out 2).trans rfl, (zkc BK103.out 3).trans rfl⟩ (fun hHeld => ?_)
      clear hK K
      refine norm_ (a' := ?_) ?_ ?_
      rotate_left
      ·show Act.put _ (some 49) _ = _
       simp only [Act.put, zsa, zsz, zss, i64_w, i32_w]
       rfl
      refine pure_ (i := 18) (N := some 51) (v := ?_) (a' := ?_) #[true, true, true, true, true, true, true, true, true, true, true, true, true, true, true, true, true, true, true, false, false] rfl rfl (any_of HT_.out (by kernel_rfl)) (fun _ _ _ h => h) (Or.inl ⟨by rfl, ?_⟩) ?_ ?_
      rotate_left
      ·intro w'
       go_simp
       with_reducible rfl
      rotate_left
      ·simp only [Act.put, zsa, zsz, zss, i64_w, i32_w]
       rfl
      refine pure_ (i := 19) (N := some 16) (v := ?_) (a' := ?_) #[true, true, true, true, true, true, true, true, true, true, true, true, true, true, true, true, true, true, true, true, false] rfl rfl (any_of HT_.out (by kernel_rfl)) (fun _ _ _ h => h) (Or.inl ⟨by rfl, ?_⟩) ?_ ?_
      rotate_left
      ·intro w'
       go_simp
       with_reducible rfl
      rotate_left
      ·simp only [Act.put, zsa, zsz, zss, i64_w, i32_w]
       rfl
      refine pure_ (i := 20) (N := some 17) (v := ?_) (a' := ?_) #[true, true, true, true, true, true, true, true, true, true, true, true, true, true, true, true, true, true, true, true, true] rfl rfl (any_of HT_.out (by kernel_rfl)) (fun _ _ _ h => h) (Or.inl ⟨by rfl, ?_⟩) ?_ ?_
      rotate_left
      ·intro w'
       go_simp
       with_reducible rfl
      rotate_left
      ·simp only [Act.put, zsa, zsz, zss, i64_w, i32_w]
       rfl
      refine done_ (done_of HT_.out (by kernel_rfl)) ?_
      try go_wp2_with (first | ((with_reducible refine zgc (f := 67) rfl ?_); refine goesL_ (some 60) rfl rfl Try.func67 (by kernel_rfl) rfl #[.int .i64 (wrap64 ((wrap64 ((wrap64 (t105 - a1)) * (wrap64 (t105 - a1)))) + (wrap64 ((wrap64 (t107 - a2)) * (wrap64 (t107 - a2))))))] rfl zq4 ?_; (with_reducible refine (isobathref01_Sqrt.calls k1 (wrap64 ((wrap64 ((wrap64 (t105 - a1)) * (wrap64 (t105 - a1)))) + (wrap64 ((wrap64 (t107 - a2)) * (wrap64 (t107 - a2)))))) t108 _ A14.out).mono ?_); rintro e w' ⟨rfl, ⟨nd, rfl⟩⟩; refine ⟨_, rfl, ?_⟩) | ((with_reducible refine zgc (f := 66) rfl ?_); refine goesL_ (some 63) rfl rfl Try.func66 (by kernel_rfl) rfl #[.int .i64 (wrap64 (1000 * t108)), .int .i64 a4] rfl zq4 ?_; (with_reducible refine (isobathref01_Down.calls k1 (wrap64 (1000 * t108)) a4 t109 _ A15.out).mono ?_); rintro e w' ⟨rfl, ⟨nd, rfl⟩⟩; refine ⟨_, rfl, ?_⟩) | ((with_reducible refine zgc (f := 69) rfl ?_); refine goesL_ (some 65) rfl rfl Try.func69 (by kernel_rfl) rfl #[.int .i64 (wrap64 ((wrap64 ((wrap64 (t105 - a1)) * (wrap64 (t105 - a1)))) + (wrap64 ((wrap64 (t107 - a2)) * (wrap64 (t107 - a2))))))] rfl zq4 ?_; (with_reducible refine (isobathref01_SqrtUp.calls k1 (wrap64 ((wrap64 ((wrap64 (t105 - a1)) * (wrap64 (t105 - a1)))) + (wrap64 ((wrap64 (t107 - a2)) * (wrap64 (t107 - a2)))))) t110 _ A16.out).mono ?_); rintro e w' ⟨rfl, ⟨nd, rfl⟩⟩; refine ⟨_, rfl, ?_⟩) | ((with_reducible refine zgc (f := 68) rfl ?_); refine goesL_ (some 68) rfl rfl Try.func68 (by kernel_rfl) rfl #[.int .i64 (wrap64 (1000 * t110)), .int .i64 a4] rfl zq4 ?_; (with_reducible refine (isobathref01_Up.calls k1 (wrap64 (1000 * t110)) a4 t111 _ A17.out).mono ?_); rintro e w' ⟨rfl, ⟨nd, rfl⟩⟩; refine ⟨_, rfl, ?_⟩) | ((with_reducible refine zgc (f := 20) rfl ?_); refine goesL_ (some 77) rfl rfl Try.func20 (by kernel_rfl) rfl #[.slice A5 l5.length c5, .int .i64 (wrap64 ((wrap64 (4 * x14_1)) + 2))] rfl zq4 ?_; (with_reducible refine (isobathlaw07_pick.calls _ _ l5 (wrap64 ((wrap64 (4 * x14_1)) + 2)) t112 _ ?side1 ?side2 A18.out).mono ?_); (case side1 => repeat (first | exact (Kd.C_below HR5.out zq14) | (with_reducible refine Kd.C_alloc ?_ _) | (with_reducible refine Kd.C_drewN ?_ _) | (with_reducible refine Kd.C_drew ?_))); (case side2 => exact HC5.out); rintro e w' ⟨rfl, ⟨nd, rfl⟩⟩; refine ⟨_, rfl, ?_⟩) | ((with_reducible refine zgc (f := 20) rfl ?_); refine goesL_ (some 88) rfl rfl Try.func20 (by kernel_rfl) rfl #[.slice A5 l5.length c5, .int .i64 (wrap64 ((wrap64 (4 * x14_1)) + 3))] rfl zq4 ?_; (with_reducible refine (isobathlaw07_pick.calls _ _ l5 (wrap64 ((wrap64 (4 * x14_1)) + 3)) t113 _ ?side1 ?side2 A19.out).mono ?_); (case side1 => repeat (first | exact (Kd.C_below HR5.out zq14) | (with_reducible refine Kd.C_alloc ?_ _) | (with_reducible refine Kd.C_drewN ?_ _) | (with_reducible refine Kd.C_drew ?_))); (case side2 => exact HC5.out); rintro e w' ⟨rfl, ⟨nd, rfl⟩⟩; refine ⟨_, rfl, ?_⟩) | ((with_reducible refine gate_builtin (b := .append) (xs := #[.tmp 69, .tmp 93]) rfl ?_); at_builtin; refine Kd.R_append k24 (w0 := w) w.heap.size rfl (.tmp 69) (.tmp 93) 27 24 (.agg #[(.int .i64 0), (.int .i64 0)]) 16 rfl Try.underlying27 info24 rfl (by decide) (by omega) u13 x13_1 (⟨wrap64 ((wrap64 (a3 + t109)) - (wrap64 (Int.tmod t112 100))), wrap64 ((wrap64 (a3 + t111)) + (wrap64 (Int.tmod t113 100)))⟩ : S24) [.int .i64 (wrap64 ((wrap64 (a3 + t109)) - (wrap64 (Int.tmod t112 100)))), .int .i64 (wrap64 ((wrap64 (a3 + t111)) + (wrap64 (Int.tmod t113 100))))] (fun _ => True) (fun _ => False) rfl rfl ?aP (fun _ hk => hk.elim) ?aF ?aO ?aB ?aS ?aL ?_; (case aP => exact k24_mkM _ _ _ (⟨wrap64 ((wrap64 (a3 + t109)) - (wrap64 (Int.tmod t112 100))), wrap64 ((wrap64 (a3 + t111)) + (wrap64 (Int.tmod t113 100)))⟩ : S24)); (case aB => exact zq14); (case aF => exact (fun _ _ => trivial)); (case aO => exact (by (with_reducible repeat (first | apply zRa | apply zRn | apply zRd)); exact HO_13.out)); (case aS => exact (zbz zq14)); (case aL => have := LMc20.out; omega); intro v115 w29 ho hb hg hat; rw [← Ny114.out] at ho; have n0_ := zam (blk_grown (g := gb101) (o := .cells #[.slice (some ad102) l0_0.length c0_0, .int .i64 a0_1, .int .i64 a0_2] 26 (0, 0)) zq0 hg (Kd.R_ne HO_13.out BK101.out (by decide))); have n1_ := zam (blk_grown (g := gb103) (o := .cells #[.int .i64 ((rd_T29 l0_0 x14_1).f0.f0), .int .i64 ((rd_T29 l0_0 x14_1).f0.f1), .int .i64 ((rd_T29 l0_0 x14_1).f1.f0), .int .i64 ((rd_T29 l0_0 x14_1).f1.f1)] 29 (0, 0)) zq7 hg (Kd.R_ne HO_13.out BK103.out (by decide))); have n2_ := zam (hb); have n3_ := zam (ho); clear BK101; clear BK103; clear HB; clear HO_13; have BK101 := n0_; have BK103 := n1_; have HB := n2_; have HO116 := n3_; clear n0_ n1_ n2_ n3_; clear ho hb hg hat))
      go_roundg k1
      case measure => have := HK1.out; omega
      case rel => exact ⟨(y114), (wrap64 (x14_1 + 1)), zq9, H', ⟨by have := HK1.out; omega⟩, ⟨by (with_reducible repeat (first | apply zRa | apply zRn | apply zRd)); exact HO116.out⟩, ⟨by (with_reducible repeat (first | refine zkn ?_ _ | refine zkd ?_ | refine zka ?_ _)); exact BK101.out⟩, ⟨by repeat (first | (with_reducible first | exact HB.out | apply zba | apply zbn | apply zb1 | refine zbs ?_ GE101.out | refine zbs ?_ GE103.out) | exact HB.out)⟩⟩
     rw [if_neg c20] at H
     exact absurd H (by simp)
    rw [if_neg c9] at H
    exact absurd H (by simp)
   rw [if_neg c8] at H
   have c8b0 : decide (x14_1 < (l0_0.length : Int)) = false := zdf c8
   clear c8
   obtain rfl := zsi H
   have hcz30_0 : wr.cell? ⟨gb101, 0, none⟩ = some (.slice A0_0 l0_0.length c0_0) := (zkc BK101.out 0).trans rfl
   have hcz30_1 : wr.cell? ⟨gb101, 1, none⟩ = some (.int .i64 a0_1) := (zkc BK101.out 1).trans rfl
   have hcz30_2 : wr.cell? ⟨gb101, 2, none⟩ = some (.int .i64 a0_2) := (zkc BK101.out 2).trans rfl
   have hfz30_0 := zkz BK101.out 0
   have hfz30_1 := zkz BK101.out 1
   have hfz30_2 := zkz BK101.out 2
   go_wp2
   go_ret
   exact ⟨_, by first | rfl | (simp [errW_none, errW_some] <;> rfl) | (simp [*, errW_none, errW_some] <;> rfl), by (with_reducible repeat (first | apply zRa | apply zRn | apply zRd)); exact HO_13.out, by repeat (first | (with_reducible first | exact HB.out | apply zba | apply zbn | apply zb1 | refine zbs ?_ GE101.out) | exact HB.out)⟩
end Go.Proofs.Ytaheamdoldiojaa.P
