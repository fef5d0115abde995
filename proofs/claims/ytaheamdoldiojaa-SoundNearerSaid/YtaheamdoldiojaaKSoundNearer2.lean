/- each box of a region lies in one of the region with a lesser depth; with narrower arrivals, and with another station, no box is in the region that was not in it. Part 3 of 7. -/
-- Put together by wip/tools/shake.py, a program of this work: out of the words that the kit's print tool (print.sh) writes for a claim and what wip/tools/xprint.py prints, those that this claim reaches, and this work's own texts.
import Derived.Laws.EntriesVeiled
import Derived.Outline
import Derived.RegionTactic
import Derived.BigRegion
import Derived.RangeFuncBox
import Derived.RangeFuncNested
import Derived.RangeFuncBound
import Derived.RangeFuncCalls
import Derived.RangeFuncLeaves
import Derived.Shelf.Abstract
import Derived.Shelf.RegionOpen
import Derived.OwnWalkIn
import Derived.TacticsInMore
import Derived.LoopNIn
import Derived.LoopIn
import Derived.Sort.QuietIn
import Derived.Maps.AppendAt
import Derived.Sort.LoopGhostIn
import Derived.Test.YtaheamdoldiojaaKSoundNearer1
namespace Go.Proofs.Ytaheamdoldiojaa.P
open Go.RowKit Go.Proofs.YtaheamdoldiojaaW.PrintWords Go.Proofs.YtaheamdoldiojaaW.PrintLast Go.Proofs.YtaheamdoldiojaaW.PrintMore
attribute [local go_sem] max2_int min2_int max_two min_two max_three min_three max_four min_four   -- for this text's walks alone
set_option linter.unusedVariables false
set_option linter.unusedSimpArgs false
def sound_CheckNet.j0 : Nat → Bool → List (S29) → Int → Int → Option (Int)
 | 0, _, _, _, _ => none
 | k + 1, x30, x102000, x102001, x102002 => if x30 = true then (some 2) else ((slices_ContainsFunc_Box_sound_CheckNet_1.f k x102000).bind fun t103 => (if t103 = true then (some 2) else (some 0)))
def sound_CheckNet.f (k : Nat) (l0_0 : List (S29)) (a0_1 : Int) (a0_2 : Int) : Option (Int) := if (l0_0.length : Int) < 2 then (sound_CheckNet.j0 k true l0_0 a0_1 a0_2) else (if (l0_0.length : Int) > 8 then (sound_CheckNet.j0 k true l0_0 a0_1 a0_2) else ((bound_Check.f k a0_1 a0_2).bind fun t102 => (if t102 = 0 then (if a0_1 < 1 then (sound_CheckNet.j0 k true l0_0 a0_1 a0_2) else (sound_CheckNet.j0 k (decide (a0_2 > 20000)) l0_0 a0_1 a0_2)) else (sound_CheckNet.j0 k true l0_0 a0_1 a0_2))))
set_option maxHeartbeats 8000000 in
set_option maxRecDepth 100000 in
theorem sound_CheckNet.calls (k : Nat) (A0_0 : Option Addr) (c0_0 : Nat) (l0_0 : List (S29)) (a0_1 : Int) (a0_2 : Int) (r : Int) (w : World) (hr0_0 : Kd.C k29 w A0_0 l0_0.length l0_0) (hc0_0 : l0_0.length ≤ c0_0) (h : sound_CheckNet.f k l0_0 a0_1 a0_2 = some r) :
  Calls Try.prog 52 #[.agg #[.slice A0_0 l0_0.length c0_0, .int .i64 a0_1, .int .i64 a0_2]] w fun e w' => e = .returned (.int .i64 r) ∧ Below w.heap.size w w' := by
 have hu26 := Try.underlying26
 have hu24 := Try.underlying24
 have HR0_0 := zam hr0_0
 have HC0_0 := zam hc0_0
 clear hr0_0 hc0_0
 have HB := zam (Below.refl w.heap.size w)
 have H : (if (l0_0.length : Int) < 2 then (sound_CheckNet.j0 k true l0_0 a0_1 a0_2) else (if (l0_0.length : Int) > 8 then (sound_CheckNet.j0 k true l0_0 a0_1 a0_2) else ((bound_Check.f k a0_1 a0_2).bind fun t102 => (if t102 = 0 then (if a0_1 < 1 then (sound_CheckNet.j0 k true l0_0 a0_1 a0_2) else (sound_CheckNet.j0 k (decide (a0_2 > 20000)) l0_0 a0_1 a0_2)) else (sound_CheckNet.j0 k true l0_0 a0_1 a0_2))))) = some r := h
 clear h
 have HC2 := zam H
 clear H
 go_enter Try.func52, Try.ntmps52
 go_upto_region 1 with (first | ((with_reducible refine zgd (N := 1) rfl ?_); (try (refine gate_guard (by rfl) ?_; dsimp only)); refine box_event ?hg (N := 1) ?hd (cs := #[.slice A0_0 l0_0.length c0_0, .int .i64 a0_1, .int .i64 a0_2]) (t := 26) ?hr ?_; (case hd => rfl); (case hg => rfl); (case hr => first | (go_simp; done) | (go_simp; rfl)); intro gb101 hg w3 hbox hb; have n0_ := zam (zbt zq1 hb); have n1_ := zam (hbox); have n2_ := zam ((by rw [hg]; exact (zbz zq1) : w.heap.size ≤ gb101)); have n3_ := zam ((by rw [hg]; exact (zbz zq1) : w.heap.size ≤ gb101)); clear HB; have HB := n0_; have BK101 := n1_; have GW101 := n2_; have GE101 := n3_; clear n0_ n1_ n2_ n3_; clear hb hbox hg))
 (try simp only [Act.put, zsa, zsz, zss])
 go_cut [30] (fun v30 wc => ∃ (kq : Nat) (x30_1 : Bool), v30 = .bool x30_1 ∧ Aside0 (sound_CheckNet.j0 kq x30_1 l0_0 a0_1 a0_2 = some r) ∧ Aside0 (kq ≤ k) ∧ Aside0 (wc.heap[gb101]? = some (.cells #[(.slice A0_0 l0_0.length c0_0), .int .i64 a0_1, .int .i64 a0_2] 26 (0, 0))) ∧ Aside0 (Below w.heap.size w wc))
 case first =>
  have H := HC2.out
  clear HC2
  by_cases c4 : (l0_0.length : Int) < 2
  ·rw [if_pos c4] at H
   have c4b0 : decide ((l0_0.length : Int) < 2) = true := zdt c4
   have c4b1 : decide (l0_0.length < 2) = true := zdt (by omega)
   clear c4
   (first | rw [c4b0] | (simp only [i64_w, i32_w]; rw [c4b0]) | skip)
   have H' := zam H
   clear H
   have hcz5_0 : w3.cell? ⟨gb101, 0, none⟩ = some (.slice A0_0 l0_0.length c0_0) := (zkc BK101.out 0).trans rfl
   have hcz5_1 : w3.cell? ⟨gb101, 1, none⟩ = some (.int .i64 a0_1) := (zkc BK101.out 1).trans rfl
   have hcz5_2 : w3.cell? ⟨gb101, 2, none⟩ = some (.int .i64 a0_2) := (zkc BK101.out 2).trans rfl
   have hfz5_0 := zkz BK101.out 0
   have hfz5_1 := zkz BK101.out 1
   have hfz5_2 := zkz BK101.out 2
   go_wp2
   go_meet
   case rel => exact ⟨_, (true), zq10, H', ⟨by first | omega | exact Nat.le_refl _⟩, ⟨by (with_reducible repeat (first | refine zkn ?_ _ | refine zkd ?_ | refine zka ?_ _)); exact BK101.out⟩, ⟨by repeat (first | (with_reducible first | exact HB.out | apply zba | apply zbn | apply zb1 | refine zbs ?_ GE101.out) | exact HB.out)⟩⟩
  rw [if_neg c4] at H
  have c4b0 : decide ((l0_0.length : Int) < 2) = false := zdf c4
  have c4b1 : decide (l0_0.length < 2) = false := zdf (by omega)
  clear c4
  (first | rw [c4b0] | (simp only [i64_w, i32_w]; rw [c4b0]) | skip)
  by_cases c6 : (l0_0.length : Int) > 8
  ·rw [if_pos c6] at H
   have c6b0 : decide (8 < (l0_0.length : Int)) = true := zdt c6
   have c6b1 : decide (8 < l0_0.length) = true := zdt (by omega)
   clear c6
   have H' := zam H
   clear H
   have hcz7_0 : w3.cell? ⟨gb101, 0, none⟩ = some (.slice A0_0 l0_0.length c0_0) := (zkc BK101.out 0).trans rfl
   have hcz7_1 : w3.cell? ⟨gb101, 1, none⟩ = some (.int .i64 a0_1) := (zkc BK101.out 1).trans rfl
   have hcz7_2 : w3.cell? ⟨gb101, 2, none⟩ = some (.int .i64 a0_2) := (zkc BK101.out 2).trans rfl
   have hfz7_0 := zkz BK101.out 0
   have hfz7_1 := zkz BK101.out 1
   have hfz7_2 := zkz BK101.out 2
   go_wp2
   go_meet
   case rel => exact ⟨_, (true), zq10, H', ⟨by first | omega | exact Nat.le_refl _⟩, ⟨by (with_reducible repeat (first | refine zkn ?_ _ | refine zkd ?_ | refine zka ?_ _)); exact BK101.out⟩, ⟨by repeat (first | (with_reducible first | exact HB.out | apply zba | apply zbn | apply zb1 | refine zbs ?_ GE101.out) | exact HB.out)⟩⟩
  rw [if_neg c6] at H
  have c6b0 : decide (8 < (l0_0.length : Int)) = false := zdf c6
  have c6b1 : decide (8 < l0_0.length) = false := zdf (by omega)
  clear c6
  replace H := Option.bind_eq_some_iff.mp H
  obtain ⟨t102, A80, H⟩ := H
  replace H : (if t102 = 0 then (if a0_1 < 1 then (sound_CheckNet.j0 k true l0_0 a0_1 a0_2) else (sound_CheckNet.j0 k (decide (a0_2 > 20000)) l0_0 a0_1 a0_2)) else (sound_CheckNet.j0 k true l0_0 a0_1 a0_2)) = some r := H
  have A8 := zam A80
  clear A80
  by_cases c9 : t102 = 0
  ·rw [if_pos c9] at H
   have c9b0 : (t102 == 0) = true := beq_iff_eq.mpr c9
   have c9b1 : (t102 != 0) = false := bne_eq_false_iff_eq.mpr c9
   clear c9
   by_cases c10 : a0_1 < 1
   ·rw [if_pos c10] at H
    have c10b0 : decide (a0_1 < 1) = true := zdt c10
    clear c10
    have H' := zam H
    clear H
    have hcz11_0 : w3.cell? ⟨gb101, 0, none⟩ = some (.slice A0_0 l0_0.length c0_0) := (zkc BK101.out 0).trans rfl
    have hcz11_1 : w3.cell? ⟨gb101, 1, none⟩ = some (.int .i64 a0_1) := (zkc BK101.out 1).trans rfl
    have hcz11_2 : w3.cell? ⟨gb101, 2, none⟩ = some (.int .i64 a0_2) := (zkc BK101.out 2).trans rfl
    have hfz11_0 := zkz BK101.out 0
    have hfz11_1 := zkz BK101.out 1
    have hfz11_2 := zkz BK101.out 2
    go_wp2_with (first | (go_at_call 96; (with_reducible refine (bound_Check.calls k a0_1 a0_2 t102 _ A8.out).mono ?_); rintro e w12 ⟨rfl, hb⟩; have n0_ := zam (zkb (g := gb101) (o := .cells #[.slice A0_0 l0_0.length c0_0, .int .i64 a0_1, .int .i64 a0_2] 26 (0, 0)) zq0 hb); have n1_ := zam (zbt zq2 hb); clear BK101; clear HB; have BK101 := n0_; have HB := n1_; clear n0_ n1_; (try clear hb); (try clear hb2); (try clear hk); (try clear hi); have hcz13_0 : w12.cell? ⟨gb101, 0, none⟩ = some (.slice A0_0 l0_0.length c0_0) := (zkc BK101.out 0).trans rfl; have hcz13_1 : w12.cell? ⟨gb101, 1, none⟩ = some (.int .i64 a0_1) := (zkc BK101.out 1).trans rfl; have hcz13_2 : w12.cell? ⟨gb101, 2, none⟩ = some (.int .i64 a0_2) := (zkc BK101.out 2).trans rfl; have hfz13_0 := zkz BK101.out 0; have hfz13_1 := zkz BK101.out 1; have hfz13_2 := zkz BK101.out 2))
    go_meet
    case rel => exact ⟨_, (true), zq10, H', ⟨by first | omega | exact Nat.le_refl _⟩, ⟨by (with_reducible repeat (first | refine zkn ?_ _ | refine zkd ?_ | refine zka ?_ _)); exact BK101.out⟩, ⟨by repeat (first | (with_reducible first | exact HB.out | apply zba | apply zbn | apply zb1 | refine zbs ?_ GE101.out) | exact HB.out)⟩⟩
   rw [if_neg c10] at H
   have c10b0 : decide (a0_1 < 1) = false := zdf c10
   clear c10
   have H' := zam H
   clear H
   have hcz14_0 : w3.cell? ⟨gb101, 0, none⟩ = some (.slice A0_0 l0_0.length c0_0) := (zkc BK101.out 0).trans rfl
   have hcz14_1 : w3.cell? ⟨gb101, 1, none⟩ = some (.int .i64 a0_1) := (zkc BK101.out 1).trans rfl
   have hcz14_2 : w3.cell? ⟨gb101, 2, none⟩ = some (.int .i64 a0_2) := (zkc BK101.out 2).trans rfl
   have hfz14_0 := zkz BK101.out 0
   have hfz14_1 := zkz BK101.out 1
   have hfz14_2 := zkz BK101.out 2
   go_wp2_with (first | (go_at_call 96; (with_reducible refine (bound_Check.calls k a0_1 a0_2 t102 _ A8.out).mono ?_); rintro e w15 ⟨rfl, hb⟩; have n0_ := zam (zkb (g := gb101) (o := .cells #[.slice A0_0 l0_0.length c0_0, .int .i64 a0_1, .int .i64 a0_2] 26 (0, 0)) zq0 hb); have n1_ := zam (zbt zq2 hb); clear BK101; clear HB; have BK101 := n0_; have HB := n1_; clear n0_ n1_; (try clear hb); (try clear hb2); (try clear hk); (try clear hi); have hcz16_0 : w15.cell? ⟨gb101, 0, none⟩ = some (.slice A0_0 l0_0.length c0_0) := (zkc BK101.out 0).trans rfl; have hcz16_1 : w15.cell? ⟨gb101, 1, none⟩ = some (.int .i64 a0_1) := (zkc BK101.out 1).trans rfl; have hcz16_2 : w15.cell? ⟨gb101, 2, none⟩ = some (.int .i64 a0_2) := (zkc BK101.out 2).trans rfl; have hfz16_0 := zkz BK101.out 0; have hfz16_1 := zkz BK101.out 1; have hfz16_2 := zkz BK101.out 2))
   go_meet
   case rel => exact ⟨_, (decide (a0_2 > 20000)), zq10, H', ⟨by first | omega | exact Nat.le_refl _⟩, ⟨by (with_reducible repeat (first | refine zkn ?_ _ | refine zkd ?_ | refine zka ?_ _)); exact BK101.out⟩, ⟨by repeat (first | (with_reducible first | exact HB.out | apply zba | apply zbn | apply zb1 | refine zbs ?_ GE101.out) | exact HB.out)⟩⟩
  rw [if_neg c9] at H
  have c9b0 : (t102 == 0) = false := beq_eq_false_iff_ne.mpr c9
  have c9b1 : (t102 != 0) = true := bne_iff_ne.mpr c9
  have H' := zam H
  clear H
  have hcz17_0 : w3.cell? ⟨gb101, 0, none⟩ = some (.slice A0_0 l0_0.length c0_0) := (zkc BK101.out 0).trans rfl
  have hcz17_1 : w3.cell? ⟨gb101, 1, none⟩ = some (.int .i64 a0_1) := (zkc BK101.out 1).trans rfl
  have hcz17_2 : w3.cell? ⟨gb101, 2, none⟩ = some (.int .i64 a0_2) := (zkc BK101.out 2).trans rfl
  have hfz17_0 := zkz BK101.out 0
  have hfz17_1 := zkz BK101.out 1
  have hfz17_2 := zkz BK101.out 2
  go_wp2_with (first | (go_at_call 96; (with_reducible refine (bound_Check.calls k a0_1 a0_2 t102 _ A8.out).mono ?_); rintro e w18 ⟨rfl, hb⟩; have n0_ := zam (zkb (g := gb101) (o := .cells #[.slice A0_0 l0_0.length c0_0, .int .i64 a0_1, .int .i64 a0_2] 26 (0, 0)) zq0 hb); have n1_ := zam (zbt zq2 hb); clear BK101; clear HB; have BK101 := n0_; have HB := n1_; clear n0_ n1_; (try clear hb); (try clear hb2); (try clear hk); (try clear hi)))
  go_meet
  case rel => exact ⟨_, (true), zq10, H', ⟨by first | omega | exact Nat.le_refl _⟩, ⟨by (with_reducible repeat (first | refine zkn ?_ _ | refine zkd ?_ | refine zka ?_ _)); exact BK101.out⟩, ⟨by repeat (first | (with_reducible first | exact HB.out | apply zba | apply zbn | apply zb1 | refine zbs ?_ GE101.out) | exact HB.out)⟩⟩
 case rest =>
  clear HC2
  try clear c1
  try clear p2
  try clear c4
  try clear c4b0
  try clear c4b1
  try clear c5
  try clear c6
  try clear c6b0
  try clear c6b1
  try clear c9
  try clear c9b0
  try clear c9b1
  try clear c10
  try clear c10b0
  try clear hcz11_0
  try clear hcz11_1
  try clear hcz11_2
  try clear hcz13_0
  try clear hcz13_1
  try clear hcz13_2
  try clear hcz14_0
  try clear hcz14_1
  try clear hcz14_2
  try clear hcz16_0
  try clear hcz16_1
  try clear hcz16_2
  try clear hcz17_0
  try clear hcz17_1
  try clear hcz17_2
  try clear hcz5_0
  try clear hcz5_1
  try clear hcz5_2
  try clear hcz7_0
  try clear hcz7_1
  try clear hcz7_2
  try clear hfz11_0
  try clear hfz11_1
  try clear hfz11_2
  try clear hfz13_0
  try clear hfz13_1
  try clear hfz13_2
  try clear hfz14_0
  try clear hfz14_1
  try clear hfz14_2
  try clear hfz16_0
  try clear hfz16_1
  try clear hfz16_2
  try clear hfz17_0
  try clear hfz17_1
  try clear hfz17_2
  try clear hfz5_0
  try clear hfz5_1
  try clear hfz5_2
  try clear hfz7_0
  try clear hfz7_1
  try clear hfz7_2
  obtain ⟨kq, x30_1, rfl, HA, HJ1, BK101, HB⟩ := hcut
  cases kq with
  | zero => exact absurd HA.out (by simp [sound_CheckNet.j0])
  | succ kj1 =>
   have H := HA.out
   clear HA
   simp only [sound_CheckNet.j0] at H
   by_cases c19 : x30_1 = true
   ·subst c19
    have H1 : (some 2) = some r := by rw [if_pos rfl] at H; exact H
    clear H
    have H := H1
    clear H1
    obtain rfl := zsi H
    go_wp2
    go_ret
    exact ⟨by first | rfl | (simp [errW_none, errW_some] <;> rfl) | (simp [*, errW_none, errW_some] <;> rfl), by repeat (first | (with_reducible first | exact HB.out | apply zba | apply zbn | apply zb1 | refine zbs ?_ GE101.out) | exact HB.out)⟩
   replace c19 := Bool.eq_false_iff.mpr c19
   subst c19
   have H1 : ((slices_ContainsFunc_Box_sound_CheckNet_1.f kj1 l0_0).bind fun t103 => (if t103 = true then (some 2) else (some 0))) = some r := by rw [if_neg (show ¬ (false = true) by decide)] at H; exact H
   clear H
   have H := H1
   clear H1
   replace H := Option.bind_eq_some_iff.mp H
   obtain ⟨t103, A200, H⟩ := H
   replace H : (if t103 = true then (some 2) else (some 0)) = some r := H
   have A20 := zam A200
   clear A200
   by_cases c21 : t103 = true
   ·subst c21
    have H1 : (some 2) = some r := by rw [if_pos rfl] at H; exact H
    clear H
    have H := H1
    clear H1
    obtain rfl := zsi H
    have hcz22_0 : wc.cell? ⟨gb101, 0, none⟩ = some (.slice A0_0 l0_0.length c0_0) := (zkc BK101.out 0).trans rfl
    have hcz22_1 : wc.cell? ⟨gb101, 1, none⟩ = some (.int .i64 a0_1) := (zkc BK101.out 1).trans rfl
    have hcz22_2 : wc.cell? ⟨gb101, 2, none⟩ = some (.int .i64 a0_2) := (zkc BK101.out 2).trans rfl
    have hfz22_0 := zkz BK101.out 0
    have hfz22_1 := zkz BK101.out 1
    have hfz22_2 := zkz BK101.out 2
    go_wp2_with (first | ((with_reducible refine zgc (f := 97) rfl ?_); refine goesL_ (some 33) rfl rfl Try.func97 (by kernel_rfl) rfl #[.slice A0_0 l0_0.length c0_0, .func (.func 98) #[] #[]] rfl zq5 ?_; (with_reducible refine (slices_ContainsFunc_Box_sound_CheckNet_1.calls kj1 _ _ l0_0  true _ ?side1 ?side2 A20.out).mono ?_); (case side1 => repeat (first | exact (Kd.C_below HR0_0.out HB.out) | (with_reducible refine Kd.C_alloc ?_ _) | (with_reducible refine Kd.C_drewN ?_ _) | (with_reducible refine Kd.C_drew ?_))); (case side2 => exact HC0_0.out); rintro e w23 ⟨rfl, hb⟩; refine ⟨_, rfl, ?_⟩; have n0_ := zam (zkb (g := gb101) (o := .cells #[.slice A0_0 l0_0.length c0_0, .int .i64 a0_1, .int .i64 a0_2] 26 (0, 0)) zq0 hb); have n1_ := zam (zbt zq2 hb); clear BK101; clear HB; have BK101 := n0_; have HB := n1_; clear n0_ n1_; (try clear hb); (try clear hb2); (try clear hk); (try clear hi)))
    go_ret
    exact ⟨by first | rfl | (simp [errW_none, errW_some] <;> rfl) | (simp [*, errW_none, errW_some] <;> rfl), by repeat (first | (with_reducible first | exact HB.out | apply zba | apply zbn | apply zb1 | refine zbs ?_ GE101.out) | exact HB.out)⟩
   replace c21 := Bool.eq_false_iff.mpr c21
   subst c21
   have H1 : (some 0) = some r := by rw [if_neg (show ¬ (false = true) by decide)] at H; exact H
   clear H
   have H := H1
   clear H1
   obtain rfl := zsi H
   have hcz24_0 : wc.cell? ⟨gb101, 0, none⟩ = some (.slice A0_0 l0_0.length c0_0) := (zkc BK101.out 0).trans rfl
   have hcz24_1 : wc.cell? ⟨gb101, 1, none⟩ = some (.int .i64 a0_1) := (zkc BK101.out 1).trans rfl
   have hcz24_2 : wc.cell? ⟨gb101, 2, none⟩ = some (.int .i64 a0_2) := (zkc BK101.out 2).trans rfl
   have hfz24_0 := zkz BK101.out 0
   have hfz24_1 := zkz BK101.out 1
   have hfz24_2 := zkz BK101.out 2
   go_wp2_with (first | ((with_reducible refine zgc (f := 97) rfl ?_); refine goesL_ (some 33) rfl rfl Try.func97 (by kernel_rfl) rfl #[.slice A0_0 l0_0.length c0_0, .func (.func 98) #[] #[]] rfl zq5 ?_; (with_reducible refine (slices_ContainsFunc_Box_sound_CheckNet_1.calls kj1 _ _ l0_0  false _ ?side1 ?side2 A20.out).mono ?_); (case side1 => repeat (first | exact (Kd.C_below HR0_0.out HB.out) | (with_reducible refine Kd.C_alloc ?_ _) | (with_reducible refine Kd.C_drewN ?_ _) | (with_reducible refine Kd.C_drew ?_))); (case side2 => exact HC0_0.out); rintro e w25 ⟨rfl, hb⟩; refine ⟨_, rfl, ?_⟩; have n0_ := zam (zkb (g := gb101) (o := .cells #[.slice A0_0 l0_0.length c0_0, .int .i64 a0_1, .int .i64 a0_2] 26 (0, 0)) zq0 hb); have n1_ := zam (zbt zq2 hb); clear BK101; clear HB; have BK101 := n0_; have HB := n1_; clear n0_ n1_; (try clear hb); (try clear hb2); (try clear hk); (try clear hi)))
   go_ret
   exact ⟨by first | rfl | (simp [errW_none, errW_some] <;> rfl) | (simp [*, errW_none, errW_some] <;> rfl), by repeat (first | (with_reducible first | exact HB.out | apply zba | apply zbn | apply zb1 | refine zbs ?_ GE101.out) | exact HB.out)⟩
def sound_travel.f (k : Nat) (a0_0 : Int) (a0_1 : Int) (a1_0 : Int) (a1_1 : Int) (a1_2 : Int) (a1_3 : Int) (a2_0 : Int) (a2_1 : Int) (a2_2 : Int) (a2_3 : Int) : Option (Int × Int) := (bound_Distance.f k a1_0 a1_1 a1_2 a1_3 a2_0 a2_1 a2_2 a2_3).bind fun bt105 => (if a0_1 = 0 then (none) else (if a0_0 = 0 then (none) else (some (wrap64 (Int.tdiv (wrap64 (1000 * bt105.1)) a0_1), wrap64 (Int.tdiv (wrap64 ((wrap64 ((wrap64 (1000 * bt105.2.1)) + a0_0)) - 1)) a0_0)))))
def sound_travel.T2 : Bool × List (List Nat × List Nat) := (true, [([], []), ([0], [0]), ([1], [1]), ([], []), ([3], [3]), ([2, 4], [2, 4]), ([], []), ([6], [6]), ([7], [7]), ([], []), ([9], [9]), ([8, 10], [8, 10]), ([11], [11]), ([], []), ([13], [13]), ([12, 14], [12, 14]), ([5, 15], [5, 15]), ([16, 0, 1, 2, 3, 4, 5, 6, 7, 8, 9, 10, 11, 12, 13, 14, 15, 16], [16])])
def sound_travel.B2 : List Nat := [0, 1, 3, 0, 8, 31, 0, 64, 192, 0, 512, 1984, 4032, 0, 8192, 32704, 65535, 131071]
theorem sound_travel.tab2 : rtab .any (opsOf Try.f83 2) = sound_travel.T2 := by kernel_rfl
theorem sound_travel.bits2 : waitsOk sound_travel.T2.2 sound_travel.B2 = true := by kernel_rfl
set_option maxHeartbeats 8000000 in
set_option maxRecDepth 100000 in
theorem sound_travel.calls (k : Nat) (a0_0 : Int) (a0_1 : Int) (a1_0 : Int) (a1_1 : Int) (a1_2 : Int) (a1_3 : Int) (a2_0 : Int) (a2_1 : Int) (a2_2 : Int) (a2_3 : Int) (r1 : Int) (r2 : Int) (w : World) (h : sound_travel.f k a0_0 a0_1 a1_0 a1_1 a1_2 a1_3 a2_0 a2_1 a2_2 a2_3 = some (r1, r2)) :
  Calls Try.prog 83 #[.agg #[.int .i64 a0_0, .int .i64 a0_1], .agg #[.int .i64 a1_0, .int .i64 a1_1, .int .i64 a1_2, .int .i64 a1_3], .agg #[.int .i64 a2_0, .int .i64 a2_1, .int .i64 a2_2, .int .i64 a2_3]] w fun e w' => e = .returned (.agg #[.int .i64 r1, .int .i64 r2]) ∧ Below w.heap.size w w' := by
 have hu24 := Try.underlying24
 have hu29 := Try.underlying29
 have HB := zam (Below.refl w.heap.size w)
 have H : ((bound_Distance.f k a1_0 a1_1 a1_2 a1_3 a2_0 a2_1 a2_2 a2_3).bind fun bt105 => (if a0_1 = 0 then (none) else (if a0_0 = 0 then (none) else (some (wrap64 (Int.tdiv (wrap64 (1000 * bt105.1)) a0_1), wrap64 (Int.tdiv (wrap64 ((wrap64 ((wrap64 (1000 * bt105.2.1)) + a0_0)) - 1)) a0_0)))))) = some (r1, r2) := h
 clear h
 replace H := Option.bind_eq_some_iff.mp H
 obtain ⟨⟨t105, t106, t107⟩, A40, H⟩ := H
 replace H : (if a0_1 = 0 then (none) else (if a0_0 = 0 then (none) else (some (wrap64 (Int.tdiv (wrap64 (1000 * t105)) a0_1), wrap64 (Int.tdiv (wrap64 ((wrap64 ((wrap64 (1000 * t106)) + a0_0)) - 1)) a0_0))))) = some (r1, r2) := H
 have A4 := zam A40
 clear A40
 by_cases c5 : a0_1 = 0
 ·rw [if_pos c5] at H
  exact absurd H (by simp)
 rw [if_neg c5] at H
 have c5b0 : (a0_1 == 0) = false := beq_eq_false_iff_ne.mpr c5
 have c5b1 : (a0_1 != 0) = true := bne_iff_ne.mpr c5
 by_cases c6 : a0_0 = 0
 ·rw [if_pos c6] at H
  exact absurd H (by simp)
 rw [if_neg c6] at H
 have c6b0 : (a0_0 == 0) = false := beq_eq_false_iff_ne.mpr c6
 have c6b1 : (a0_0 != 0) = true := bne_iff_ne.mpr c6
 simp only [Option.some.injEq, Prod.mk.injEq] at H
 obtain ⟨rfl, rfl⟩ := H
 go_enter Try.func83, Try.ntmps83
 try go_wp2_with (first | ((with_reducible refine zgd (N := 3) rfl ?_); refine box_event ?hg (N := 3) ?hd (cs := #[.int .i64 a0_0, .int .i64 a0_1]) (t := 24) ?hr ?_; (case hd => rfl); (case hg => rfl); (case hr => first | (go_simp; done) | (go_simp; rfl)); intro gb101 hg w7 hbox hb; have n0_ := zam (zbt zq1 hb); have n1_ := zam (hbox); have n2_ := zam ((by rw [hg]; exact (zbz zq1) : w.heap.size ≤ gb101)); have n3_ := zam ((by rw [hg]; exact (zbz zq1) : w.heap.size ≤ gb101)); clear HB; have HB := n0_; have BK101 := n1_; have GW101 := n2_; have GE101 := n3_; clear n0_ n1_ n2_ n3_; clear hb hbox hg) | ((with_reducible refine zgd (N := 4) rfl ?_); refine box_event ?hg (N := 4) ?hd (cs := #[.int .i64 a1_0, .int .i64 a1_1, .int .i64 a1_2, .int .i64 a1_3]) (t := 29) ?hr ?_; (case hd => rfl); (case hg => rfl); (case hr => first | (go_simp; done) | (go_simp; rfl)); intro gb102 hg w8 hbox hb; have n0_ := zam (zkb (g := gb101) (o := .cells #[.int .i64 a0_0, .int .i64 a0_1] 24 (0, 0)) zq0 hb); have n1_ := zam (zbt zq2 hb); have n2_ := zam (hbox); have n3_ := zam ((by rw [hg]; exact (zbz zq2) : w.heap.size ≤ gb102)); have n4_ := zam ((by rw [hg]; exact (zbz zq2) : w.heap.size ≤ gb102)); have n5_ := zam ((by rw [hg]; exact Nat.ne_of_lt (blk_lt (g := gb101) (o := .cells #[.int .i64 a0_0, .int .i64 a0_1] 24 (0, 0)) zq0) : gb101 ≠ gb102)); have n6_ := zam ((by rw [hg]; exact Nat.ne_of_gt (blk_lt (g := gb101) (o := .cells #[.int .i64 a0_0, .int .i64 a0_1] 24 (0, 0)) zq0) : gb102 ≠ gb101)); clear BK101; clear HB; have BK101 := n0_; have HB := n1_; have BK102 := n2_; have GW102 := n3_; have GE102 := n4_; have NB101_102 := n5_; have NB102_101 := n6_; clear n0_ n1_ n2_ n3_ n4_ n5_ n6_; clear hb hbox hg) | ((with_reducible refine zgd (N := 5) rfl ?_); refine box_event ?hg (N := 5) ?hd (cs := #[.int .i64 a2_0, .int .i64 a2_1, .int .i64 a2_2, .int .i64 a2_3]) (t := 29) ?hr ?_; (case hd => rfl); (case hg => rfl); (case hr => first | (go_simp; done) | (go_simp; rfl)); intro gb103 hg w9 hbox hb; have n0_ := zam (zkb (g := gb101) (o := .cells #[.int .i64 a0_0, .int .i64 a0_1] 24 (0, 0)) zq0 hb); have n1_ := zam (zkb (g := gb102) (o := .cells #[.int .i64 a1_0, .int .i64 a1_1, .int .i64 a1_2, .int .i64 a1_3] 29 (0, 0)) zq4 hb); have n2_ := zam (zbt zq11 hb); have n3_ := zam (hbox); have n4_ := zam ((by rw [hg]; exact (zbz zq11) : w.heap.size ≤ gb103)); have n5_ := zam ((by rw [hg]; exact (zbz zq11) : w.heap.size ≤ gb103)); have n6_ := zam ((by rw [hg]; exact Nat.ne_of_lt (blk_lt (g := gb101) (o := .cells #[.int .i64 a0_0, .int .i64 a0_1] 24 (0, 0)) zq0) : gb101 ≠ gb103)); have n7_ := zam ((by rw [hg]; exact Nat.ne_of_gt (blk_lt (g := gb101) (o := .cells #[.int .i64 a0_0, .int .i64 a0_1] 24 (0, 0)) zq0) : gb103 ≠ gb101)); have n8_ := zam ((by rw [hg]; exact Nat.ne_of_lt (blk_lt (g := gb102) (o := .cells #[.int .i64 a1_0, .int .i64 a1_1, .int .i64 a1_2, .int .i64 a1_3] 29 (0, 0)) zq4) : gb102 ≠ gb103)); have n9_ := zam ((by rw [hg]; exact Nat.ne_of_gt (blk_lt (g := gb102) (o := .cells #[.int .i64 a1_0, .int .i64 a1_1, .int .i64 a1_2, .int .i64 a1_3] 29 (0, 0)) zq4) : gb103 ≠ gb102)); clear BK101; clear BK102; clear HB; have BK101 := n0_; have BK102 := n1_; have HB := n2_; have BK103 := n3_; have GW103 := n4_; have GE103 := n5_; have NB101_103 := n6_; have NB103_101 := n7_; have NB102_103 := n8_; have NB103_102 := n9_; clear n0_ n1_ n2_ n3_ n4_ n5_ n6_ n7_ n8_ n9_; clear hb hbox hg) | ((with_reducible refine zgd (N := 6) rfl ?_); refine box_event ?hg (N := 6) ?hd (cs := #[.int .i64 0, .int .i64 0]) (t := 24) ?hr ?_; (case hd => rfl); (case hg => rfl); (case hr => first | (go_simp; done) | (go_simp; rfl)); intro gb104 hg w10 hbox hb; have n0_ := zam (zkb (g := gb101) (o := .cells #[.int .i64 a0_0, .int .i64 a0_1] 24 (0, 0)) zq0 hb); have n1_ := zam (zkb (g := gb102) (o := .cells #[.int .i64 a1_0, .int .i64 a1_1, .int .i64 a1_2, .int .i64 a1_3] 29 (0, 0)) zq4 hb); have n2_ := zam (zkb (g := gb103) (o := .cells #[.int .i64 a2_0, .int .i64 a2_1, .int .i64 a2_2, .int .i64 a2_3] 29 (0, 0)) zq6 hb); have n3_ := zam (zbt zq15 hb); have n4_ := zam (hbox); have n5_ := zam ((by rw [hg]; exact (zbz zq15) : w.heap.size ≤ gb104)); have n6_ := zam ((by rw [hg]; exact (zbz zq15) : w.heap.size ≤ gb104)); have n7_ := zam ((by rw [hg]; exact Nat.ne_of_lt (blk_lt (g := gb101) (o := .cells #[.int .i64 a0_0, .int .i64 a0_1] 24 (0, 0)) zq0) : gb101 ≠ gb104)); have n8_ := zam ((by rw [hg]; exact Nat.ne_of_gt (blk_lt (g := gb101) (o := .cells #[.int .i64 a0_0, .int .i64 a0_1] 24 (0, 0)) zq0) : gb104 ≠ gb101)); have n9_ := zam ((by rw [hg]; exact Nat.ne_of_lt (blk_lt (g := gb102) (o := .cells #[.int .i64 a1_0, .int .i64 a1_1, .int .i64 a1_2, .int .i64 a1_3] 29 (0, 0)) zq4) : gb102 ≠ gb104)); have n10_ := zam ((by rw [hg]; exact Nat.ne_of_gt (blk_lt (g := gb102) (o := .cells #[.int .i64 a1_0, .int .i64 a1_1, .int .i64 a1_2, .int .i64 a1_3] 29 (0, 0)) zq4) : gb104 ≠ gb102)); have n11_ := zam ((by rw [hg]; exact Nat.ne_of_lt (blk_lt (g := gb103) (o := .cells #[.int .i64 a2_0, .int .i64 a2_1, .int .i64 a2_2, .int .i64 a2_3] 29 (0, 0)) zq6) : gb103 ≠ gb104)); have n12_ := zam ((by rw [hg]; exact Nat.ne_of_gt (blk_lt (g := gb103) (o := .cells #[.int .i64 a2_0, .int .i64 a2_1, .int .i64 a2_2, .int .i64 a2_3] 29 (0, 0)) zq6) : gb104 ≠ gb103)); clear BK101; clear BK102; clear BK103; clear HB; have BK101 := n0_; have BK102 := n1_; have BK103 := n2_; have HB := n3_; have BK104 := n4_; have GW104 := n5_; have GE104 := n6_; have NB101_104 := n7_; have NB104_101 := n8_; have NB102_104 := n9_; have NB104_102 := n10_; have NB103_104 := n11_; have NB104_103 := n12_; clear n0_ n1_ n2_ n3_ n4_ n5_ n6_ n7_ n8_ n9_ n10_ n11_ n12_; clear hb hbox hg; have hnb11 := NB102_101.out; have hnc11 := NB101_102.out; have hnb12 := NB102_103.out; have hnc12 := NB103_102.out; have hnb13 := NB102_104.out; have hnc13 := NB104_102.out; have hcz14_0 : w10.cell? ⟨gb102, 0, none⟩ = some (.int .i64 a1_0) := (zkc BK102.out 0).trans rfl; have hcz14_1 : w10.cell? ⟨gb102, 1, none⟩ = some (.int .i64 a1_1) := (zkc BK102.out 1).trans rfl; have hcz14_2 : w10.cell? ⟨gb102, 2, none⟩ = some (.int .i64 a1_2) := (zkc BK102.out 2).trans rfl; have hcz14_3 : w10.cell? ⟨gb102, 3, none⟩ = some (.int .i64 a1_3) := (zkc BK102.out 3).trans rfl; have hfz14_0 := zkz BK102.out 0; have hfz14_1 := zkz BK102.out 1; have hfz14_2 := zkz BK102.out 2; have hfz14_3 := zkz BK102.out 3; have hnb15 := NB103_101.out; have hnc15 := NB101_103.out; have hnb16 := NB103_104.out; have hnc16 := NB104_103.out; have hcz17_0 : w10.cell? ⟨gb103, 0, none⟩ = some (.int .i64 a2_0) := (zkc BK103.out 0).trans rfl; have hcz17_1 : w10.cell? ⟨gb103, 1, none⟩ = some (.int .i64 a2_1) := (zkc BK103.out 1).trans rfl; have hcz17_2 : w10.cell? ⟨gb103, 2, none⟩ = some (.int .i64 a2_2) := (zkc BK103.out 2).trans rfl; have hcz17_3 : w10.cell? ⟨gb103, 3, none⟩ = some (.int .i64 a2_3) := (zkc BK103.out 3).trans rfl; have hfz17_0 := zkz BK103.out 0; have hfz17_1 := zkz BK103.out 1; have hfz17_2 := zkz BK103.out 2; have hfz17_3 := zkz BK103.out 3) | ((with_reducible refine zgc (f := 120) rfl ?_); refine goesL_ (some 12) rfl rfl Try.func120 (by kernel_rfl) rfl #[.agg #[.int .i64 a1_0, .int .i64 a1_1, .int .i64 a1_2, .int .i64 a1_3], .agg #[.int .i64 a2_0, .int .i64 a2_1, .int .i64 a2_2, .int .i64 a2_3]] rfl zq5 ?_; (with_reducible refine (bound_Distance.calls k a1_0 a1_1 a1_2 a1_3 a2_0 a2_1 a2_2 a2_3 t105 t106 t107 _ A4.out).mono ?_); rintro e w18 ⟨rfl, hb⟩; refine ⟨_, rfl, ?_⟩; have n0_ := zam (zkb (g := gb101) (o := .cells #[.int .i64 a0_0, .int .i64 a0_1] 24 (0, 0)) zq0 hb); have n1_ := zam (zkb (g := gb102) (o := .cells #[.int .i64 a1_0, .int .i64 a1_1, .int .i64 a1_2, .int .i64 a1_3] 29 (0, 0)) zq4 hb); have n2_ := zam (zkb (g := gb103) (o := .cells #[.int .i64 a2_0, .int .i64 a2_1, .int .i64 a2_2, .int .i64 a2_3] 29 (0, 0)) zq6 hb); have n3_ := zam (zkb (g := gb104) (o := .cells #[.int .i64 0, .int .i64 0] 24 (0, 0)) zq7 hb); have n4_ := zam (zbt zq8 hb); clear BK101; clear BK102; clear BK103; clear BK104; clear HB; have BK101 := n0_; have BK102 := n1_; have BK103 := n2_; have BK104 := n3_; have HB := n4_; clear n0_ n1_ n2_ n3_ n4_; (try clear hb); (try clear hb2); (try clear hk); (try clear hi)) | ((with_reducible refine zgd (N := 7) rfl ?_); refine box_event ?hg (N := 7) ?hd (cs := #[.int .i64 0, .int .i64 0]) (t := 24) ?hr ?_; (case hd => rfl); (case hg => rfl); (case hr => first | (go_simp; done) | (go_simp; rfl)); intro gb108 hg w19 hbox hb; have n0_ := zam (zkb (g := gb101) (o := .cells #[.int .i64 a0_0, .int .i64 a0_1] 24 (0, 0)) zq0 hb); have n1_ := zam (zkb (g := gb102) (o := .cells #[.int .i64 a1_0, .int .i64 a1_1, .int .i64 a1_2, .int .i64 a1_3] 29 (0, 0)) zq4 hb); have n2_ := zam (zkb (g := gb103) (o := .cells #[.int .i64 a2_0, .int .i64 a2_1, .int .i64 a2_2, .int .i64 a2_3] 29 (0, 0)) zq6 hb); have n3_ := zam (zkb (g := gb104) (o := .cells #[.int .i64 0, .int .i64 0] 24 (0, 0)) zq7 hb); have n4_ := zam (zbt zq8 hb); have n5_ := zam (hbox); have n6_ := zam ((by rw [hg]; exact (zbz zq8) : w.heap.size ≤ gb108)); have n7_ := zam ((by rw [hg]; exact (zbz zq8) : w.heap.size ≤ gb108)); have n8_ := zam ((by rw [hg]; exact Nat.ne_of_lt (blk_lt (g := gb101) (o := .cells #[.int .i64 a0_0, .int .i64 a0_1] 24 (0, 0)) zq0) : gb101 ≠ gb108)); have n9_ := zam ((by rw [hg]; exact Nat.ne_of_gt (blk_lt (g := gb101) (o := .cells #[.int .i64 a0_0, .int .i64 a0_1] 24 (0, 0)) zq0) : gb108 ≠ gb101)); have n10_ := zam ((by rw [hg]; exact Nat.ne_of_lt (blk_lt (g := gb102) (o := .cells #[.int .i64 a1_0, .int .i64 a1_1, .int .i64 a1_2, .int .i64 a1_3] 29 (0, 0)) zq4) : gb102 ≠ gb108)); have n11_ := zam ((by rw [hg]; exact Nat.ne_of_gt (blk_lt (g := gb102) (o := .cells #[.int .i64 a1_0, .int .i64 a1_1, .int .i64 a1_2, .int .i64 a1_3] 29 (0, 0)) zq4) : gb108 ≠ gb102)); have n12_ := zam ((by rw [hg]; exact Nat.ne_of_lt (blk_lt (g := gb103) (o := .cells #[.int .i64 a2_0, .int .i64 a2_1, .int .i64 a2_2, .int .i64 a2_3] 29 (0, 0)) zq6) : gb103 ≠ gb108)); have n13_ := zam ((by rw [hg]; exact Nat.ne_of_gt (blk_lt (g := gb103) (o := .cells #[.int .i64 a2_0, .int .i64 a2_1, .int .i64 a2_2, .int .i64 a2_3] 29 (0, 0)) zq6) : gb108 ≠ gb103)); have n14_ := zam ((by rw [hg]; exact Nat.ne_of_lt (blk_lt (g := gb104) (o := .cells #[.int .i64 0, .int .i64 0] 24 (0, 0)) zq7) : gb104 ≠ gb108)); have n15_ := zam ((by rw [hg]; exact Nat.ne_of_gt (blk_lt (g := gb104) (o := .cells #[.int .i64 0, .int .i64 0] 24 (0, 0)) zq7) : gb108 ≠ gb104)); clear BK101; clear BK102; clear BK103; clear BK104; clear HB; have BK101 := n0_; have BK102 := n1_; have BK103 := n2_; have BK104 := n3_; have HB := n4_; have BK108 := n5_; have GW108 := n6_; have GE108 := n7_; have NB101_108 := n8_; have NB108_101 := n9_; have NB102_108 := n10_; have NB108_102 := n11_; have NB103_108 := n12_; have NB108_103 := n13_; have NB104_108 := n14_; have NB108_104 := n15_; clear n0_ n1_ n2_ n3_ n4_ n5_ n6_ n7_ n8_ n9_ n10_ n11_ n12_ n13_ n14_ n15_; clear hb hbox hg; have hnb20 := NB108_101.out; have hnc20 := NB101_108.out; have hnb21 := NB108_102.out; have hnc21 := NB102_108.out; have hnb22 := NB108_103.out; have hnc22 := NB103_108.out; have hnb23 := NB108_104.out; have hnc23 := NB104_108.out; have hcz24_0 : w19.cell? ⟨gb108, 0, none⟩ = some (.int .i64 0) := (zkc BK108.out 0).trans rfl; have hcz24_1 : w19.cell? ⟨gb108, 1, none⟩ = some (.int .i64 0) := (zkc BK108.out 1).trans rfl; have hfz24_0 := zkz BK108.out 0; have hfz24_1 := zkz BK108.out 1))
 have n0_ : Aside0 (((w19.setCell ⟨gb108, 0, none⟩ (.int .i64 t105)).setCell ⟨gb108, 1, none⟩ (.int .i64 t106)).heap[gb101]? = some (.cells #[.int .i64 a0_0, .int .i64 a0_1] 24 (0, 0))) := ⟨by (with_reducible repeat (first | refine zkn ?_ _ | refine zkd ?_ | refine zka ?_ _)); refine zkf ?_ NB101_108.out _; (with_reducible repeat (first | refine zkn ?_ _ | refine zkd ?_ | refine zka ?_ _)); refine zkf ?_ NB101_108.out _; (with_reducible repeat (first | refine zkn ?_ _ | refine zkd ?_ | refine zka ?_ _)); exact BK101.out⟩
 have n1_ : Aside0 (((w19.setCell ⟨gb108, 0, none⟩ (.int .i64 t105)).setCell ⟨gb108, 1, none⟩ (.int .i64 t106)).heap[gb102]? = some (.cells #[.int .i64 a1_0, .int .i64 a1_1, .int .i64 a1_2, .int .i64 a1_3] 29 (0, 0))) := ⟨by (with_reducible repeat (first | refine zkn ?_ _ | refine zkd ?_ | refine zka ?_ _)); refine zkf ?_ NB102_108.out _; (with_reducible repeat (first | refine zkn ?_ _ | refine zkd ?_ | refine zka ?_ _)); refine zkf ?_ NB102_108.out _; (with_reducible repeat (first | refine zkn ?_ _ | refine zkd ?_ | refine zka ?_ _)); exact BK102.out⟩
 have n2_ : Aside0 (((w19.setCell ⟨gb108, 0, none⟩ (.int .i64 t105)).setCell ⟨gb108, 1, none⟩ (.int .i64 t106)).heap[gb103]? = some (.cells #[.int .i64 a2_0, .int .i64 a2_1, .int .i64 a2_2, .int .i64 a2_3] 29 (0, 0))) := ⟨by (with_reducible repeat (first | refine zkn ?_ _ | refine zkd ?_ | refine zka ?_ _)); refine zkf ?_ NB103_108.out _; (with_reducible repeat (first | refine zkn ?_ _ | refine zkd ?_ | refine zka ?_ _)); refine zkf ?_ NB103_108.out _; (with_reducible repeat (first | refine zkn ?_ _ | refine zkd ?_ | refine zka ?_ _)); exact BK103.out⟩
 have n3_ : Aside0 (((w19.setCell ⟨gb108, 0, none⟩ (.int .i64 t105)).setCell ⟨gb108, 1, none⟩ (.int .i64 t106)).heap[gb104]? = some (.cells #[.int .i64 0, .int .i64 0] 24 (0, 0))) := ⟨by (with_reducible repeat (first | refine zkn ?_ _ | refine zkd ?_ | refine zka ?_ _)); refine zkf ?_ NB104_108.out _; (with_reducible repeat (first | refine zkn ?_ _ | refine zkd ?_ | refine zka ?_ _)); refine zkf ?_ NB104_108.out _; (with_reducible repeat (first | refine zkn ?_ _ | refine zkd ?_ | refine zka ?_ _)); exact BK104.out⟩
 have n4_ : Aside0 (((w19.setCell ⟨gb108, 0, none⟩ (.int .i64 t105)).setCell ⟨gb108, 1, none⟩ (.int .i64 t106)).heap[gb108]? = some (.cells #[.int .i64 t105, .int .i64 t106] 24 (0, 0))) := ⟨by (with_reducible repeat (first | refine zkn ?_ _ | refine zkd ?_ | refine zka ?_ _)); refine blk_put (cs := #[.int .i64 t105, .int .i64 0]) ?_ 1 _ rfl; (with_reducible repeat (first | refine zkn ?_ _ | refine zkd ?_ | refine zka ?_ _)); refine blk_put (cs := #[.int .i64 0, .int .i64 0]) ?_ 0 _ rfl; (with_reducible repeat (first | refine zkn ?_ _ | refine zkd ?_ | refine zka ?_ _)); exact BK108.out⟩
 have n5_ : Aside0 (Below w.heap.size w ((w19.setCell ⟨gb108, 0, none⟩ (.int .i64 t105)).setCell ⟨gb108, 1, none⟩ (.int .i64 t106))) := ⟨by repeat (first | (with_reducible first | exact HB.out | apply zba | apply zbn | apply zb1 | refine zbs ?_ GE101.out | refine zbs ?_ GE102.out | refine zbs ?_ GE103.out | refine zbs ?_ GE104.out | refine zbs ?_ GE108.out) | exact HB.out)⟩
 (try clear BK101)
 (try clear BK102)
 (try clear BK103)
 (try clear BK104)
 (try clear BK108)
 (try clear HB)
 generalize ((w19.setCell ⟨gb108, 0, none⟩ (.int .i64 t105)).setCell ⟨gb108, 1, none⟩ (.int .i64 t106)) = w25 at n0_ n1_ n2_ n3_ n4_ n5_ ⊢
 have BK101 := n0_
 have BK102 := n1_
 have BK103 := n2_
 have BK104 := n3_
 have BK108 := n4_
 have HB := n5_
 clear n0_ n1_ n2_ n3_ n4_ n5_
 have n0_ := zam (zkd BK101.out)
 have n1_ := zam (zkd BK102.out)
 have n2_ := zam (zkd BK103.out)
 have n3_ := zam (zkd BK104.out)
 have n4_ := zam (zkd BK108.out)
 have n5_ := zam (zb1 HB.out)
 clear BK101
 clear BK102
 clear BK103
 clear BK104
 clear BK108
 clear HB
 have BK101 := n0_
 have BK102 := n1_
 have BK103 := n2_
 have BK104 := n3_
 have BK108 := n4_
 have HB := n5_
 clear n0_ n1_ n2_ n3_ n4_ n5_
 refine start_ (n := 18) (S := fun w' => w'.cell? ⟨gb108, 0, none⟩ = some (.int .i64 t105) ∧ w'.cell? ⟨gb108, 1, none⟩ = some (.int .i64 t106) ∧ w'.cell? ⟨gb101, 0, none⟩ = some (.int .i64 a0_0) ∧ w'.cell? ⟨gb101, 1, none⟩ = some (.int .i64 a0_1)) (ds := []) #[false, false, false, false, false, false, false, false, false, false, false, false, false, false, false, false, false, false] (by kernel_rfl) rfl rfl ⟨(zkc BK108.out 0).trans rfl, (zkc BK108.out 1).trans rfl, (zkc BK101.out 0).trans rfl, (zkc BK101.out 1).trans rfl⟩ (fun hHeld => ?_); refine with_tabW sound_travel.tab2 sound_travel.bits2 (fun HT_ HW_ => ?_)
 generalize w25.drew = w26 at BK101 BK102 BK103 BK104 BK108 HB hHeld ⊢
 refine pure_ (i := 0) (N := some 15) (v := ?_) (a' := ?_) #[true, false, false, false, false, false, false, false, false, false, false, false, false, false, false, false, false, false] rfl rfl (any_of HT_.out (by kernel_rfl)) (fun _ _ _ h => h) (Or.inl ⟨by rfl, ?_⟩) ?_ ?_
 rotate_left
 ·intro w'
  go_simp
  with_reducible rfl
 rotate_left
 ·simp only [Act.put, zsa, zsz, zss, i64_w, i32_w]
  rfl
 refine pure_ (i := 3) (N := some 18) (v := ?_) (a' := ?_) #[true, false, false, true, false, false, false, false, false, false, false, false, false, false, false, false, false, false] rfl rfl (any_of HT_.out (by kernel_rfl)) (fun _ _ _ h => h) (Or.inl ⟨by rfl, ?_⟩) ?_ ?_
 rotate_left
 ·intro w'
  go_simp
  with_reducible rfl
 rotate_left
 ·simp only [Act.put, zsa, zsz, zss, i64_w, i32_w]
  rfl
 refine pure_ (i := 6) (N := some 21) (v := ?_) (a' := ?_) #[true, false, false, true, false, false, true, false, false, false, false, false, false, false, false, false, false, false] rfl rfl (any_of HT_.out (by kernel_rfl)) (fun _ _ _ h => h) (Or.inl ⟨by rfl, ?_⟩) ?_ ?_
 rotate_left
 ·intro w'
  go_simp
  with_reducible rfl
 rotate_left
 ·simp only [Act.put, zsa, zsz, zss, i64_w, i32_w]
  rfl
 refine pure_ (i := 9) (N := some 24) (v := ?_) (a' := ?_) #[true, false, false, true, false, false, true, false, false, true, false, false, false, false, false, false, false, false] rfl rfl (any_of HT_.out (by kernel_rfl)) (fun _ _ _ h => h) (Or.inl ⟨by rfl, ?_⟩) ?_ ?_
 rotate_left
 ·intro w'
  go_simp
  with_reducible rfl
 rotate_left
 ·simp only [Act.put, zsa, zsz, zss, i64_w, i32_w]
  rfl
 refine pure_ (i := 13) (N := some 28) (v := ?_) (a' := ?_) #[true, false, false, true, false, false, true, false, false, true, false, false, false, true, false, false, false, false] rfl rfl (any_of HT_.out (by kernel_rfl)) (fun _ _ _ h => h) (Or.inl ⟨by rfl, ?_⟩) ?_ ?_
 rotate_left
 ·intro w'
  go_simp
  with_reducible rfl
 rotate_left
 ·simp only [Act.put, zsa, zsz, zss, i64_w, i32_w]
  rfl
 refine take_ (i := 1) (N := some 16) (v := ?_) (a' := ?_) #[true, true, false, true, false, false, true, false, false, true, false, false, false, true, false, false, false, false] rfl rfl (take_ofW HT_.out HW_.out (by kernel_rfl)) (fun _ _ _ h => h) (Or.inl ⟨by rfl, ?_⟩) hHeld ?_ ?_
 rotate_left
 ·rintro w' ⟨s0, s1, s2, s3⟩
  go_simp
  with_reducible rfl
 rotate_left
 ·simp only [Act.put, zsa, zsz, zss, i64_w, i32_w]
  rfl
 refine pure_ (i := 2) (N := some 17) (v := ?_) (a' := ?_) #[true, true, true, true, false, false, true, false, false, true, false, false, false, true, false, false, false, false] rfl rfl (any_of HT_.out (by kernel_rfl)) (fun _ _ _ h => h) (Or.inl ⟨by rfl, ?_⟩) ?_ ?_
 rotate_left
 ·intro w'
  go_simp
  with_reducible rfl
 rotate_left
 ·simp only [Act.put, zsa, zsz, zss, i64_w, i32_w]
  rfl
 refine take_ (i := 4) (N := some 19) (v := ?_) (a' := ?_) #[true, true, true, true, true, false, true, false, false, true, false, false, false, true, false, false, false, false] rfl rfl (take_ofW HT_.out HW_.out (by kernel_rfl)) (fun _ _ _ h => h) (Or.inl ⟨by rfl, ?_⟩) hHeld ?_ ?_
 rotate_left
 ·rintro w' ⟨s0, s1, s2, s3⟩
  go_simp
  with_reducible rfl
 rotate_left
 ·simp only [Act.put, zsa, zsz, zss, i64_w, i32_w]
  rfl
 refine pure_ (i := 5) (N := some 20) (v := ?_) (a' := ?_) #[true, true, true, true, true, true, true, false, false, true, false, false, false, true, false, false, false, false] rfl rfl (any_of HT_.out (by kernel_rfl)) (fun _ _ _ h => h) (Or.inl ⟨by rfl, ?_⟩) ?_ ?_
 rotate_left
 ·intro w'
  go_simp
  with_reducible rfl
 rotate_left
 ·simp only [Act.put, zsa, zsz, zss, i64_w, i32_w]
  rfl
 refine take_ (i := 7) (N := some 22) (v := ?_) (a' := ?_) #[true, true, true, true, true, true, true, true, false, true, false, false, false, true, false, false, false, false] rfl rfl (take_ofW HT_.out HW_.out (by kernel_rfl)) (fun _ _ _ h => h) (Or.inl ⟨by rfl, ?_⟩) hHeld ?_ ?_
 rotate_left
 ·rintro w' ⟨s0, s1, s2, s3⟩
  go_simp
  with_reducible rfl
 rotate_left
 ·simp only [Act.put, zsa, zsz, zss, i64_w, i32_w]
  rfl
 refine pure_ (i := 8) (N := some 23) (v := ?_) (a' := ?_) #[true, true, true, true, true, true, true, true, true, true, false, false, false, true, false, false, false, false] rfl rfl (any_of HT_.out (by kernel_rfl)) (fun _ _ _ h => h) (Or.inl ⟨by rfl, ?_⟩) ?_ ?_
 rotate_left
 ·intro w'
  go_simp
  with_reducible rfl
 rotate_left
 ·simp only [Act.put, zsa, zsz, zss, i64_w, i32_w]
  rfl
 refine take_ (i := 10) (N := some 25) (v := ?_) (a' := ?_) #[true, true, true, true, true, true, true, true, true, true, true, false, false, true, false, false, false, false] rfl rfl (take_ofW HT_.out HW_.out (by kernel_rfl)) (fun _ _ _ h => h) (Or.inl ⟨by rfl, ?_⟩) hHeld ?_ ?_
 rotate_left
 ·rintro w' ⟨s0, s1, s2, s3⟩
  go_simp
  with_reducible rfl
 rotate_left
 ·simp only [Act.put, zsa, zsz, zss, i64_w, i32_w]
  rfl
 refine pure_ (i := 11) (N := some 26) (v := ?_) (a' := ?_) #[true, true, true, true, true, true, true, true, true, true, true, true, false, true, false, false, false, false] rfl rfl (any_of HT_.out (by kernel_rfl)) (fun _ _ _ h => h) (Or.inl ⟨by rfl, ?_⟩) ?_ ?_
 rotate_left
 ·intro w'
  go_simp
  with_reducible rfl
 rotate_left
 ·simp only [Act.put, zsa, zsz, zss, i64_w, i32_w]
  rfl
 refine pure_ (i := 12) (N := some 27) (v := ?_) (a' := ?_) #[true, true, true, true, true, true, true, true, true, true, true, true, true, true, false, false, false, false] rfl rfl (any_of HT_.out (by kernel_rfl)) (fun _ _ _ h => h) (Or.inl ⟨by rfl, ?_⟩) ?_ ?_
 rotate_left
 ·intro w'
  go_simp
  with_reducible rfl
 rotate_left
 ·simp only [Act.put, zsa, zsz, zss, i64_w, i32_w]
  rfl
 refine take_ (i := 14) (N := some 29) (v := ?_) (a' := ?_) #[true, true, true, true, true, true, true, true, true, true, true, true, true, true, true, false, false, false] rfl rfl (take_ofW HT_.out HW_.out (by kernel_rfl)) (fun _ _ _ h => h) (Or.inl ⟨by rfl, ?_⟩) hHeld ?_ ?_
 rotate_left
 ·rintro w' ⟨s0, s1, s2, s3⟩
  go_simp
  with_reducible rfl
 rotate_left
 ·simp only [Act.put, zsa, zsz, zss, i64_w, i32_w]
  rfl
 refine pure_ (i := 15) (N := some 30) (v := ?_) (a' := ?_) #[true, true, true, true, true, true, true, true, true, true, true, true, true, true, true, true, false, false] rfl rfl (any_of HT_.out (by kernel_rfl)) (fun _ _ _ h => h) (Or.inl ⟨by rfl, ?_⟩) ?_ ?_
 rotate_left
 ·intro w'
  go_simp
  with_reducible rfl
 rotate_left
 ·simp only [Act.put, zsa, zsz, zss, i64_w, i32_w]
  rfl
 refine pure_ (i := 16) (N := some 31) (v := ?_) (a' := ?_) #[true, true, true, true, true, true, true, true, true, true, true, true, true, true, true, true, true, false] rfl rfl (any_of HT_.out (by kernel_rfl)) (fun _ _ _ h => h) (Or.inl ⟨by rfl, ?_⟩) ?_ ?_
 rotate_left
 ·intro w'
  go_simp
  with_reducible rfl
 rotate_left
 ·simp only [Act.put, zsa, zsz, zss, i64_w, i32_w]
  rfl
 refine one_ (i := 17) (N := none) #[true, true, true, true, true, true, true, true, true, true, true, true, true, true, true, true, true, true] rfl rfl (one_of HT_.out (by kernel_rfl)) (by decide) (fun K hK => ?_)
 have hs27 : w26.cell? ⟨gb104, 0, none⟩ = some (.int .i64 0) := (zkc BK104.out 0).trans rfl
 have hfs27 := zkz BK104.out 0
 have hns27_0 := NB101_104.out
 have hns27_1 := NB102_104.out
 have hns27_2 := NB103_104.out
 have hns27_4 := NB108_104.out
 have hms27_0 := NB104_101.out
 have hms27_1 := NB104_102.out
 have hms27_2 := NB104_103.out
 have hms27_4 := NB104_108.out
 have hs28 : w26.cell? ⟨gb104, 1, none⟩ = some (.int .i64 0) := (zkc BK104.out 1).trans rfl
 have hfs28 := zkz BK104.out 1
 have hns28_0 := NB101_104.out
 have hns28_1 := NB102_104.out
 have hns28_2 := NB103_104.out
 have hns28_4 := NB108_104.out
 have hms28_0 := NB104_101.out
 have hms28_1 := NB104_102.out
 have hms28_2 := NB104_103.out
 have hms28_4 := NB104_108.out
 refine skip_ (w1 := ?_) (by rfl) rfl ?_ ?_
 rotate_left
 ·go_simp
  rfl
 refine hK.out _ _ ⟨((cell_far (p := ⟨gb104, _, none⟩) NB108_104.out _).trans (((cell_far (p := ⟨gb104, _, none⟩) NB108_104.out _).trans (hHeld.1)))), ((cell_far (p := ⟨gb104, _, none⟩) NB108_104.out _).trans (((cell_far (p := ⟨gb104, _, none⟩) NB108_104.out _).trans (hHeld.2.1)))), ((cell_far (p := ⟨gb104, _, none⟩) NB101_104.out _).trans (((cell_far (p := ⟨gb104, _, none⟩) NB101_104.out _).trans (hHeld.2.2.1)))), ((cell_far (p := ⟨gb104, _, none⟩) NB101_104.out _).trans (((cell_far (p := ⟨gb104, _, none⟩) NB101_104.out _).trans (hHeld.2.2.2))))⟩ (fun hHeld => ?_)
 clear hK K
 refine done_ (done_of HT_.out (by kernel_rfl)) ?_
 try go_wp2
 refine bodyPost_ret (results_cell_row rfl _ _ gb104 24 #[.int .i64 (wrap64 (Int.tdiv (wrap64 (1000 * t105)) a0_1)), .int .i64 (wrap64 (Int.tdiv (wrap64 ((wrap64 ((wrap64 (1000 * t106)) + a0_0)) - 1)) a0_0))] (0, 0) _ rfl (by (with_reducible repeat (first | refine zkn ?_ _ | refine zkd ?_ | refine zka ?_ _)); refine blk_put (cs := #[.int .i64 (wrap64 (Int.tdiv (wrap64 (1000 * t105)) a0_1)), .int .i64 0]) ?_ 1 _ rfl; (with_reducible repeat (first | refine zkn ?_ _ | refine zkd ?_ | refine zka ?_ _)); refine blk_put (cs := #[.int .i64 0, .int .i64 0]) ?_ 0 _ rfl; (with_reducible repeat (first | refine zkn ?_ _ | refine zkd ?_ | refine zka ?_ _)); exact BK104.out) Try.underlying24 rfl (by kernel_rfl)) rfl ?_
 exact ⟨by first | rfl | (simp [errW_none, errW_some] <;> rfl) | (simp [*, errW_none, errW_some] <;> rfl), by repeat (first | (with_reducible first | exact HB.out | apply zba | apply zbn | apply zb1 | refine zbs ?_ GE101.out | refine zbs ?_ GE102.out | refine zbs ?_ GE103.out | refine zbs ?_ GE104.out | refine zbs ?_ GE108.out) | exact HB.out)⟩
def Sp.vb (b : S29) : Bool := decide (Bo.vb b.f0.f0 b.f0.f1 b.f1.f0 b.f1.f1)
theorem Sp.rdB (xs : List S29) (i : Nat) (h : i < xs.length) : rd_T29 xs (i : Int) = xs[i] := by simp [rd_T29, List.getD, h]
def Sp.nok (st : List S29) (lo hi : Int) : Prop := 2 ≤ st.length ∧ st.length ≤ 8 ∧ Bo.v lo hi ∧ 1 ≤ lo ∧ hi ≤ 20000 ∧ st.all Sp.vb = true
instance (st : List S29) (lo hi : Int) : Decidable (Sp.nok st lo hi) := by unfold Sp.nok Bo.v; infer_instance
def Sp.net (st : List S29) (lo hi : Int) : Int := if Sp.nok st lo hi then 0 else 2
theorem Sp.net_1 (b : S29) {k : Nat} (hk : 20 ≤ k) : sound_CheckNet_1.f k b.f0.f0 b.f0.f1 b.f1.f0 b.f1.f1 = some (!Sp.vb b) := by
 unfold sound_CheckNet_1.f
 rw [Bo.vb_b _ _ _ _ hk, Option.bind_some]
 by_cases h : Bo.vb b.f0.f0 b.f0.f1 b.f1.f0 b.f1.f1
 ·simp [h, Sp.vb]
 simp [h, Sp.vb]
theorem Sp.net_l0 (xs : List S29) (hl : xs.length ≤ 9223372036854775807) : ∀ (n k i : Nat), i + n = xs.length → n + 20 < k → ∃ t, slices_IndexFunc_Box_sound_CheckNet_1.l0 k xs (xs.length : Int) (i : Int) = some t ∧ (0 ≤ t ↔ (xs.drop i).any (fun s => !Sp.vb s) = true)
 | 0, k, i, hi, hk => by
  obtain ⟨k, rfl⟩ : ∃ m, k = m + 1 := ⟨k - 1, by omega⟩
  rw [slices_IndexFunc_Box_sound_CheckNet_1.l0, if_neg (by omega), List.drop_eq_nil_of_le (by omega)]
  exact ⟨_, rfl, by simp⟩
 | n + 1, k, i, hi, hk => by
  obtain ⟨k, rfl⟩ : ∃ m, k = m + 1 := ⟨k - 1, by omega⟩
  have hlt : i < xs.length := by omega
  rw [slices_IndexFunc_Box_sound_CheckNet_1.l0, if_pos (by omega), if_pos (by omega), if_pos (by omega), Sp.rdB xs i hlt, Sp.net_1 _ (by omega), Option.bind_some, drop_cons hlt, List.any_cons]
  by_cases h : Sp.vb xs[i] = true
  ·rw [if_neg (by simp [h]), wrap_succ hlt hl]
   obtain ⟨t, e, h2⟩ := Sp.net_l0 xs hl n k (i + 1) (by omega) (by omega)
   exact ⟨t, e, by rw [h2]; simp [h]⟩
  rw [if_pos (by simp [h])]
  exact ⟨_, rfl, by simp [h]⟩
theorem Sp.net_b (st : List S29) (lo hi : Int) {k : Nat} (hk : 40 ≤ k) : sound_CheckNet.f k st lo hi = some (Sp.net st lo hi) := by
 obtain ⟨k, rfl⟩ : ∃ m, k = m + 1 := ⟨k - 1, by omega⟩
 have bad : ¬ Sp.nok st lo hi → sound_CheckNet.j0 (k + 1) true st lo hi = some (Sp.net st lo hi) := fun h => by
  unfold Sp.net
  rw [sound_CheckNet.j0, if_pos rfl, if_neg h]
 unfold sound_CheckNet.f
 by_cases h1 : (st.length : Int) < 2
 ·rw [if_pos h1]
  exact bad fun h => by have := h.1; omega
 rw [if_neg h1]
 by_cases h2 : (st.length : Int) > 8
 ·rw [if_pos h2]
  exact bad fun h => by have := h.2.1; omega
 rw [if_neg h2]
 unfold bound_Check.f
 rw [Bo.check1 lo hi (by omega)]
 by_cases h3 : Bo.v lo hi
 ·rw [if_pos h3]
  simp only [Option.bind_some, if_true]
  by_cases h4 : lo < 1
  ·rw [if_pos h4]
   exact bad fun h => by have := h.2.2.2.1; omega
  rw [if_neg h4]
  by_cases h5 : hi > 20000
  ·rw [zdt h5]
   exact bad fun h => by have := h.2.2.2.2.1; omega
  rw [zdf h5, sound_CheckNet.j0, if_neg (by decide)]
  unfold slices_ContainsFunc_Box_sound_CheckNet_1.f slices_IndexFunc_Box_sound_CheckNet_1.f
  obtain ⟨t, e, h6⟩ := Sp.net_l0 st (by omega) st.length k 0 (by omega) (by omega)
  rw [show (0 : Int) = ((0 : Nat) : Int) from rfl, e, Option.bind_some, Option.bind_some]
  rw [List.drop_zero, Sp.any_not] at h6
  unfold Sp.net
  by_cases c : st.all Sp.vb = true
  ·rw [if_neg (by simp [c] at h6; simpa using h6), if_pos ⟨by omega, by omega, h3, by omega, by omega, c⟩]
   rfl
  rw [if_pos (by simp [c] at h6; simpa using h6), if_neg (fun h => c h.2.2.2.2.2)]
 rw [if_neg h3]
 simp only [Option.bind_some, show ¬ ((2 : Int) = 0) by decide, if_false]
 exact bad fun h => h3 h.2.2.1
theorem Sp.net_rl (xs : List S29) (lo hi : Int) (hl : xs.length ≤ 9223372036854775807) : ∀ (n k i : Nat), i + n = xs.length → n < k → isobathref07_CheckNet.l0 k (i : Int) xs lo hi = some (if (xs.drop i).all Sp.vb = true then 0 else 2)
 | 0, k, i, hi', hk => by
  obtain ⟨k, rfl⟩ : ∃ m, k = m + 1 := ⟨k - 1, by omega⟩
  rw [isobathref07_CheckNet.l0, if_neg (by omega), List.drop_eq_nil_of_le (by omega)]
  rfl
 | n + 1, k, i, hi', hk => by
  obtain ⟨k, rfl⟩ : ∃ m, k = m + 1 := ⟨k - 1, by omega⟩
  have hlt : i < xs.length := by omega
  rw [isobathref07_CheckNet.l0, if_pos (by omega), if_pos (by omega), Sp.rdB xs i hlt, Bo.vb_r, Option.bind_some, drop_cons hlt, List.all_cons]
  by_cases h : Bo.vb xs[i].f0.f0 xs[i].f0.f1 xs[i].f1.f0 xs[i].f1.f1
  ·rw [if_pos (by simp [h]), wrap_succ hlt hl, Sp.net_rl xs lo hi hl n k (i + 1) (by omega) (by omega)]
   simp [Sp.vb, h]
  rw [if_neg (by simp [h]), if_neg (by simp [Sp.vb, h])]
theorem Sp.net_r (st : List S29) (lo hi : Int) {k : Nat} (hk : 40 ≤ k) : isobathref07_CheckNet.f k st lo hi = some (Sp.net st lo hi) := by
 obtain ⟨k, rfl⟩ : ∃ m, k = m + 1 := ⟨k - 1, by omega⟩
 have bad : ¬ Sp.nok st lo hi → isobathref07_CheckNet.j0 (k + 1) true st lo hi = some (Sp.net st lo hi) := fun h => by
  unfold Sp.net
  rw [isobathref07_CheckNet.j0, if_pos rfl, if_neg h]
 unfold isobathref07_CheckNet.f
 by_cases h1 : (st.length : Int) < 2
 ·rw [if_pos h1]
  exact bad fun h => by have := h.1; omega
 rw [if_neg h1]
 by_cases h2 : (st.length : Int) > 8
 ·rw [if_pos h2]
  exact bad fun h => by have := h.2.1; omega
 rw [if_neg h2, Bo.valid, Option.bind_some]
 by_cases h3 : Bo.v lo hi
 ·rw [if_pos (by simpa using h3)]
  by_cases h4 : lo < 1
  ·rw [if_pos h4]
   exact bad fun h => by have := h.2.2.2.1; omega
  rw [if_neg h4]
  by_cases h5 : hi > 20000
  ·rw [zdt h5]
   exact bad fun h => by have := h.2.2.2.2.1; omega
  rw [zdf h5, isobathref07_CheckNet.j0, if_neg (by decide)]
  have e := Sp.net_rl st lo hi (by omega) st.length k 0 (by omega) (by omega)
  rw [List.drop_zero] at e
  refine e.trans ?_
  unfold Sp.net
  by_cases c : st.all Sp.vb = true
  ·rw [if_pos c, if_pos ⟨by omega, by omega, h3, by omega, by omega, c⟩]
  rw [if_neg c, if_neg (fun h => c h.2.2.2.2.2)]
 rw [if_neg (by simpa using h3)]
 exact bad fun h => h3 h.2.2.1
def Sp.trav (lo hi : Int) (a b : S29) : Int × Int :=
 (Bo.fl (1000 * Rt.root (Bo.sqLo a.f0.f0 a.f0.f1 a.f1.f0 a.f1.f1 b.f0.f0 b.f0.f1 b.f1.f0 b.f1.f1)) hi, Bo.cl (1000 * Rt.rootUp (Bo.sqHi a.f0.f0 a.f0.f1 a.f1.f0 a.f1.f1 b.f0.f0 b.f0.f1 b.f1.f0 b.f1.f1)) lo)
theorem Sp.up_cl {n d : Int} (hd : 0 < d) : (n + d - 1) / d = Bo.cl n d := by
 have h1 := Bo.le_cl hd n
 have h2 := Bo.cl_lt hd n
 have h3 : (n + d - 1) / d * d ≤ n + d - 1 := Int.ediv_mul_le _ (by omega)
 have h4 : n + d - 1 < ((n + d - 1) / d + 1) * d := Int.lt_ediv_add_one_mul_self _ hd
 generalize (n + d - 1) / d = q at *
 generalize Bo.cl n d = c at *
 have a1 : (q - 1) * d < c * d := by
  rw [Int.sub_mul]
  omega
 have a2 : (c - 1) * d < q * d := by
  have : (q + 1) * d = q * d + d := by rw [Int.add_mul]; omega
  omega
 have b1 := Int.lt_of_mul_lt_mul_right a1 (by omega)
 have b2 := Int.lt_of_mul_lt_mul_right a2 (by omega)
 omega
structure Sp.Dist (a b : S29) : Prop where
 lo0 : 0 ≤ Rt.root (Bo.sqLo a.f0.f0 a.f0.f1 a.f1.f0 a.f1.f1 b.f0.f0 b.f0.f1 b.f1.f0 b.f1.f1)
 lo1 : Rt.root (Bo.sqLo a.f0.f0 a.f0.f1 a.f1.f0 a.f1.f1 b.f0.f0 b.f0.f1 b.f1.f0 b.f1.f1) ≤ 1073741824
 hi0 : 0 ≤ Rt.rootUp (Bo.sqHi a.f0.f0 a.f0.f1 a.f1.f0 a.f1.f1 b.f0.f0 b.f0.f1 b.f1.f0 b.f1.f1)
 hi1 : Rt.rootUp (Bo.sqHi a.f0.f0 a.f0.f1 a.f1.f0 a.f1.f1 b.f0.f0 b.f0.f1 b.f1.f0 b.f1.f1) ≤ 1073741824
theorem Sp.dist {a b : S29} (ha : Sp.vb a = true) (hb : Sp.vb b = true) : Sp.Dist a b := by
 have w := Bo.square_w (zod ha) (zod hb)
 have h1 := Bo.root_is (n := Bo.sqLo a.f0.f0 a.f0.f1 a.f1.f0 a.f1.f1 b.f0.f0 b.f0.f1 b.f1.f0 b.f1.f1) w.2.2.1
 have h2 := Bo.root_le (n := Bo.sqLo a.f0.f0 a.f0.f1 a.f1.f0 a.f1.f1 b.f0.f0 b.f0.f1 b.f1.f0 b.f1.f1) (M := 1073741824) (by omega) (by omega) w.2.2.1
 have h3 := Bo.rootUp_le (n := Bo.sqHi a.f0.f0 a.f0.f1 a.f1.f0 a.f1.f1 b.f0.f0 b.f0.f1 b.f1.f0 b.f1.f1) (M := 1073741824) (by omega) (by omega) (by omega)
 exact ⟨h1.1, h2, h3.1, h3.2⟩
theorem Sp.trav_bd {lo hi : Int} {a b : S29} (ha : Sp.vb a = true) (hb : Sp.vb b = true) (h1 : 1 ≤ lo) (h2 : lo ≤ hi) : 0 ≤ (Sp.trav lo hi a b).1 ∧ (Sp.trav lo hi a b).1 ≤ 1073741824000 ∧ 0 ≤ (Sp.trav lo hi a b).2 ∧ (Sp.trav lo hi a b).2 ≤ 1073741824000 := by
 have D := Sp.dist ha hb
 have d1 := D.lo0
 have d2 := D.lo1
 have d3 := D.hi0
 have d4 := D.hi1
 unfold Sp.trav
 dsimp only
 generalize Rt.root (Bo.sqLo a.f0.f0 a.f0.f1 a.f1.f0 a.f1.f1 b.f0.f0 b.f0.f1 b.f1.f0 b.f1.f1) = x at *
 generalize Rt.rootUp (Bo.sqHi a.f0.f0 a.f0.f1 a.f1.f0 a.f1.f1 b.f0.f0 b.f0.f1 b.f1.f0 b.f1.f1) = y at *
 rw [Bo.fl_pos (by omega), ← Sp.up_cl (by omega)]
 refine ⟨Int.ediv_nonneg (by omega) (by omega), Int.ediv_le_of_le_mul (by omega) ?_, Int.ediv_nonneg (by omega) (by omega), ?_⟩
 ·have : (1073741824000 : Int) * 1 ≤ 1073741824000 * hi := Int.mul_le_mul_of_nonneg_left (by omega) (by omega)
  omega
 have h3 : (1000 * y + lo - 1) / lo * lo ≤ 1000 * y + lo - 1 := Int.ediv_mul_le _ (by omega)
 have h4 : (1000 * y + lo - 1) / lo ≤ 1000 * y := by
  rw [Int.ediv_le_iff_le_mul (by omega)]
  have : (1000 * y) * 1 ≤ 1000 * y * lo := Int.mul_le_mul_of_nonneg_left (by omega) (by omega)
  omega
 omega
theorem Sp.trav_b {lo hi : Int} {a b : S29} (ha : Sp.vb a = true) (hb : Sp.vb b = true) (h1 : 1 ≤ lo) (h2 : lo ≤ hi) (h3 : hi ≤ 20000) {k : Nat} (hk : 20 ≤ k) : sound_travel.f k lo hi a.f0.f0 a.f0.f1 a.f1.f0 a.f1.f1 b.f0.f0 b.f0.f1 b.f1.f0 b.f1.f1 = some (Sp.trav lo hi a b) := by
 have D := Sp.dist ha hb
 have d1 := D.lo0
 have d2 := D.lo1
 have d3 := D.hi0
 have d4 := D.hi1
 have B := Sp.trav_bd ha hb h1 h2
 unfold sound_travel.f
 rw [Bo.distance_b _ _ _ _ _ _ _ _ hk]
 unfold Bo.distance
 rw [if_pos ⟨zod ha, zod hb⟩]
 unfold Sp.trav at *
 dsimp only at *
 generalize Rt.root (Bo.sqLo a.f0.f0 a.f0.f1 a.f1.f0 a.f1.f1 b.f0.f0 b.f0.f1 b.f1.f0 b.f1.f1) = x at *
 generalize Rt.rootUp (Bo.sqHi a.f0.f0 a.f0.f1 a.f1.f0 a.f1.f1 b.f0.f0 b.f0.f1 b.f1.f0 b.f1.f1) = y at *
 rw [Option.bind_some, if_neg (by omega), if_neg (by omega), wrap_id (n := 1000 * x) (by omega) (by omega), wrap_id (n := 1000 * y) (by omega) (by omega), wrap_id (n := 1000 * y + lo) (by omega) (by omega), wrap_id (n := 1000 * y + lo - 1) (by omega) (by omega), tdiv_pos (by omega), tdiv_pos (by omega), Sp.up_cl (by omega), ← Bo.fl_pos (by omega), wrap_id (by omega) (by omega), wrap_id (by omega) (by omega)]
theorem Sp.trav_r {lo hi : Int} {a b : S29} (ha : Sp.vb a = true) (hb : Sp.vb b = true) (h1 : 1 ≤ lo) (h2 : lo ≤ hi) (h3 : hi ≤ 20000) {k : Nat} (hk : 40 ≤ k) : isobathref07_travel.f k lo hi a.f0.f0 a.f0.f1 a.f1.f0 a.f1.f1 b.f0.f0 b.f0.f1 b.f1.f0 b.f1.f1 = some (Sp.trav lo hi a b) := by
 have D := Sp.dist ha hb
 have d1 := D.lo0
 have d2 := D.lo1
 have d3 := D.hi0
 have d4 := D.hi1
 unfold isobathref07_travel.f
 rw [Bo.distance_r _ _ _ _ _ _ _ _ hk]
 unfold Bo.distance
 rw [if_pos ⟨zod ha, zod hb⟩]
 unfold Sp.trav
 generalize Rt.root (Bo.sqLo a.f0.f0 a.f0.f1 a.f1.f0 a.f1.f1 b.f0.f0 b.f0.f1 b.f1.f0 b.f1.f1) = x at *
 generalize Rt.rootUp (Bo.sqHi a.f0.f0 a.f0.f1 a.f1.f0 a.f1.f1 b.f0.f0 b.f0.f1 b.f1.f0 b.f1.f1) = y at *
 rw [Option.bind_some, wrap_id (n := 1000 * x) (by omega) (by omega), wrap_id (n := 1000 * y) (by omega) (by omega), Bo.down_f (by omega) (by omega) (by omega) (by omega) (by omega) (by omega), Option.bind_some, Bo.up_f (by omega) (by omega) (by omega) (by omega) (by omega) (by omega)]
 rfl
theorem Sp.net_ok {st : List S29} {lo hi : Int} (h : Sp.net st lo hi = 0) : Sp.nok st lo hi := by
 unfold Sp.net at h
 split at h
 ·assumption
 cases h
theorem Sp.all_get {st : List S29} (h : st.all Sp.vb = true) (i : Nat) (hi : i < st.length) : Sp.vb st[i] = true := List.all_eq_true.1 h _ (List.getElem_mem hi)
def isobathref07_by.f (k : Nat) (l0_0 : List (S29)) (a0_1 : Int) (a0_2 : Int) (l1 : List (S24)) (a2_0 : Int) (a2_1 : Int) (a2_2 : Int) (a2_3 : Int) (a3 : Int) : Option (Int × Int) := if 0 ≤ a3 then (if a3 < (l0_0.length : Int) then ((isobathref07_travel.f k a0_1 a0_2 a2_0 a2_1 a2_2 a2_3 ((rd_T29 l0_0 a3).f0.f0) ((rd_T29 l0_0 a3).f0.f1) ((rd_T29 l0_0 a3).f1.f0) ((rd_T29 l0_0 a3).f1.f1)).bind fun bt105 => (if a3 < (l1.length : Int) then (some (wrap64 (((rd_T24 l1 a3).f0) - bt105.2), wrap64 (((rd_T24 l1 a3).f1) - bt105.1))) else (none))) else (none)) else (none)
def isobathref07_origin.l0 : Nat → List (S24) → Int → List (S29) → Int → Int → Int → Int → Int → Int → Int → Int → Option (Int × Int)
 | 0, _, _, _, _, _, _, _, _, _, _, _ => none
 | k + 1, x1, x8, x102000, x102001, x102002, x103000, x103001, x103002, x103003, x107000, x107001 => if x8 < (x1.length : Int) then ((isobathref07_by.f k x102000 x102001 x102002 x1 x103000 x103001 x103002 x103003 x8).bind fun bt107 => (isobathref07_origin.l0 k x1 (wrap64 (x8 + 1)) x102000 x102001 x102002 x103000 x103001 x103002 x103003 (mx x107000 bt107.1) (mn x107001 bt107.2))) else (some (x107000, x107001))
def isobathref07_origin.f (k : Nat) (l0_0 : List (S29)) (a0_1 : Int) (a0_2 : Int) (l1 : List (S24)) (a2_0 : Int) (a2_1 : Int) (a2_2 : Int) (a2_3 : Int) : Option (Int × Int) := (isobathref07_by.f k l0_0 a0_1 a0_2 l1 a2_0 a2_1 a2_2 a2_3 0).bind fun bt104 => (isobathref07_origin.l0 k l1 1 l0_0 a0_1 a0_2 a2_0 a2_1 a2_2 a2_3 bt104.1 bt104.2)
def isobathref07_Out.f (k : Nat) (l0_0 : List (S29)) (a0_1 : Int) (a0_2 : Int) (l1 : List (S24)) (a2_0 : Int) (a2_1 : Int) (a2_2 : Int) (a2_3 : Int) : Option (Bool) := (isobathref07_origin.f k l0_0 a0_1 a0_2 l1 a2_0 a2_1 a2_2 a2_3).bind fun bt103 => (some (decide (bt103.1 > bt103.2)))
def isobathref07_instants.f (a0_0 : Int) (a0_1 : Int) : Option (Bool) := if a0_0 ≤ a0_1 then (if a0_0 ≥ (-1125899906842624) then (some (decide (a0_1 ≤ 1125899906842624))) else (some false)) else (some false)
def isobathref07_arrivals.l0 : Nat → List (S24) → Int → Option (Int)
 | 0, _, _ => none
 | k + 1, x1, x5 => if x5 < (x1.length : Int) then (if 0 ≤ x5 then ((isobathref07_instants.f ((rd_T24 x1 x5).f0) ((rd_T24 x1 x5).f1)).bind fun t105 => (if t105 = true then (isobathref07_arrivals.l0 k x1 (wrap64 (x5 + 1))) else (some 2))) else (none)) else (some 0)
def isobathref07_arrivals.f (k : Nat) (l0_0 : List (S29)) (a0_1 : Int) (a0_2 : Int) (l1 : List (S24)) : Option (Int) := (isobathref07_CheckNet.f k l0_0 a0_1 a0_2).bind fun t102 => (if t102 = 0 then (if (l1.length : Int) = (l0_0.length : Int) then (isobathref07_arrivals.l0 k l1 0) else (some 17)) else ((isobathref07_CheckNet.f k l0_0 a0_1 a0_2).bind fun t103 => (some t103)))
def isobathref07_boxed.f (k : Nat) (l0_0 : List (S29)) (a0_1 : Int) (a0_2 : Int) (l1 : List (S24)) (a2_0 : Int) (a2_1 : Int) (a2_2 : Int) (a2_3 : Int) : Option (Int) := (isobathref07_arrivals.f k l0_0 a0_1 a0_2 l1).bind fun t103 => (if t103 = 0 then ((isobathref01_ValidBox.f a2_0 a2_1 a2_2 a2_3).bind fun t104 => (if t104 = true then (some 0) else (some 2))) else ((isobathref07_arrivals.f k l0_0 a0_1 a0_2 l1).bind fun t105 => (some t105)))
def sound_instants.f (a0_0 : Int) (a0_1 : Int) : Option (Bool) := if a0_0 ≤ a0_1 then (if a0_0 ≥ (-1125899906842624) then (some (decide (a0_1 ≤ 1125899906842624))) else (some false)) else (some false)
set_option maxHeartbeats 8000000 in
set_option maxRecDepth 100000 in
theorem sound_instants.calls (a0_0 : Int) (a0_1 : Int) (r : Bool) (w : World) (h : sound_instants.f a0_0 a0_1 = some r) :
  Calls Try.prog 80 #[.agg #[.int .i64 a0_0, .int .i64 a0_1]] w fun e w' => e = .returned (.bool r) ∧ Below w.heap.size w w' := by
 have hu24 := Try.underlying24
 have HB := zam (Below.refl w.heap.size w)
 have H : (if a0_0 ≤ a0_1 then (if a0_0 ≥ (-1125899906842624) then (some (decide (a0_1 ≤ 1125899906842624))) else (some false)) else (some false)) = some r := h
 clear h
 by_cases c2 : a0_0 ≤ a0_1
 ·rw [if_pos c2] at H
  have c2b0 : decide (a0_0 ≤ a0_1) = true := zdt c2
  clear c2
  by_cases c3 : a0_0 ≥ (-1125899906842624)
  ·rw [if_pos c3] at H
   have c3b0 : decide ((-1125899906842624) ≤ a0_0) = true := zdt c3
   clear c3
   obtain rfl := zsi H
   go_enter Try.func80, Try.ntmps80
   go_wp2_with (first | ((with_reducible refine zgd (N := 1) rfl ?_); refine box_event ?hg (N := 1) ?hd (cs := #[.int .i64 a0_0, .int .i64 a0_1]) (t := 24) ?hr ?_; (case hd => rfl); (case hg => rfl); (case hr => first | (go_simp; done) | (go_simp; rfl)); intro gb101 hg w4 hbox hb; have n0_ := zam (zbt zq1 hb); have n1_ := zam (hbox); have n2_ := zam ((by rw [hg]; exact (zbz zq1) : w.heap.size ≤ gb101)); have n3_ := zam ((by rw [hg]; exact (zbz zq1) : w.heap.size ≤ gb101)); clear HB; have HB := n0_; have BK101 := n1_; have GW101 := n2_; have GE101 := n3_; clear n0_ n1_ n2_ n3_; clear hb hbox hg; have hcz5_0 : w4.cell? ⟨gb101, 0, none⟩ = some (.int .i64 a0_0) := (zkc BK101.out 0).trans rfl; have hcz5_1 : w4.cell? ⟨gb101, 1, none⟩ = some (.int .i64 a0_1) := (zkc BK101.out 1).trans rfl; have hfz5_0 := zkz BK101.out 0; have hfz5_1 := zkz BK101.out 1))
   go_ret
   exact ⟨by first | rfl | (simp [errW_none, errW_some] <;> rfl) | (simp [*, errW_none, errW_some] <;> rfl), by repeat (first | (with_reducible first | exact HB.out | apply zba | apply zbn | apply zb1 | refine zbs ?_ GE101.out) | exact HB.out)⟩
  rw [if_neg c3] at H
  have c3b0 : decide ((-1125899906842624) ≤ a0_0) = false := zdf c3
  clear c3
  obtain rfl := zsi H
  go_enter Try.func80, Try.ntmps80
  go_wp2_with (first | ((with_reducible refine zgd (N := 1) rfl ?_); refine box_event ?hg (N := 1) ?hd (cs := #[.int .i64 a0_0, .int .i64 a0_1]) (t := 24) ?hr ?_; (case hd => rfl); (case hg => rfl); (case hr => first | (go_simp; done) | (go_simp; rfl)); intro gb101 hg w6 hbox hb; have n0_ := zam (zbt zq1 hb); have n1_ := zam (hbox); have n2_ := zam ((by rw [hg]; exact (zbz zq1) : w.heap.size ≤ gb101)); have n3_ := zam ((by rw [hg]; exact (zbz zq1) : w.heap.size ≤ gb101)); clear HB; have HB := n0_; have BK101 := n1_; have GW101 := n2_; have GE101 := n3_; clear n0_ n1_ n2_ n3_; clear hb hbox hg; have hcz7_0 : w6.cell? ⟨gb101, 0, none⟩ = some (.int .i64 a0_0) := (zkc BK101.out 0).trans rfl; have hcz7_1 : w6.cell? ⟨gb101, 1, none⟩ = some (.int .i64 a0_1) := (zkc BK101.out 1).trans rfl; have hfz7_0 := zkz BK101.out 0; have hfz7_1 := zkz BK101.out 1))
  go_ret
  exact ⟨by first | rfl | (simp [errW_none, errW_some] <;> rfl) | (simp [*, errW_none, errW_some] <;> rfl), by repeat (first | (with_reducible first | exact HB.out | apply zba | apply zbn | apply zb1 | refine zbs ?_ GE101.out) | exact HB.out)⟩
 rw [if_neg c2] at H
 have c2b0 : decide (a0_0 ≤ a0_1) = false := zdf c2
 clear c2
 obtain rfl := zsi H
 go_enter Try.func80, Try.ntmps80
 go_wp2_with (first | ((with_reducible refine zgd (N := 1) rfl ?_); refine box_event ?hg (N := 1) ?hd (cs := #[.int .i64 a0_0, .int .i64 a0_1]) (t := 24) ?hr ?_; (case hd => rfl); (case hg => rfl); (case hr => first | (go_simp; done) | (go_simp; rfl)); intro gb101 hg w8 hbox hb; have n0_ := zam (zbt zq1 hb); have n1_ := zam (hbox); have n2_ := zam ((by rw [hg]; exact (zbz zq1) : w.heap.size ≤ gb101)); have n3_ := zam ((by rw [hg]; exact (zbz zq1) : w.heap.size ≤ gb101)); clear HB; have HB := n0_; have BK101 := n1_; have GW101 := n2_; have GE101 := n3_; clear n0_ n1_ n2_ n3_; clear hb hbox hg; have hcz9_0 : w8.cell? ⟨gb101, 0, none⟩ = some (.int .i64 a0_0) := (zkc BK101.out 0).trans rfl; have hcz9_1 : w8.cell? ⟨gb101, 1, none⟩ = some (.int .i64 a0_1) := (zkc BK101.out 1).trans rfl; have hfz9_0 := zkz BK101.out 0; have hfz9_1 := zkz BK101.out 1))
 go_ret
 exact ⟨by first | rfl | (simp [errW_none, errW_some] <;> rfl) | (simp [*, errW_none, errW_some] <;> rfl), by repeat (first | (with_reducible first | exact HB.out | apply zba | apply zbn | apply zb1 | refine zbs ?_ GE101.out) | exact HB.out)⟩
def sound_newHeard_1.f (a0_0 : Int) (a0_1 : Int) : Option (Bool) := (sound_instants.f a0_0 a0_1).bind fun t102 => (some (!t102))
set_option maxHeartbeats 8000000 in
set_option maxRecDepth 100000 in
theorem sound_newHeard_1.calls (a0_0 : Int) (a0_1 : Int) (r : Bool) (w : World) (h : sound_newHeard_1.f a0_0 a0_1 = some r) :
  Calls Try.prog 100 #[.agg #[.int .i64 a0_0, .int .i64 a0_1]] w fun e w' => e = .returned (.bool r) ∧ Below w.heap.size w w' := by
 have hu24 := Try.underlying24
 have HB := zam (Below.refl w.heap.size w)
 have H : ((sound_instants.f a0_0 a0_1).bind fun t102 => (some (!t102))) = some r := h
 clear h
 replace H := Option.bind_eq_some_iff.mp H
 obtain ⟨t102, A20, H⟩ := H
 replace H : (some (!t102)) = some r := H
 have A2 := zam A20
 clear A20
 obtain rfl := zsi H
 go_enter Try.func100, Try.ntmps100
 go_wp2_with (first | ((with_reducible refine zgd (N := 1) rfl ?_); refine box_event ?hg (N := 1) ?hd (cs := #[.int .i64 a0_0, .int .i64 a0_1]) (t := 24) ?hr ?_; (case hd => rfl); (case hg => rfl); (case hr => first | (go_simp; done) | (go_simp; rfl)); intro gb101 hg w3 hbox hb; have n0_ := zam (zbt zq1 hb); have n1_ := zam (hbox); have n2_ := zam ((by rw [hg]; exact (zbz zq1) : w.heap.size ≤ gb101)); have n3_ := zam ((by rw [hg]; exact (zbz zq1) : w.heap.size ≤ gb101)); clear HB; have HB := n0_; have BK101 := n1_; have GW101 := n2_; have GE101 := n3_; clear n0_ n1_ n2_ n3_; clear hb hbox hg; have hcz4_0 : w3.cell? ⟨gb101, 0, none⟩ = some (.int .i64 a0_0) := (zkc BK101.out 0).trans rfl; have hcz4_1 : w3.cell? ⟨gb101, 1, none⟩ = some (.int .i64 a0_1) := (zkc BK101.out 1).trans rfl; have hfz4_0 := zkz BK101.out 0; have hfz4_1 := zkz BK101.out 1) | ((with_reducible refine zgc (f := 80) rfl ?_); refine goesL_ (some 4) rfl rfl Try.func80 (by kernel_rfl) rfl #[.agg #[.int .i64 a0_0, .int .i64 a0_1]] rfl zq5 ?_; (with_reducible refine (sound_instants.calls a0_0 a0_1 t102 _ A2.out).mono ?_); rintro e w5 ⟨rfl, hb⟩; refine ⟨_, rfl, ?_⟩; have n0_ := zam (zkb (g := gb101) (o := .cells #[.int .i64 a0_0, .int .i64 a0_1] 24 (0, 0)) zq0 hb); have n1_ := zam (zbt zq2 hb); clear BK101; clear HB; have BK101 := n0_; have HB := n1_; clear n0_ n1_; (try clear hb); (try clear hb2); (try clear hk); (try clear hi)))
 go_ret
 exact ⟨by first | rfl | (simp [errW_none, errW_some] <;> rfl) | (simp [*, errW_none, errW_some] <;> rfl), by repeat (first | (with_reducible first | exact HB.out | apply zba | apply zbn | apply zb1 | refine zbs ?_ GE101.out) | exact HB.out)⟩
def slices_IndexFunc_Span_sound_newHeard_1.l0 : Nat → List (S24) → Int → Int → Option (Int)
 | 0, _, _, _ => none
 | k + 1, x0, x7, x8 => if x8 < x7 then (if 0 ≤ x8 then (if x8 < (x0.length : Int) then ((sound_newHeard_1.f ((rd_T24 x0 x8).f0) ((rd_T24 x0 x8).f1)).bind fun t102 => (if t102 = true then (some x8) else (slices_IndexFunc_Span_sound_newHeard_1.l0 k x0 x7 (wrap64 (x8 + 1))))) else (none)) else (none)) else (some (-1))
def slices_IndexFunc_Span_sound_newHeard_1.f (k : Nat) (l0 : List (S24))  : Option (Int) := slices_IndexFunc_Span_sound_newHeard_1.l0 k l0 (l0.length : Int) 0
set_option maxHeartbeats 8000000 in
set_option maxRecDepth 100000 in
theorem slices_IndexFunc_Span_sound_newHeard_1.calls (k : Nat) (A0 : Option Addr) (c0 : Nat) (l0 : List (S24))  (r : Int) (w : World) (hr0 : Kd.C k24 w A0 l0.length l0) (hc0 : l0.length ≤ c0) (h : slices_IndexFunc_Span_sound_newHeard_1.f k l0 = some r) :
  Calls Try.prog 125 #[.slice A0 l0.length c0, .func (.func 100) #[] #[]] w fun e w' => e = .returned (.int .i64 r) ∧ Below w.heap.size w w' := by
 have hu24 := Try.underlying24
 have HR0 := zam hr0
 have HC0 := zam hc0
 clear hr0 hc0
 have HB := zam (Below.refl w.heap.size w)
 have H : (slices_IndexFunc_Span_sound_newHeard_1.l0 k l0 (l0.length : Int) 0) = some r := h
 clear h
 have H' := zam H
 clear H
 go_enter Try.func125, Try.ntmps125
 go_wp2
 go_loopg [8] k (fun kq v8 w' => ∃ (x8_1 : Int), v8 = .int .i64 x8_1 ∧ Aside0 (slices_IndexFunc_Span_sound_newHeard_1.l0 kq l0 (l0.length : Int) x8_1 = some r) ∧ Aside0 (kq ≤ k) ∧ Aside0 (Below w.heap.size w w'))
 case atStart => exact ⟨(0), zq10, H', ⟨Nat.le_refl _⟩, ⟨by repeat (first | (with_reducible first | exact HB.out | apply zba | apply zbn | apply zb1) | exact HB.out)⟩⟩
 case round =>
  clear H'
  try clear p2
  obtain ⟨x8_1, rfl, HA, HK1, HB⟩ := hrel
  cases gk with
  | zero => exact absurd HA.out (by simp [slices_IndexFunc_Span_sound_newHeard_1.l0])
  | succ k1 =>
   have H := HA.out
   clear HA
   simp only [slices_IndexFunc_Span_sound_newHeard_1.l0] at H
   by_cases c3 : x8_1 < (l0.length : Int)
   ·rw [if_pos c3] at H
    have c3b0 : decide (x8_1 < (l0.length : Int)) = true := zdt c3
    clear c3
    by_cases c4 : 0 ≤ x8_1
    ·rw [if_pos c4] at H
     have c4b0 : decide (0 ≤ x8_1) = true := zdt c4
     clear c4
     by_cases c5 : x8_1 < (l0.length : Int)
     ·rw [if_pos c5] at H
      have c5b0 : decide (x8_1 < (l0.length : Int)) = true := zdt c5
      clear c5
      replace H := Option.bind_eq_some_iff.mp H
      obtain ⟨t102, A60, H⟩ := H
      replace H : (if t102 = true then (some x8_1) else (slices_IndexFunc_Span_sound_newHeard_1.l0 k1 l0 (l0.length : Int) (wrap64 (x8_1 + 1)))) = some r := H
      have A6 := zam A60
      clear A60
      by_cases c7 : t102 = true
      ·subst c7
       have H1 : (some x8_1) = some r := by rw [if_pos rfl] at H; exact H
       clear H
       have H := H1
       clear H1
       obtain rfl := zsi H
       have p101 : 0 ≤ (x8_1 : Int) := zod zq9
       have q101 : x8_1 < (l0.length : Int) := zod zq9
       obtain ⟨ad101, e101, hx101_0, hx101_1⟩ := at_T24 HR0.out x8_1 p101 q101
       cases e101
       replace hx101_0 := (HB.out.cell (zwb w _ hx101_0)).trans hx101_0
       replace hx101_1 := (HB.out.cell (zwb w _ hx101_1)).trans hx101_1
       replace p101 := eq_true p101
       replace q101 := eq_true q101
       go_wp2_with (first | (go_at_call 100; (with_reducible refine (sound_newHeard_1.calls ((rd_T24 l0 x8_1).f0) ((rd_T24 l0 x8_1).f1) true _ A6.out).mono ?_); rintro e w8 ⟨rfl, hb⟩; have n0_ := zam (zbt zq1 hb); clear HB; have HB := n0_; clear n0_; (try clear hb); (try clear hb2); (try clear hk); (try clear hi)))
       go_ret
       exact ⟨by first | rfl | (simp [errW_none, errW_some] <;> rfl) | (simp [*, errW_none, errW_some] <;> rfl), by repeat (first | (with_reducible first | exact HB.out | apply zba | apply zbn | apply zb1) | exact HB.out)⟩
      replace c7 := Bool.eq_false_iff.mpr c7
      subst c7
      have H1 : (slices_IndexFunc_Span_sound_newHeard_1.l0 k1 l0 (l0.length : Int) (wrap64 (x8_1 + 1))) = some r := by rw [if_neg (show ¬ (false = true) by decide)] at H; exact H
      clear H
      have H := H1
      clear H1
      have H' := zam H
      clear H
      have p101 : 0 ≤ (x8_1 : Int) := zod zq9
      have q101 : x8_1 < (l0.length : Int) := zod zq9
      obtain ⟨ad101, e101, hx101_0, hx101_1⟩ := at_T24 HR0.out x8_1 p101 q101
      cases e101
      replace hx101_0 := (HB.out.cell (zwb w _ hx101_0)).trans hx101_0
      replace hx101_1 := (HB.out.cell (zwb w _ hx101_1)).trans hx101_1
      replace p101 := eq_true p101
      replace q101 := eq_true q101
      go_wp2_with (first | (go_at_call 100; (with_reducible refine (sound_newHeard_1.calls ((rd_T24 l0 x8_1).f0) ((rd_T24 l0 x8_1).f1) false _ A6.out).mono ?_); rintro e w9 ⟨rfl, hb⟩; have n0_ := zam (zbt zq1 hb); clear HB; have HB := n0_; clear n0_; (try clear hb); (try clear hb2); (try clear hk); (try clear hi)))
      go_roundg k1
      case measure => have := HK1.out; omega
      case rel => exact ⟨(wrap64 (x8_1 + 1)), zq10, H', ⟨by have := HK1.out; omega⟩, ⟨by repeat (first | (with_reducible first | exact HB.out | apply zba | apply zbn | apply zb1) | exact HB.out)⟩⟩
     rw [if_neg c5] at H
     exact absurd H (by simp)
    rw [if_neg c4] at H
    exact absurd H (by simp)
   rw [if_neg c3] at H
   have c3b0 : decide (x8_1 < (l0.length : Int)) = false := zdf c3
   clear c3
   obtain rfl := zsi H
   go_wp2
   go_ret
   exact ⟨by first | rfl | (simp [errW_none, errW_some] <;> rfl) | (simp [*, errW_none, errW_some] <;> rfl), by repeat (first | (with_reducible first | exact HB.out | apply zba | apply zbn | apply zb1) | exact HB.out)⟩
def slices_ContainsFunc_Span_sound_newHeard_1.f (k : Nat) (l0 : List (S24))  : Option (Bool) := (slices_IndexFunc_Span_sound_newHeard_1.f k l0).bind fun t101 => (some (decide (t101 ≥ 0)))
set_option maxHeartbeats 8000000 in
set_option maxRecDepth 100000 in
theorem slices_ContainsFunc_Span_sound_newHeard_1.calls (k : Nat) (A0 : Option Addr) (c0 : Nat) (l0 : List (S24))  (r : Bool) (w : World) (hr0 : Kd.C k24 w A0 l0.length l0) (hc0 : l0.length ≤ c0) (h : slices_ContainsFunc_Span_sound_newHeard_1.f k l0 = some r) :
  Calls Try.prog 99 #[.slice A0 l0.length c0, .func (.func 100) #[] #[]] w fun e w' => e = .returned (.bool r) ∧ Below w.heap.size w w' := by
 have HR0 := zam hr0
 have HC0 := zam hc0
 clear hr0 hc0
 have HB := zam (Below.refl w.heap.size w)
 have H : ((slices_IndexFunc_Span_sound_newHeard_1.f k l0).bind fun t101 => (some (decide (t101 ≥ 0)))) = some r := h
 clear h
 replace H := Option.bind_eq_some_iff.mp H
 obtain ⟨t101, A30, H⟩ := H
 replace H : (some (decide (t101 ≥ 0))) = some r := H
 have A3 := zam A30
 clear A30
 obtain rfl := zsi H
 go_enter Try.func99, Try.ntmps99
 go_wp2_with (first | ((with_reducible refine zgc (f := 125) rfl ?_); refine goesL_ (some 7) rfl rfl Try.func125 (by kernel_rfl) rfl #[.slice A0 l0.length c0, .func (.func 100) #[] #[]] rfl zq5 ?_; (with_reducible refine (slices_IndexFunc_Span_sound_newHeard_1.calls k _ _ l0  t101 _ ?side1 ?side2 A3.out).mono ?_); (case side1 => repeat (first | exact HR0.out | (with_reducible refine Kd.C_alloc ?_ _) | (with_reducible refine Kd.C_drewN ?_ _) | (with_reducible refine Kd.C_drew ?_))); (case side2 => exact HC0.out); rintro e w4 ⟨rfl, hb⟩; refine ⟨_, rfl, ?_⟩; have n0_ := zam (zbt zq1 hb); clear HB; have HB := n0_; clear n0_; (try clear hb); (try clear hb2); (try clear hk); (try clear hi)))
 go_ret
 exact ⟨by first | rfl | (simp [errW_none, errW_some] <;> rfl) | (simp [*, errW_none, errW_some] <;> rfl), by repeat (first | (with_reducible first | exact HB.out | apply zba | apply zbn | apply zb1) | exact HB.out)⟩
def IsS137 (w0 W : World) (g : Nat) (f0 : List (S29)) (f1 : Int) (f2 : Int) (f3 : List (S24)) : Prop := ∃ A0 c0, ∃ A3 c3, W.heap[g]? = some (.cells #[.slice A0 f0.length c0, .int .i64 f1, .int .i64 f2, .slice A3 f3.length c3] 137 (0, 0)) ∧ w0.heap.size ≤ g ∧ Kd.C k29 w0 A0 f0.length f0 ∧ Kd.C k24 w0 A3 f3.length f3
theorem IsS137.grown {w0 W : World} {g : Nat} {f0 : List (S29)} {f1 : Int} {f2 : Int} {f3 : List (S24)} {W1 : World} {row : Option Nat} (h : IsS137 w0 W g f0 f1 f2 f3) (hw : W.grownBy W1 row) (hne : some g ≠ row) : IsS137 w0 W1 g f0 f1 f2 f3 := by
 obtain ⟨A0, c0, A3, c3, hb, hg, hr0, hr3⟩ := h
 exact ⟨A0, c0, A3, c3, zkg hb hw hne, hg, hr0, hr3⟩
theorem IsS137.kept {w0 W : World} {g : Nat} {f0 : List (S29)} {f1 : Int} {f2 : Int} {f3 : List (S24)} {W1 : World} {S : Nat → Prop} (h : IsS137 w0 W g f0 f1 f2 f3) (hk : Kept W W1 S) (hne : ¬ S g) : IsS137 w0 W1 g f0 f1 f2 f3 := by
 obtain ⟨A0, c0, A3, c3, hb, hg, hr0, hr3⟩ := h
 exact ⟨A0, c0, A3, c3, blk_kept hb hk hne, hg, hr0, hr3⟩
theorem IsS137.below {w0 W : World} {g : Nat} {f0 : List (S29)} {f1 : Int} {f2 : Int} {f3 : List (S24)} {W1 : World} (h : IsS137 w0 W g f0 f1 f2 f3) (hw : Below W.heap.size W W1) : IsS137 w0 W1 g f0 f1 f2 f3 := h.grown (grown_of_below hw none) (by simp)
theorem IsS137.alloc {w0 W : World} {g : Nat} {f0 : List (S29)} {f1 : Int} {f2 : Int} {f3 : List (S24)} (h : IsS137 w0 W g f0 f1 f2 f3) (o : Obj) : IsS137 w0 (W.alloc o) g f0 f1 f2 f3 := h.below (zba (Below.refl _ _) o)
theorem IsS137.drewN {w0 W : World} {g : Nat} {f0 : List (S29)} {f1 : Int} {f2 : Int} {f3 : List (S24)} (h : IsS137 w0 W g f0 f1 f2 f3) (m : Nat) : IsS137 w0 (W.drewN m) g f0 f1 f2 f3 := h
theorem IsS137.drew {w0 W : World} {g : Nat} {f0 : List (S29)} {f1 : Int} {f2 : Int} {f3 : List (S24)} (h : IsS137 w0 W g f0 f1 f2 f3) : IsS137 w0 W.drew g f0 f1 f2 f3 := h
theorem IsS137.at_ {w0 W : World} {g : Nat} {f0 : List (S29)} {f1 : Int} {f2 : Int} {f3 : List (S24)} {w' : World} {m : Nat} (hq : W.drewN m = w') (h : IsS137 w0 W g f0 f1 f2 f3) : IsS137 w0 w' g f0 f1 f2 f3 := by subst hq; exact IsS137.drewN h m
theorem IsS137.apart {w0 W : World} {g : Nat} {f0 : List (S29)} {f1 : Int} {f2 : Int} {f3 : List (S24)} {α : Type} {d : Kd α} {e : Nat} {base : Nat} {ok : Nat → Prop} {v : Value} {xs : List α} (h : IsS137 w0 W g f0 f1 f2 f3) (ho : d.R e W base ok v xs) (ht : ∀ q, q ∈ e :: d.E → q ≠ 137) : d.R e W base (fun k => ok k ∧ k ≠ g) v xs := by
 obtain ⟨A0, c0, A3, c3, hb, hg, hr0, hr3⟩ := h
 exact Kd.R_types ho hb ht
theorem IsS137.own_ne {w0 W : World} {g : Nat} {f0 : List (S29)} {f1 : Int} {f2 : Int} {f3 : List (S24)} {α : Type} {d : Kd α} {e : Nat} {base : Nat} {ok : Nat → Prop} {v : Value} {xs : List α} (h : IsS137 w0 W g f0 f1 f2 f3) (ho : d.R e W base ok v xs) (ht : e ≠ 137) : some g ≠ v.ownBlock := by
 obtain ⟨A0, c0, A3, c3, hb, hg, hr0, hr3⟩ := h
 exact Kd.R_ne ho hb ht
theorem IsS137.far {w0 W : World} {g : Nat} {f0 : List (S29)} {f1 : Int} {f2 : Int} {f3 : List (S24)} {p : Addr} (h : IsS137 w0 W g f0 f1 f2 f3) (hne : g ≠ p.block) (u : Value) : IsS137 w0 (W.setCell p u) g f0 f1 f2 f3 := by
 obtain ⟨A0, c0, A3, c3, hb, hg, hr0, hr3⟩ := h
 exact ⟨A0, c0, A3, c3, zkf hb hne u, hg, hr0, hr3⟩
def IsHeard (w : World) (g : Nat) (st : List S29) (lo hi : Int) (at_ : List S24) : Prop :=
 ∃ A0 c0 A3 c3, w.heap[g]? = some (.cells #[.slice A0 st.length c0, .int .i64 lo, .int .i64 hi, .slice A3 at_.length c3] 137 (0, 0)) ∧ Kd.C k29 w A0 st.length st ∧ Kd.C k24 w A3 at_.length at_
theorem IsHeard.below {w w' : World} {g : Nat} {st : List S29} {lo hi : Int} {at_ : List S24} (h : IsHeard w g st lo hi at_) (hb : Below w.heap.size w w') : IsHeard w' g st lo hi at_ := by
 obtain ⟨A0, c0, A3, c3, h1, h2, h3⟩ := h
 exact ⟨A0, c0, A3, c3, zkb h1 hb, Kd.C_below h2 hb, Kd.C_below h3 hb⟩
def sound_hby.f (k : Nat) (st : List S29) (lo hi : Int) (at_ : List S24) (b0 b1 b2 b3 i : Int) : Option (Int × Int) :=
 if 0 ≤ i then (if i < (st.length : Int) then (if i < (at_.length : Int) then
  ((sound_travel.f k lo hi b0 b1 b2 b3 ((rd_T29 st i).f0.f0) ((rd_T29 st i).f0.f1) ((rd_T29 st i).f1.f0) ((rd_T29 st i).f1.f1)).bind fun t =>
   some (wrap64 (((rd_T24 at_ i).f0) - t.2), wrap64 (((rd_T24 at_ i).f1) - t.1))) else none) else none) else none
def Held1 (gs gb gr gt : Nat) (ad0 : Addr) (n c0 : Nat) (lo hi b0 b1 b2 b3 i u0 u1 u2 u3 : Int) (w w' : World) : Prop :=
 (w'.cell? ⟨gs, 0, none⟩ = some (.slice (some ad0) n c0) ∧ w'.cell? ⟨gs, 1, none⟩ = some (.int .i64 lo) ∧ w'.cell? ⟨gs, 2, none⟩ = some (.int .i64 hi) ∧ w'.cell? ⟨gb, 0, none⟩ = some (.int .i64 b0) ∧ w'.cell? ⟨gb, 1, none⟩ = some (.int .i64 b1) ∧ w'.cell? ⟨gb, 2, none⟩ = some (.int .i64 b2) ∧ w'.cell? ⟨gb, 3, none⟩ = some (.int .i64 b3) ∧ w'.cell? (ad0.add ((i).toNat * 4)) = some (.int .i64 u0) ∧ w'.cell? ⟨(ad0.add ((i).toNat * 4)).block, (ad0.add ((i).toNat * 4)).off + 1, none⟩ = some (.int .i64 u1) ∧ w'.cell? ⟨(ad0.add ((i).toNat * 4)).block, (ad0.add ((i).toNat * 4)).off + 2, none⟩ = some (.int .i64 u2) ∧ w'.cell? ⟨(ad0.add ((i).toNat * 4)).block, (ad0.add ((i).toNat * 4)).off + 3, none⟩ = some (.int .i64 u3)) ∧ w'.heap[gb]? = some (.cells #[.int .i64 b0, .int .i64 b1, .int .i64 b2, .int .i64 b3] 29 (0, 0)) ∧ w'.heap[gr]? = some (.cells #[.int .i64 0, .int .i64 0] 24 (0, 0)) ∧ w'.heap[gt]? = some (.cells #[.int .i64 0, .int .i64 0] 24 (0, 0)) ∧ Below w.heap.size w w' ∧ w.heap.size ≤ gt ∧ gb ≠ gt ∧ gr ≠ gt
def sound_hby.T1 : Bool × List (List Nat × List Nat) := (true, [([], []), ([0], [0]), ([1], [1]), ([2], [2]), ([3], [3]), ([], []), ([], []), ([6], [6]), ([7], [7]), ([8], [8]), ([9], [9]), ([], []), ([10, 11], [10, 11]), ([12], [12]), ([4, 5, 13], [4, 5, 13]), ([], []), ([15, 14, 14, 0, 1, 2, 3, 4, 5, 6, 7, 8, 9, 10, 11, 12, 13, 14, 15], [14, 15])])
def sound_hby.B1 : List Nat := [0, 1, 3, 7, 15, 0, 0, 64, 192, 448, 960, 0, 4032, 8128, 16383, 0, 65535]
theorem sound_hby.tab1 : rtab .any (opsOf Try.f108 1) = sound_hby.T1 := by kernel_rfl
theorem sound_hby.bits1 : waitsOk sound_hby.T1.2 sound_hby.B1 = true := by kernel_rfl
def sound_hby.T2 : Bool × List (List Nat × List Nat) := (true, [([], []), ([0], [0]), ([1], [1]), ([2], [2]), ([], []), ([3, 4], [3, 4]), ([5], [5]), ([6], [6]), ([], []), ([8], [8]), ([7, 9], [7, 9]), ([], []), ([11], [11]), ([12], [12]), ([13], [13]), ([], []), ([14, 15], [14, 15]), ([16], [16]), ([17], [17]), ([], []), ([19], [19]), ([18, 20], [18, 20]), ([10, 21], [10, 21]), ([22, 0, 1, 2, 3, 4, 5, 6, 7, 8, 9, 10, 11, 12, 13, 14, 15, 16, 17, 18, 19, 20, 21, 22], [22])])
def sound_hby.B2 : List Nat := [0, 1, 3, 7, 0, 31, 63, 127, 0, 256, 1023, 0, 2048, 6144, 14336, 0, 63488, 129024, 260096, 0, 524288, 2095104, 4194303, 8388607]
theorem sound_hby.tab2 : rtab .any (opsOf Try.f108 2) = sound_hby.T2 := by kernel_rfl
theorem sound_hby.bits2 : waitsOk sound_hby.T2.2 sound_hby.B2 = true := by kernel_rfl
set_option maxHeartbeats 16000000 in
set_option maxRecDepth 100000 in
theorem sound_hby.calls (k : Nat) (gs : Nat) (st : List S29) (lo hi : Int) (at_ : List S24) (b0 b1 b2 b3 i r1 r2 : Int) (w : World) (hI : IsHeard w gs st lo hi at_) (h : sound_hby.f k st lo hi at_ b0 b1 b2 b3 i = some (r1, r2)) :
  Calls Try.prog 108 #[.pointer (some ⟨gs, 0, none⟩), .agg #[.int .i64 b0, .int .i64 b1, .int .i64 b2, .int .i64 b3], .int .i64 i] w fun e w' => e = .returned (.agg #[.int .i64 r1, .int .i64 r2]) ∧ Below w.heap.size w w' := by
 have hu26 := Try.underlying26
 have hu29 := Try.underlying29
 have hu24 := Try.underlying24
 have hu137 := Try.underlying137
 obtain ⟨A0, c0, A3, c3, hh, hk0, hk3⟩ := hI
 unfold sound_hby.f at h
 have p1 : 0 ≤ i := by
  apply Decidable.byContradiction
  intro hn
  rw [if_neg hn] at h
  exact absurd h (by simp)
 rw [if_pos p1] at h
 have q0 : i < (st.length : Int) := by
  apply Decidable.byContradiction
  intro hn
  rw [if_neg hn] at h
  exact absurd h (by simp)
 rw [if_pos q0] at h
 have q3 : i < (at_.length : Int) := by
  apply Decidable.byContradiction
  intro hn
  rw [if_neg hn] at h
  exact absurd h (by simp)
 rw [if_pos q3] at h
 obtain ⟨⟨t1, t2⟩, ht, h⟩ := Option.bind_eq_some_iff.mp h
 simp only [Option.some.injEq, Prod.mk.injEq] at h
 obtain ⟨rfl, rfl⟩ := h
 have TR := zam ht
 clear ht
 obtain ⟨ad0, e0, hx0, hx1, hx2, hx3⟩ := at_T29 hk0 i p1 q0
 cases e0
 obtain ⟨ad3, e3, hy0, hy1⟩ := at_T24 hk3 i p1 q3
 cases e3
 generalize (rd_T29 st i).f0.f0 = u0 at *
 generalize (rd_T29 st i).f0.f1 = u1 at *
 generalize (rd_T29 st i).f1.f0 = u2 at *
 generalize (rd_T29 st i).f1.f1 = u3 at *
 generalize (rd_T24 at_ i).f0 = v0 at *
 generalize (rd_T24 at_ i).f1 = v1 at *
 have HX0 := zam hx0
 have HX1 := zam hx1
 have HX2 := zam hx2
 have HX3 := zam hx3
 have HY0 := zam hy0
 have HY1 := zam hy1
 have HS0 : Aside0 (w.cell? ⟨gs, 0, none⟩ = some (.slice (some ad0) st.length c0)) := ⟨(zkc hh 0).trans rfl⟩
 have HS1 : Aside0 (w.cell? ⟨gs, 1, none⟩ = some (.int .i64 lo)) := ⟨(zkc hh 1).trans rfl⟩
 have HS2 : Aside0 (w.cell? ⟨gs, 2, none⟩ = some (.int .i64 hi)) := ⟨(zkc hh 2).trans rfl⟩
 have HS3 : Aside0 (w.cell? ⟨gs, 3, none⟩ = some (.slice (some ad3) at_.length c3)) := ⟨(zkc hh 3).trans rfl⟩
 clear hx0 hx1 hx2 hx3 hy0 hy1 hh hk0 hk3
 replace p1 := eq_true p1
 replace q0 := eq_true q0
 replace q3 := eq_true q3
 go_enter Try.func108, Try.ntmps108
 go_wp2_with (first | ((with_reducible refine zgd (N := 4) rfl ?_); refine box_event ?hg (N := 4) ?hd (cs := #[.int .i64 b0, .int .i64 b1, .int .i64 b2, .int .i64 b3]) (t := 29) ?hr ?_; (case hd => rfl); (case hg => rfl); (case hr => first | (go_simp; done) | (go_simp; rfl)); intro gb hgb w1 hbk hb0; have BB := zam hbk; have HB := zam hb0; have GB : Aside0 (w.heap.size ≤ gb) := ⟨Nat.le_of_eq hgb.symm⟩; clear hgb hbk hb0) | ((with_reducible refine zgd (N := 6) rfl ?_); refine box_event ?hg (N := 6) ?hd (cs := #[.int .i64 0, .int .i64 0]) (t := 24) ?hr ?_; (case hd => rfl); (case hg => rfl); (case hr => first | (go_simp; done) | (go_simp; rfl)); intro gr hgr w2 hbk hb0; have n1 := zam (zkb BB.out hb0); have NBR : Aside0 (gb ≠ gr) := ⟨by rw [hgr]; exact Nat.ne_of_lt (blk_lt BB.out)⟩; have GR : Aside0 (w.heap.size ≤ gr) := ⟨by rw [hgr]; exact HB.out.size⟩; have n2 := zam (zbt HB.out hb0); have BR := zam hbk; clear BB HB hgr hbk hb0; have BB := n1; have HB := n2; clear n1 n2))
 have n1 := zam (zkd BB.out)
 have n2 := zam (zkd BR.out)
 have n3 := zam (zb1 HB.out)
 clear BB BR HB
 have BB := n1
 have BR := n2
 have HB := n3
 clear n1 n2 n3
 refine start_ (n := 17) (S := fun w' => w'.cell? ⟨gs, 0, none⟩ = some (.slice (some ad0) st.length c0) ∧ w'.cell? ⟨gs, 1, none⟩ = some (.int .i64 lo) ∧ w'.cell? ⟨gs, 2, none⟩ = some (.int .i64 hi) ∧ w'.cell? ⟨gb, 0, none⟩ = some (.int .i64 b0) ∧ w'.cell? ⟨gb, 1, none⟩ = some (.int .i64 b1) ∧ w'.cell? ⟨gb, 2, none⟩ = some (.int .i64 b2) ∧ w'.cell? ⟨gb, 3, none⟩ = some (.int .i64 b3) ∧ w'.cell? (ad0.add ((i).toNat * 4)) = some (.int .i64 u0) ∧ w'.cell? ⟨(ad0.add ((i).toNat * 4)).block, (ad0.add ((i).toNat * 4)).off + 1, none⟩ = some (.int .i64 u1) ∧ w'.cell? ⟨(ad0.add ((i).toNat * 4)).block, (ad0.add ((i).toNat * 4)).off + 2, none⟩ = some (.int .i64 u2) ∧ w'.cell? ⟨(ad0.add ((i).toNat * 4)).block, (ad0.add ((i).toNat * 4)).off + 3, none⟩ = some (.int .i64 u3)) (ds := []) #[false, false, false, false, false, false, false, false, false, false, false, false, false, false, false, false, false] (by kernel_rfl) rfl rfl ⟨((HB.out.cell (zwb w _ HS0.out)).trans HS0.out), ((HB.out.cell (zwb w _ HS1.out)).trans HS1.out), ((HB.out.cell (zwb w _ HS2.out)).trans HS2.out), ((zkc BB.out 0).trans rfl), ((zkc BB.out 1).trans rfl), ((zkc BB.out 2).trans rfl), ((zkc BB.out 3).trans rfl), ((HB.out.cell (zwb w _ HX0.out)).trans HX0.out), ((HB.out.cell (zwb w _ HX1.out)).trans HX1.out), ((HB.out.cell (zwb w _ HX2.out)).trans HX2.out), ((HB.out.cell (zwb w _ HX3.out)).trans HX3.out)⟩ (fun hHeld => ?_)
 refine with_tabW sound_hby.tab1 sound_hby.bits1 (fun HT_ HW_ => ?_)
 generalize World.drew _ = w3 at BB BR HB hHeld ⊢
 refine pure_ (i := 0) (N := some 8) (v := ?_) (a' := ?_) #[true, false, false, false, false, false, false, false, false, false, false, false, false, false, false, false, false] rfl rfl (any_of HT_.out (by kernel_rfl)) (fun _ _ _ h => h) (Or.inl ⟨by rfl, ?_⟩) ?_ ?_
 rotate_left
 ·intro w'
  go_simp
  with_reducible rfl
 rotate_left
 ·simp only [Act.put, zsa, zsz, zss, i64_w, i32_w]
  rfl
 refine pure_ (i := 1) (N := some 9) (v := ?_) (a' := ?_) #[true, true, false, false, false, false, false, false, false, false, false, false, false, false, false, false, false] rfl rfl (any_of HT_.out (by kernel_rfl)) (fun _ _ _ h => h) (Or.inl ⟨by rfl, ?_⟩) ?_ ?_
 rotate_left
 ·intro w'
  go_simp
  with_reducible rfl
 rotate_left
 ·simp only [Act.put, zsa, zsz, zss, i64_w, i32_w]
  rfl
 refine pure_ (i := 2) (N := some 10) (v := ?_) (a' := ?_) #[true, true, true, false, false, false, false, false, false, false, false, false, false, false, false, false, false] rfl rfl (any_of HT_.out (by kernel_rfl)) (fun _ _ _ h => h) (Or.inl ⟨by rfl, ?_⟩) ?_ ?_
 rotate_left
 ·intro w'
  go_simp
  with_reducible rfl
 rotate_left
 ·simp only [Act.put, zsa, zsz, zss, i64_w, i32_w]
  rfl
 refine pure_ (i := 3) (N := some 11) (v := ?_) (a' := ?_) #[true, true, true, true, false, false, false, false, false, false, false, false, false, false, false, false, false] rfl rfl (any_of HT_.out (by kernel_rfl)) (fun _ _ _ h => h) (Or.inl ⟨by rfl, ?_⟩) ?_ ?_
 rotate_left
 ·intro w'
  go_simp
  with_reducible rfl
 rotate_left
 ·simp only [Act.put, zsa, zsz, zss, i64_w, i32_w]
  rfl
 refine pure_ (i := 6) (N := some 14) (v := ?_) (a' := ?_) #[true, true, true, true, false, false, true, false, false, false, false, false, false, false, false, false, false] rfl rfl (any_of HT_.out (by kernel_rfl)) (fun _ _ _ h => h) (Or.inl ⟨by rfl, ?_⟩) ?_ ?_
 rotate_left
 ·intro w'
  go_simp
  with_reducible rfl
 rotate_left
 ·simp only [Act.put, zsa, zsz, zss, i64_w, i32_w]
  rfl
 refine pure_ (i := 7) (N := some 15) (v := ?_) (a' := ?_) #[true, true, true, true, false, false, true, true, false, false, false, false, false, false, false, false, false] rfl rfl (any_of HT_.out (by kernel_rfl)) (fun _ _ _ h => h) (Or.inl ⟨by rfl, ?_⟩) ?_ ?_
 rotate_left
 ·intro w'
  go_simp
  with_reducible rfl
 rotate_left
 ·simp only [Act.put, zsa, zsz, zss, i64_w, i32_w]
  rfl
 refine pure_ (i := 8) (N := some 16) (v := ?_) (a' := ?_) #[true, true, true, true, false, false, true, true, true, false, false, false, false, false, false, false, false] rfl rfl (any_of HT_.out (by kernel_rfl)) (fun _ _ _ h => h) (Or.inl ⟨by rfl, ?_⟩) ?_ ?_
 rotate_left
 ·intro w'
  go_simp
  with_reducible rfl
 rotate_left
 ·simp only [Act.put, zsa, zsz, zss, i64_w, i32_w]
  rfl
 refine pure_ (i := 9) (N := some 17) (v := ?_) (a' := ?_) #[true, true, true, true, false, false, true, true, true, true, false, false, false, false, false, false, false] rfl rfl (any_of HT_.out (by kernel_rfl)) (fun _ _ _ h => h) (Or.inl ⟨by rfl, ?_⟩) ?_ ?_
 rotate_left
 ·intro w'
  go_simp
  with_reducible rfl
 rotate_left
 ·simp only [Act.put, zsa, zsz, zss, i64_w, i32_w]
  rfl
 refine pure_ (i := 11) (N := some 19) (v := ?_) (a' := ?_) #[true, true, true, true, false, false, true, true, true, true, false, true, false, false, false, false, false] rfl rfl (any_of HT_.out (by kernel_rfl)) (fun _ _ _ h => h) (Or.inl ⟨by rfl, ?_⟩) ?_ ?_
 rotate_left
 ·intro w'
  go_simp
  with_reducible rfl
 rotate_left
 ·simp only [Act.put, zsa, zsz, zss, i64_w, i32_w]
  rfl
 refine take_ (i := 4) (N := some 12) (v := ?_) (a' := ?_) #[true, true, true, true, true, false, true, true, true, true, false, true, false, false, false, false, false] rfl rfl (take_ofW HT_.out HW_.out (by kernel_rfl)) (fun _ _ _ h => h) (Or.inl ⟨by rfl, ?_⟩) hHeld ?_ ?_
 rotate_left
 ·rintro w' ⟨s0, s1, s2, s3, s4, s5, s6, s7, s8, s9, s10⟩
  go_simp
  with_reducible rfl
 rotate_left
 ·simp only [Act.put, zsa, zsz, zss, i64_w, i32_w]
  rfl
 refine take_ (i := 5) (N := some 13) (v := ?_) (a' := ?_) #[true, true, true, true, true, true, true, true, true, true, false, true, false, false, false, false, false] rfl rfl (take_ofW HT_.out HW_.out (by kernel_rfl)) (fun _ _ _ h => h) (Or.inl ⟨by rfl, ?_⟩) hHeld ?_ ?_
 rotate_left
 ·rintro w' ⟨s0, s1, s2, s3, s4, s5, s6, s7, s8, s9, s10⟩
  go_simp
  with_reducible rfl
 rotate_left
 ·simp only [Act.put, zsa, zsz, zss, i64_w, i32_w]
  rfl
 refine take_ (i := 10) (N := some 18) (v := ?_) (a' := ?_) #[true, true, true, true, true, true, true, true, true, true, true, true, false, false, false, false, false] rfl rfl (take_ofW HT_.out HW_.out (by kernel_rfl)) (fun _ _ _ h => h) (Or.inl ⟨by rfl, ?_⟩) hHeld ?_ ?_
 rotate_left
 ·rintro w' ⟨s0, s1, s2, s3, s4, s5, s6, s7, s8, s9, s10⟩
  go_simp
  with_reducible rfl
 rotate_left
 ·simp only [Act.put, zsa, zsz, zss, i64_w, i32_w]
  rfl
 refine pure_ (i := 12) (N := some 20) (v := ?_) (a' := ?_) #[true, true, true, true, true, true, true, true, true, true, true, true, true, false, false, false, false] rfl rfl (any_of HT_.out (by kernel_rfl)) (fun _ _ _ h => h) (Or.inl ⟨by rfl, ?_⟩) ?_ ?_
 rotate_left
 ·intro w'
  go_simp
  with_reducible rfl
 rotate_left
 ·simp only [Act.put, zsa, zsz, zss, i64_w, i32_w]
  rfl
 refine take_ (i := 13) (N := some 21) (v := ?_) (a' := ?_) #[true, true, true, true, true, true, true, true, true, true, true, true, true, true, false, false, false] rfl rfl (take_ofW HT_.out HW_.out (by kernel_rfl)) (fun _ _ _ h => h) (Or.inl ⟨by rfl, ?_⟩) hHeld ?_ ?_
 rotate_left
 ·rintro w' ⟨s0, s1, s2, s3, s4, s5, s6, s7, s8, s9, s10⟩
  go_simp
  with_reducible rfl
 rotate_left
 ·simp only [Act.put, zsa, zsz, zss, i64_w, i32_w]
  rfl
 refine join_ (σ := Nat) 1 #[true, true, true, true, true, true, true, true, true, true, true, true, true, true, true, true, false] (fun s_ => [(22, .agg #[.int .i64 t1, .int .i64 t2]), (7, .pointer (some ⟨s_, 0, none⟩))]) (fun s_ w' => Held1 gs gb gr s_ ad0 st.length c0 lo hi b0 b1 b2 b3 i u0 u1 u2 u3 w w') ?_ ?_
 rotate_left
 ·intro hCont
  refine two_ (i := 14) (j := 15) (Ni := some 22) (Nj := some 7) #[true, true, true, true, true, true, true, true, true, true, true, true, true, true, true, false, false] #[true, true, true, true, true, true, true, true, true, true, true, true, true, true, false, true, false] rfl rfl rfl rfl (two_of HT_.out (by kernel_rfl)) (by decide) (by decide) (fun K hK => ?_) (fun K hK => ?_)
  ·skip
   refine goes_ Try.func83 (by kernel_rfl) rfl #[.agg #[.int .i64 lo, .int .i64 hi], .agg #[.int .i64 b0, .int .i64 b1, .int .i64 b2, .int .i64 b3], .agg #[.int .i64 u0, .int .i64 u1, .int .i64 u2, .int .i64 u3]] (by rfl) rfl rfl (by (try simp only [zmt, List.map_cons, List.map_nil]); first | done | rfl) ?_
   with_reducible refine (sound_travel.calls k lo hi b0 b1 b2 b3 u0 u1 u2 u3 t1 t2 _ TR.out).mono ?_
   rintro e w5 ⟨rfl, hb⟩
   refine ⟨_, rfl, ?_⟩
   (try (have n0 := zam (zkb BT.out hb); clear BT; have BT := n0; clear n0))
   have n1 := zam (zkb BB.out hb)
   have n2 := zam (zkb BR.out hb)
   have n3 := zam (zbt HB.out hb)
   clear BB BR HB hb
   have BB := n1
   have BR := n2
   have HB := n3
   clear n1 n2 n3
   refine hK.out _ _ ⟨((HB.out.cell (zwb w _ HS0.out)).trans HS0.out), ((HB.out.cell (zwb w _ HS1.out)).trans HS1.out), ((HB.out.cell (zwb w _ HS2.out)).trans HS2.out), ((zkc BB.out 0).trans rfl), ((zkc BB.out 1).trans rfl), ((zkc BB.out 2).trans rfl), ((zkc BB.out 3).trans rfl), ((HB.out.cell (zwb w _ HX0.out)).trans HX0.out), ((HB.out.cell (zwb w _ HX1.out)).trans HX1.out), ((HB.out.cell (zwb w _ HX2.out)).trans HX2.out), ((HB.out.cell (zwb w _ HX3.out)).trans HX3.out)⟩ (fun hHeld => ?_)
   clear hK K
   refine norm_ (a' := ?_) ?_ ?_
   rotate_left
   ·show Act.put _ (some 22) _ = _
    simp only [Act.put, zsa, zsz, zss, i64_w, i32_w]
    rfl
   refine one_ (i := 15) (N := some 7) #[true, true, true, true, true, true, true, true, true, true, true, true, true, true, true, true, false] rfl rfl (one_of HT_.out (by kernel_rfl)) (by decide) (fun K hK => ?_)
   refine box_step ?hg (N := 7) ?hd (cs := #[.int .i64 0, .int .i64 0]) (t := 24) ?hr ?_; (case hd => rfl); (case hg => rfl); (case hr => first | (go_simp; done) | (go_simp; rfl))
   intro gt hgt w6 hbox hb
   have GT : Aside0 (w.heap.size ≤ gt) := ⟨by rw [hgt]; exact HB.out.size⟩
   have NBT : Aside0 (gb ≠ gt) := ⟨by rw [hgt]; exact Nat.ne_of_lt (blk_lt BB.out)⟩
   have NRT : Aside0 (gr ≠ gt) := ⟨by rw [hgt]; exact Nat.ne_of_lt (blk_lt BR.out)⟩
   have BT := zam hbox
   have n1 := zam (zkb BB.out hb)
   have n2 := zam (zkb BR.out hb)
   have n3 := zam (zbt HB.out hb)
   clear BB BR HB hb hbox hgt
   have BB := n1
   have BR := n2
   have HB := n3
   clear n1 n2 n3
   refine hK.out _ _ ⟨((HB.out.cell (zwb w _ HS0.out)).trans HS0.out), ((HB.out.cell (zwb w _ HS1.out)).trans HS1.out), ((HB.out.cell (zwb w _ HS2.out)).trans HS2.out), ((zkc BB.out 0).trans rfl), ((zkc BB.out 1).trans rfl), ((zkc BB.out 2).trans rfl), ((zkc BB.out 3).trans rfl), ((HB.out.cell (zwb w _ HX0.out)).trans HX0.out), ((HB.out.cell (zwb w _ HX1.out)).trans HX1.out), ((HB.out.cell (zwb w _ HX2.out)).trans HX2.out), ((HB.out.cell (zwb w _ HX3.out)).trans HX3.out)⟩ (fun hHeld => ?_)
   clear hK K
   refine norm_ (a' := ?_) ?_ ?_
   rotate_left
   ·show Act.put _ (some 7) _ = _
    simp only [Act.put, zsa, zsz, zss, i64_w, i32_w]
    rfl
   exact norm_ (by simp only [putAll, Act.put, zsa, zsz, zss]) (hCont gt _ ⟨hHeld, BB.out, BR.out, BT.out, HB.out, GT.out, NBT.out, NRT.out⟩)
  skip
  refine box_step ?hg (N := 7) ?hd (cs := #[.int .i64 0, .int .i64 0]) (t := 24) ?hr ?_; (case hd => rfl); (case hg => rfl); (case hr => first | (go_simp; done) | (go_simp; rfl))
  intro gt hgt w6 hbox hb
  have GT : Aside0 (w.heap.size ≤ gt) := ⟨by rw [hgt]; exact HB.out.size⟩
  have NBT : Aside0 (gb ≠ gt) := ⟨by rw [hgt]; exact Nat.ne_of_lt (blk_lt BB.out)⟩
  have NRT : Aside0 (gr ≠ gt) := ⟨by rw [hgt]; exact Nat.ne_of_lt (blk_lt BR.out)⟩
  have BT := zam hbox
  have n1 := zam (zkb BB.out hb)
  have n2 := zam (zkb BR.out hb)
  have n3 := zam (zbt HB.out hb)
  clear BB BR HB hb hbox hgt
  have BB := n1
  have BR := n2
  have HB := n3
  clear n1 n2 n3
  refine hK.out _ _ ⟨((HB.out.cell (zwb w _ HS0.out)).trans HS0.out), ((HB.out.cell (zwb w _ HS1.out)).trans HS1.out), ((HB.out.cell (zwb w _ HS2.out)).trans HS2.out), ((zkc BB.out 0).trans rfl), ((zkc BB.out 1).trans rfl), ((zkc BB.out 2).trans rfl), ((zkc BB.out 3).trans rfl), ((HB.out.cell (zwb w _ HX0.out)).trans HX0.out), ((HB.out.cell (zwb w _ HX1.out)).trans HX1.out), ((HB.out.cell (zwb w _ HX2.out)).trans HX2.out), ((HB.out.cell (zwb w _ HX3.out)).trans HX3.out)⟩ (fun hHeld => ?_)
  clear hK K
  refine norm_ (a' := ?_) ?_ ?_
  rotate_left
  ·show Act.put _ (some 7) _ = _
   simp only [Act.put, zsa, zsz, zss, i64_w, i32_w]
   rfl
  refine one_ (i := 14) (N := some 22) #[true, true, true, true, true, true, true, true, true, true, true, true, true, true, true, true, false] rfl rfl (one_of HT_.out (by kernel_rfl)) (by decide) (fun K hK => ?_)
  refine goes_ Try.func83 (by kernel_rfl) rfl #[.agg #[.int .i64 lo, .int .i64 hi], .agg #[.int .i64 b0, .int .i64 b1, .int .i64 b2, .int .i64 b3], .agg #[.int .i64 u0, .int .i64 u1, .int .i64 u2, .int .i64 u3]] (by rfl) rfl rfl (by (try simp only [zmt, List.map_cons, List.map_nil]); first | done | rfl) ?_
  with_reducible refine (sound_travel.calls k lo hi b0 b1 b2 b3 u0 u1 u2 u3 t1 t2 _ TR.out).mono ?_
  rintro e w5 ⟨rfl, hb⟩
  refine ⟨_, rfl, ?_⟩
  (try (have n0 := zam (zkb BT.out hb); clear BT; have BT := n0; clear n0))
  have n1 := zam (zkb BB.out hb)
  have n2 := zam (zkb BR.out hb)
  have n3 := zam (zbt HB.out hb)
  clear BB BR HB hb
  have BB := n1
  have BR := n2
  have HB := n3
  clear n1 n2 n3
  refine hK.out _ _ ⟨((HB.out.cell (zwb w _ HS0.out)).trans HS0.out), ((HB.out.cell (zwb w _ HS1.out)).trans HS1.out), ((HB.out.cell (zwb w _ HS2.out)).trans HS2.out), ((zkc BB.out 0).trans rfl), ((zkc BB.out 1).trans rfl), ((zkc BB.out 2).trans rfl), ((zkc BB.out 3).trans rfl), ((HB.out.cell (zwb w _ HX0.out)).trans HX0.out), ((HB.out.cell (zwb w _ HX1.out)).trans HX1.out), ((HB.out.cell (zwb w _ HX2.out)).trans HX2.out), ((HB.out.cell (zwb w _ HX3.out)).trans HX3.out)⟩ (fun hHeld => ?_)
  clear hK K
  refine norm_ (a' := ?_) ?_ ?_
  rotate_left
  ·show Act.put _ (some 22) _ = _
   simp only [Act.put, zsa, zsz, zss, i64_w, i32_w]
   rfl
  exact norm_ (by simp only [putAll, Act.put, zsa, zsz, zss]) (hCont gt _ ⟨hHeld, BB.out, BR.out, BT.out, HB.out, GT.out, NBT.out, NRT.out⟩)
 rintro gt w7 ⟨hHeld, hB1, hB2, hB3, hB4, hB5, hB6, hB7⟩
 clear BB BR HB
 have BB := zam hB1
 have BR := zam hB2
 have BT := zam hB3
 have HB := zam hB4
 have GT := zam hB5
 have NBT := zam hB6
 have NRT := zam hB7
 clear hB1 hB2 hB3 hB4 hB5 hB6 hB7
 refine norm_ (a' := ?_) ?_ ?_
 rotate_left
 ·simp only [putAll, Act.put, zsa, zsz, zss]
  rfl
 refine one_ (i := 16) (N := none) #[true, true, true, true, true, true, true, true, true, true, true, true, true, true, true, true, true] rfl rfl (one_of HT_.out (by kernel_rfl)) (by decide) (fun K hK => ?_)
 clear hHeld
 have hz0 := (zkc BT.out 0).trans rfl
 have hz1 := (zkc BT.out 1).trans rfl
 have hf0 := zkz BT.out 0
 have hf1 := zkz BT.out 1
 refine skip_ (w1 := ?_) (by rfl) rfl ?_ ?_
 rotate_left
 ·go_simp
  rfl
 clear hz0 hz1 hf0 hf1
 have n1 := zam (zkf (p := ⟨gt, 1, none⟩) (zkf (p := ⟨gt, 0, none⟩) BB.out NBT.out (.int .i64 t1)) NBT.out (.int .i64 t2))
 have n2 := zam (zkf (p := ⟨gt, 1, none⟩) (zkf (p := ⟨gt, 0, none⟩) BR.out NRT.out (.int .i64 t1)) NRT.out (.int .i64 t2))
 have n3 := zam (zbs (j := 1) (v := .int .i64 t2) (zbs (j := 0) (v := .int .i64 t1) HB.out GT.out) GT.out)
 have n4 := zam (blk_put (cs' := #[.int .i64 t1, .int .i64 t2]) (blk_put (cs' := #[.int .i64 t1, .int .i64 0]) BT.out 0 (.int .i64 t1) rfl) 1 (.int .i64 t2) rfl)
 clear BB BR HB BT
 have BB := n1
 have BR := n2
 have HB := n3
 have BT := n4
 clear n1 n2 n3 n4
 refine hK.out _ _ ⟨((HB.out.cell (zwb w _ HS0.out)).trans HS0.out), ((HB.out.cell (zwb w _ HS1.out)).trans HS1.out), ((HB.out.cell (zwb w _ HS2.out)).trans HS2.out), ((zkc BB.out 0).trans rfl), ((zkc BB.out 1).trans rfl), ((zkc BB.out 2).trans rfl), ((zkc BB.out 3).trans rfl), ((HB.out.cell (zwb w _ HX0.out)).trans HX0.out), ((HB.out.cell (zwb w _ HX1.out)).trans HX1.out), ((HB.out.cell (zwb w _ HX2.out)).trans HX2.out), ((HB.out.cell (zwb w _ HX3.out)).trans HX3.out)⟩ (fun hHeld => ?_)
 clear hK K
 refine done_ (done_of HT_.out (by kernel_rfl)) ?_
 clear hHeld
 go_wp2
 have n1 := zam (zkd BT.out)
 have n2 := zam (zkd BR.out)
 have n3 := zam (zb1 HB.out)
 clear BB BT BR HB
 have BT := n1
 have BR := n2
 have HB := n3
 clear n1 n2 n3
 refine start_ (n := 24) (S := fun w' => w'.cell? ⟨gs, 3, none⟩ = some (.slice (some ad3) at_.length c3) ∧ w'.cell? ⟨gt, 0, none⟩ = some (.int .i64 t1) ∧ w'.cell? ⟨gt, 1, none⟩ = some (.int .i64 t2) ∧ w'.cell? (ad3.add ((i).toNat * 2)) = some (.int .i64 v0) ∧ w'.cell? ⟨(ad3.add ((i).toNat * 2)).block, (ad3.add ((i).toNat * 2)).off + 1, none⟩ = some (.int .i64 v1)) (ds := []) #[false, false, false, false, false, false, false, false, false, false, false, false, false, false, false, false, false, false, false, false, false, false, false, false] (by kernel_rfl) rfl rfl ⟨((HB.out.cell (zwb w _ HS3.out)).trans HS3.out), ((zkc BT.out 0).trans rfl), ((zkc BT.out 1).trans rfl), ((HB.out.cell (zwb w _ HY0.out)).trans HY0.out), ((HB.out.cell (zwb w _ HY1.out)).trans HY1.out)⟩ (fun hHeld => ?_)
 refine with_tabW sound_hby.tab2 sound_hby.bits2 (fun HT_ HW_ => ?_)
 generalize World.drew _ = w8 at BT BR HB hHeld ⊢
 refine pure_ (i := 0) (N := some 23) (v := ?_) (a' := ?_) #[true, false, false, false, false, false, false, false, false, false, false, false, false, false, false, false, false, false, false, false, false, false, false, false] rfl rfl (any_of HT_.out (by kernel_rfl)) (fun _ _ _ h => h) (Or.inl ⟨by rfl, ?_⟩) ?_ ?_
 rotate_left
 ·intro w'
  go_simp
  with_reducible rfl
 rotate_left
 ·simp only [Act.put, zsa, zsz, zss, i64_w, i32_w]
  rfl
 refine pure_ (i := 1) (N := some 24) (v := ?_) (a' := ?_) #[true, true, false, false, false, false, false, false, false, false, false, false, false, false, false, false, false, false, false, false, false, false, false, false] rfl rfl (any_of HT_.out (by kernel_rfl)) (fun _ _ _ h => h) (Or.inl ⟨by rfl, ?_⟩) ?_ ?_
 rotate_left
 ·intro w'
  go_simp
  with_reducible rfl
 rotate_left
 ·simp only [Act.put, zsa, zsz, zss, i64_w, i32_w]
  rfl
 refine pure_ (i := 2) (N := some 25) (v := ?_) (a' := ?_) #[true, true, true, false, false, false, false, false, false, false, false, false, false, false, false, false, false, false, false, false, false, false, false, false] rfl rfl (any_of HT_.out (by kernel_rfl)) (fun _ _ _ h => h) (Or.inl ⟨by rfl, ?_⟩) ?_ ?_
 rotate_left
 ·intro w'
  go_simp
  with_reducible rfl
 rotate_left
 ·simp only [Act.put, zsa, zsz, zss, i64_w, i32_w]
  rfl
 refine pure_ (i := 4) (N := some 27) (v := ?_) (a' := ?_) #[true, true, true, false, true, false, false, false, false, false, false, false, false, false, false, false, false, false, false, false, false, false, false, false] rfl rfl (any_of HT_.out (by kernel_rfl)) (fun _ _ _ h => h) (Or.inl ⟨by rfl, ?_⟩) ?_ ?_
 rotate_left
 ·intro w'
  go_simp
  with_reducible rfl
 rotate_left
 ·simp only [Act.put, zsa, zsz, zss, i64_w, i32_w]
  rfl
 refine pure_ (i := 8) (N := some 31) (v := ?_) (a' := ?_) #[true, true, true, false, true, false, false, false, true, false, false, false, false, false, false, false, false, false, false, false, false, false, false, false] rfl rfl (any_of HT_.out (by kernel_rfl)) (fun _ _ _ h => h) (Or.inl ⟨by rfl, ?_⟩) ?_ ?_
 rotate_left
 ·intro w'
  go_simp
  with_reducible rfl
 rotate_left
 ·simp only [Act.put, zsa, zsz, zss, i64_w, i32_w]
  rfl
 refine pure_ (i := 11) (N := some 34) (v := ?_) (a' := ?_) #[true, true, true, false, true, false, false, false, true, false, false, true, false, false, false, false, false, false, false, false, false, false, false, false] rfl rfl (any_of HT_.out (by kernel_rfl)) (fun _ _ _ h => h) (Or.inl ⟨by rfl, ?_⟩) ?_ ?_
 rotate_left
 ·intro w'
  go_simp
  with_reducible rfl
 rotate_left
 ·simp only [Act.put, zsa, zsz, zss, i64_w, i32_w]
  rfl
 refine pure_ (i := 12) (N := some 35) (v := ?_) (a' := ?_) #[true, true, true, false, true, false, false, false, true, false, false, true, true, false, false, false, false, false, false, false, false, false, false, false] rfl rfl (any_of HT_.out (by kernel_rfl)) (fun _ _ _ h => h) (Or.inl ⟨by rfl, ?_⟩) ?_ ?_
 rotate_left
 ·intro w'
  go_simp
  with_reducible rfl
 rotate_left
 ·simp only [Act.put, zsa, zsz, zss, i64_w, i32_w]
  rfl
 refine pure_ (i := 13) (N := some 36) (v := ?_) (a' := ?_) #[true, true, true, false, true, false, false, false, true, false, false, true, true, true, false, false, false, false, false, false, false, false, false, false] rfl rfl (any_of HT_.out (by kernel_rfl)) (fun _ _ _ h => h) (Or.inl ⟨by rfl, ?_⟩) ?_ ?_
 rotate_left
 ·intro w'
  go_simp
  with_reducible rfl
 rotate_left
 ·simp only [Act.put, zsa, zsz, zss, i64_w, i32_w]
  rfl
 refine pure_ (i := 15) (N := some 38) (v := ?_) (a' := ?_) #[true, true, true, false, true, false, false, false, true, false, false, true, true, true, false, true, false, false, false, false, false, false, false, false] rfl rfl (any_of HT_.out (by kernel_rfl)) (fun _ _ _ h => h) (Or.inl ⟨by rfl, ?_⟩) ?_ ?_
 rotate_left
 ·intro w'
  go_simp
  with_reducible rfl
 rotate_left
 ·simp only [Act.put, zsa, zsz, zss, i64_w, i32_w]
  rfl
 refine pure_ (i := 19) (N := some 42) (v := ?_) (a' := ?_) #[true, true, true, false, true, false, false, false, true, false, false, true, true, true, false, true, false, false, false, true, false, false, false, false] rfl rfl (any_of HT_.out (by kernel_rfl)) (fun _ _ _ h => h) (Or.inl ⟨by rfl, ?_⟩) ?_ ?_
 rotate_left
 ·intro w'
  go_simp
  with_reducible rfl
 rotate_left
 ·simp only [Act.put, zsa, zsz, zss, i64_w, i32_w]
  rfl
 refine take_ (i := 3) (N := some 26) (v := ?_) (a' := ?_) #[true, true, true, true, true, false, false, false, true, false, false, true, true, true, false, true, false, false, false, true, false, false, false, false] rfl rfl (take_ofW HT_.out HW_.out (by kernel_rfl)) (fun _ _ _ h => h) (Or.inl ⟨by rfl, ?_⟩) hHeld ?_ ?_
 rotate_left
 ·rintro w' ⟨s0, s1, s2, s3, s4⟩
  go_simp
  with_reducible rfl
 rotate_left
 ·simp only [Act.put, zsa, zsz, zss, i64_w, i32_w]
  rfl
 refine pure_ (i := 5) (N := some 28) (v := ?_) (a' := ?_) #[true, true, true, true, true, true, false, false, true, false, false, true, true, true, false, true, false, false, false, true, false, false, false, false] rfl rfl (any_of HT_.out (by kernel_rfl)) (fun _ _ _ h => h) (Or.inl ⟨by rfl, ?_⟩) ?_ ?_
 rotate_left
 ·intro w'
  go_simp
  with_reducible rfl
 rotate_left
 ·simp only [Act.put, zsa, zsz, zss, i64_w, i32_w]
  rfl
 refine pure_ (i := 6) (N := some 29) (v := ?_) (a' := ?_) #[true, true, true, true, true, true, true, false, true, false, false, true, true, true, false, true, false, false, false, true, false, false, false, false] rfl rfl (any_of HT_.out (by kernel_rfl)) (fun _ _ _ h => h) (Or.inl ⟨by rfl, ?_⟩) ?_ ?_
 rotate_left
 ·intro w'
  go_simp
  with_reducible rfl
 rotate_left
 ·simp only [Act.put, zsa, zsz, zss, i64_w, i32_w]
  rfl
 refine take_ (i := 7) (N := some 30) (v := ?_) (a' := ?_) #[true, true, true, true, true, true, true, true, true, false, false, true, true, true, false, true, false, false, false, true, false, false, false, false] rfl rfl (take_ofW HT_.out HW_.out (by kernel_rfl)) (fun _ _ _ h => h) (Or.inl ⟨by rfl, ?_⟩) hHeld ?_ ?_
 rotate_left
 ·rintro w' ⟨s0, s1, s2, s3, s4⟩
  go_simp
  with_reducible rfl
 rotate_left
 ·simp only [Act.put, zsa, zsz, zss, i64_w, i32_w]
  rfl
 refine take_ (i := 9) (N := some 32) (v := ?_) (a' := ?_) #[true, true, true, true, true, true, true, true, true, true, false, true, true, true, false, true, false, false, false, true, false, false, false, false] rfl rfl (take_ofW HT_.out HW_.out (by kernel_rfl)) (fun _ _ _ h => h) (Or.inl ⟨by rfl, ?_⟩) hHeld ?_ ?_
 rotate_left
 ·rintro w' ⟨s0, s1, s2, s3, s4⟩
  go_simp
  with_reducible rfl
 rotate_left
 ·simp only [Act.put, zsa, zsz, zss, i64_w, i32_w]
  rfl
 refine pure_ (i := 10) (N := some 33) (v := ?_) (a' := ?_) #[true, true, true, true, true, true, true, true, true, true, true, true, true, true, false, true, false, false, false, true, false, false, false, false] rfl rfl (any_of HT_.out (by kernel_rfl)) (fun _ _ _ h => h) (Or.inl ⟨by rfl, ?_⟩) ?_ ?_
 rotate_left
 ·intro w'
  go_simp
  with_reducible rfl
 rotate_left
 ·simp only [Act.put, zsa, zsz, zss, i64_w, i32_w]
  rfl
 refine take_ (i := 14) (N := some 37) (v := ?_) (a' := ?_) #[true, true, true, true, true, true, true, true, true, true, true, true, true, true, true, true, false, false, false, true, false, false, false, false] rfl rfl (take_ofW HT_.out HW_.out (by kernel_rfl)) (fun _ _ _ h => h) (Or.inl ⟨by rfl, ?_⟩) hHeld ?_ ?_
 rotate_left
 ·rintro w' ⟨s0, s1, s2, s3, s4⟩
  go_simp
  with_reducible rfl
 rotate_left
 ·simp only [Act.put, zsa, zsz, zss, i64_w, i32_w]
  rfl
 refine pure_ (i := 16) (N := some 39) (v := ?_) (a' := ?_) #[true, true, true, true, true, true, true, true, true, true, true, true, true, true, true, true, true, false, false, true, false, false, false, false] rfl rfl (any_of HT_.out (by kernel_rfl)) (fun _ _ _ h => h) (Or.inl ⟨by rfl, ?_⟩) ?_ ?_
 rotate_left
 ·intro w'
  go_simp
  with_reducible rfl
 rotate_left
 ·simp only [Act.put, zsa, zsz, zss, i64_w, i32_w]
  rfl
 refine pure_ (i := 17) (N := some 40) (v := ?_) (a' := ?_) #[true, true, true, true, true, true, true, true, true, true, true, true, true, true, true, true, true, true, false, true, false, false, false, false] rfl rfl (any_of HT_.out (by kernel_rfl)) (fun _ _ _ h => h) (Or.inl ⟨by rfl, ?_⟩) ?_ ?_
 rotate_left
 ·intro w'
  go_simp
  with_reducible rfl
 rotate_left
 ·simp only [Act.put, zsa, zsz, zss, i64_w, i32_w]
  rfl
 refine take_ (i := 18) (N := some 41) (v := ?_) (a' := ?_) #[true, true, true, true, true, true, true, true, true, true, true, true, true, true, true, true, true, true, true, true, false, false, false, false] rfl rfl (take_ofW HT_.out HW_.out (by kernel_rfl)) (fun _ _ _ h => h) (Or.inl ⟨by rfl, ?_⟩) hHeld ?_ ?_
 rotate_left
 ·rintro w' ⟨s0, s1, s2, s3, s4⟩
  go_simp
  with_reducible rfl
 rotate_left
 ·simp only [Act.put, zsa, zsz, zss, i64_w, i32_w]
  rfl
 refine take_ (i := 20) (N := some 43) (v := ?_) (a' := ?_) #[true, true, true, true, true, true, true, true, true, true, true, true, true, true, true, true, true, true, true, true, true, false, false, false] rfl rfl (take_ofW HT_.out HW_.out (by kernel_rfl)) (fun _ _ _ h => h) (Or.inl ⟨by rfl, ?_⟩) hHeld ?_ ?_
 rotate_left
 ·rintro w' ⟨s0, s1, s2, s3, s4⟩
  go_simp
  with_reducible rfl
 rotate_left
 ·simp only [Act.put, zsa, zsz, zss, i64_w, i32_w]
  rfl
 refine pure_ (i := 21) (N := some 44) (v := ?_) (a' := ?_) #[true, true, true, true, true, true, true, true, true, true, true, true, true, true, true, true, true, true, true, true, true, true, false, false] rfl rfl (any_of HT_.out (by kernel_rfl)) (fun _ _ _ h => h) (Or.inl ⟨by rfl, ?_⟩) ?_ ?_
 rotate_left
 ·intro w'
  go_simp
  with_reducible rfl
 rotate_left
 ·simp only [Act.put, zsa, zsz, zss, i64_w, i32_w]
  rfl
 refine pure_ (i := 22) (N := some 45) (v := ?_) (a' := ?_) #[true, true, true, true, true, true, true, true, true, true, true, true, true, true, true, true, true, true, true, true, true, true, true, false] rfl rfl (any_of HT_.out (by kernel_rfl)) (fun _ _ _ h => h) (Or.inl ⟨by rfl, ?_⟩) ?_ ?_
 rotate_left
 ·intro w'
  go_simp
  with_reducible rfl
 rotate_left
 ·simp only [Act.put, zsa, zsz, zss, i64_w, i32_w]
  rfl
 refine one_ (i := 23) (N := none) #[true, true, true, true, true, true, true, true, true, true, true, true, true, true, true, true, true, true, true, true, true, true, true, true] rfl rfl (one_of HT_.out (by kernel_rfl)) (by decide) (fun K hK => ?_)
 clear hHeld
 have hz0 := (zkc BR.out 0).trans rfl
 have hz1 := (zkc BR.out 1).trans rfl
 have hf0 := zkz BR.out 0
 have hf1 := zkz BR.out 1
 refine skip_ (w1 := ?_) (by rfl) rfl ?_ ?_
 rotate_left
 ·go_simp
  rfl
 clear hz0 hz1 hf0 hf1
 have n2 := zam (zkf (p := ⟨gr, 1, none⟩) (zkf (p := ⟨gr, 0, none⟩) BT.out (Ne.symm NRT.out) (.int .i64 (wrap64 (v0 - t2)))) (Ne.symm NRT.out) (.int .i64 (wrap64 (v1 - t1))))
 have n3 := zam (zbs (j := 1) (v := .int .i64 (wrap64 (v1 - t1))) (zbs (j := 0) (v := .int .i64 (wrap64 (v0 - t2))) HB.out GR.out) GR.out)
 have n4 := zam (blk_put (cs' := #[.int .i64 (wrap64 (v0 - t2)), .int .i64 (wrap64 (v1 - t1))]) (blk_put (cs' := #[.int .i64 (wrap64 (v0 - t2)), .int .i64 0]) BR.out 0 (.int .i64 (wrap64 (v0 - t2))) rfl) 1 (.int .i64 (wrap64 (v1 - t1))) rfl)
 clear BT BR HB
 have BT := n2
 have HB := n3
 have BR := n4
 clear n2 n3 n4
 refine hK.out _ _ ⟨((HB.out.cell (zwb w _ HS3.out)).trans HS3.out), ((zkc BT.out 0).trans rfl), ((zkc BT.out 1).trans rfl), ((HB.out.cell (zwb w _ HY0.out)).trans HY0.out), ((HB.out.cell (zwb w _ HY1.out)).trans HY1.out)⟩ (fun hHeld => ?_)
 clear hK K
 refine done_ (done_of HT_.out (by kernel_rfl)) ?_
 clear hHeld
 go_wp2
 refine bodyPost_ret (results_cell_row rfl _ _ gr 24 _ (0, 0) _ rfl BR.out hu24 rfl (by kernel_rfl)) rfl ?_
 exact ⟨rfl, HB.out⟩
theorem IsHeard.of_state {w0 w : World} {g : Nat} {st : List S29} {lo hi : Int} {at_ : List S24} (h : IsS137 w0 w g st lo hi at_) (hB : Below w0.heap.size w0 w) : IsHeard w g st lo hi at_ := by
 obtain ⟨A0, c0, A3, c3, h1, _, h2, h3⟩ := h
 exact ⟨A0, c0, A3, c3, h1, Kd.C_below h2 hB, Kd.C_below h3 hB⟩
def sound_heard_origin.go (k : Nat) (st : List S29) (lo hi : Int) (at_ : List S24) (b0 b1 b2 b3 : Int) : Nat → Nat → Int → Int → Option (Int × Int)
 | 0, _, x, y => some (x, y)
 | n + 1, j, x, y => (sound_hby.f k st lo hi at_ b0 b1 b2 b3 (j : Int)).bind fun t => sound_heard_origin.go k st lo hi at_ b0 b1 b2 b3 n (j + 1) (if x < t.1 then t.1 else x) (if t.2 < y then t.2 else y)
def sound_heard_origin.f (k : Nat) (st : List S29) (lo hi : Int) (at_ : List S24) (b0 b1 b2 b3 : Int) : Option (Int × Int × Bool) :=
 (sound_hby.f k st lo hi at_ b0 b1 b2 b3 0).bind fun t => (sound_heard_origin.go k st lo hi at_ b0 b1 b2 b3 at_.length 0 t.1 t.2).bind fun r => some (r.1, r.2, decide (r.1 ≤ r.2))
def OrgRel (k : Nat) (st : List S29) (lo hi : Int) (at_ : List S24) (b0 b1 b2 b3 r1 r2 : Int) (w : World) (gb gx gr : Nat) (kq : Nat) (v : Value) (w' : World) : Prop :=
 ∃ (j : Nat) (x y : Int), kq + j = at_.length ∧ v = .int .i64 (j : Int) ∧ sound_heard_origin.go k st lo hi at_ b0 b1 b2 b3 kq j x y = some (r1, r2) ∧
  w'.heap[gx]? = some (.cells #[.int .i64 x, .int .i64 y] 24 (0, 0)) ∧ w'.heap[gb]? = some (.cells #[.int .i64 b0, .int .i64 b1, .int .i64 b2, .int .i64 b3] 29 (0, 0)) ∧ w'.heap[gr]? = some (.cells #[.int .i64 0, .int .i64 0] 24 (0, 0)) ∧ Below w.heap.size w w'
theorem OrgRel.next {k : Nat} {st : List S29} {lo hi : Int} {at_ : List S24} {b0 b1 b2 b3 r1 r2 : Int} {w : World} {gb gx gr : Nat} {kq j : Nat} {x y i : Int} {w' : World} (h1 : kq + (j + 1) = at_.length) (hi2 : ((j + 1 : Nat) : Int) = i) (h2 : sound_heard_origin.go k st lo hi at_ b0 b1 b2 b3 kq (j + 1) x y = some (r1, r2))
  (h3 : w'.heap[gx]? = some (.cells #[.int .i64 x, .int .i64 y] 24 (0, 0))) (h4 : w'.heap[gb]? = some (.cells #[.int .i64 b0, .int .i64 b1, .int .i64 b2, .int .i64 b3] 29 (0, 0))) (h5 : w'.heap[gr]? = some (.cells #[.int .i64 0, .int .i64 0] 24 (0, 0))) (h6 : Below w.heap.size w w') : OrgRel k st lo hi at_ b0 b1 b2 b3 r1 r2 w gb gx gr kq (.int .i64 i) w' := by
 subst hi2
 exact ⟨j + 1, x, y, h1, rfl, h2, h3, h4, h5, h6⟩
set_option maxHeartbeats 16000000 in
set_option maxRecDepth 100000 in
theorem sound_heard_origin.calls (k : Nat) (gs : Nat) (st : List S29) (lo hi : Int) (at_ : List S24) (b0 b1 b2 b3 r1 r2 : Int) (r3 : Bool) (w : World) (hI : IsHeard w gs st lo hi at_) (hl64 : at_.length ≤ 64) (h : sound_heard_origin.f k st lo hi at_ b0 b1 b2 b3 = some (r1, r2, r3)) :
  Calls Try.prog 70 #[.pointer (some ⟨gs, 0, none⟩), .agg #[.int .i64 b0, .int .i64 b1, .int .i64 b2, .int .i64 b3]] w fun e w' => e = .returned (.tuple #[.agg #[.int .i64 r1, .int .i64 r2], .bool r3]) ∧ Below w.heap.size w w' := by
 have hu26 := Try.underlying26
 have hu29 := Try.underlying29
 have hu24 := Try.underlying24
 have hu137 := Try.underlying137
 unfold sound_heard_origin.f at h
 obtain ⟨⟨t1, t2⟩, ht, h⟩ := Option.bind_eq_some_iff.mp h
 obtain ⟨⟨y1, y2⟩, hg, h⟩ := Option.bind_eq_some_iff.mp h
 simp only [Option.some.injEq, Prod.mk.injEq] at h
 obtain ⟨rfl, rfl, rfl⟩ := h
 simp only at hg
 have BY := zam (fun (i s1 s2 : Int) (w1 : World) (hb1 : Below w.heap.size w w1) (hs : sound_hby.f k st lo hi at_ b0 b1 b2 b3 i = some (s1, s2)) => sound_hby.calls k gs st lo hi at_ b0 b1 b2 b3 i s1 s2 w1 (hI.below hb1) hs)
 obtain ⟨A0, c0, A3, c3, hh, hk0, hk3⟩ := hI
 have HS3 : Aside0 (w.cell? ⟨gs, 3, none⟩ = some (.slice A3 at_.length c3)) := ⟨(zkc hh 3).trans rfl⟩
 have HGS := zam (blk_lt hh)
 have TR := zam ht
 have HG := zam hg
 clear hh hk0 hk3 ht hg
 go_enter Try.func70, Try.ntmps70
 go_wp2_with (first | ((with_reducible refine zgd (N := 3) rfl ?_); refine box_event ?hg (N := 3) ?hd (cs := #[.int .i64 b0, .int .i64 b1, .int .i64 b2, .int .i64 b3]) (t := 29) ?hr ?_; (case hd => rfl); (case hg => rfl); (case hr => first | (go_simp; done) | (go_simp; rfl)); intro gb hgb w1 hbk hb0; have BB := zam hbk; have HB := zam hb0; have GB : Aside0 (w.heap.size ≤ gb) := ⟨Nat.le_of_eq hgb.symm⟩; clear hgb hbk hb0) | ((with_reducible refine zgd (N := 4) rfl ?_); refine box_event ?hg (N := 4) ?hd (cs := #[.int .i64 0, .int .i64 0]) (t := 24) ?hr ?_; (case hd => rfl); (case hg => rfl); (case hr => first | (go_simp; done) | (go_simp; rfl)); intro gr hgr w2 hbk hb0; have n1 := zam (zkb BB.out hb0); have NBR : Aside0 (gb ≠ gr) := ⟨by rw [hgr]; exact Nat.ne_of_lt (blk_lt BB.out)⟩; have GR : Aside0 (w.heap.size ≤ gr) := ⟨by rw [hgr]; exact HB.out.size⟩; have n2 := zam (zbt HB.out hb0); have BR := zam hbk; clear BB HB hgr hbk hb0; have BB := n1; have HB := n2; clear n1 n2; have hz0 := (zkc BB.out 0).trans rfl; have hz1 := (zkc BB.out 1).trans rfl; have hz2 := (zkc BB.out 2).trans rfl; have hz3 := (zkc BB.out 3).trans rfl) | (go_at_call 108; (with_reducible refine (BY.out 0 t1 t2 _ HB.out TR.out).mono ?_); rintro e w3 ⟨rfl, hb1⟩; clear hz0 hz1 hz2 hz3; have n1 := zam (zkb BB.out hb1); have n2 := zam (zkb BR.out hb1); have n3 := zam (zbt HB.out hb1); clear BB BR HB hb1; have BB := n1; have BR := n2; have HB := n3; clear n1 n2 n3; skip) | ((with_reducible refine zgd (N := 6) rfl ?_); refine box_event ?hg (N := 6) ?hd (cs := #[.int .i64 0, .int .i64 0]) (t := 24) ?hr ?_; (case hd => rfl); (case hg => rfl); (case hr => first | (go_simp; done) | (go_simp; rfl)); intro gx hgx w4 hbk hb0; have n1 := zam (zkb BB.out hb0); have n2 := zam (zkb BR.out hb0); have n3 := zam (zbt HB.out hb0); have NBX : Aside0 (gb ≠ gx) := ⟨by rw [hgx]; exact Nat.ne_of_lt (blk_lt BB.out)⟩; have NRX : Aside0 (gr ≠ gx) := ⟨by rw [hgx]; exact Nat.ne_of_lt (blk_lt BR.out)⟩; have GX : Aside0 (w.heap.size ≤ gx) := ⟨by rw [hgx]; exact HB.out.size⟩; have NSX : gs ≠ gx := (by have := GX.out; have := HGS.out; omega); have BX := zam hbk; clear BB BR HB hgx hbk hb0; have BB := n1; have BR := n2; have HB := n3; clear n1 n2 n3; have hs3 := ((HB.out.cell (zwb w _ HS3.out)).trans HS3.out); have hx0 := (zkc BX.out 0).trans rfl; have hx1 := (zkc BX.out 1).trans rfl; have hf0 := zkz BX.out 0; have hf1 := zkz BX.out 1))
 have n1 := zam (zkf (p := ⟨gx, 1, none⟩) (zkf (p := ⟨gx, 0, none⟩) BB.out NBX.out (.int .i64 t1)) NBX.out (.int .i64 t2))
 have n2 := zam (zkf (p := ⟨gx, 1, none⟩) (zkf (p := ⟨gx, 0, none⟩) BR.out NRX.out (.int .i64 t1)) NRX.out (.int .i64 t2))
 have n3 := zam (zbs (j := 1) (v := .int .i64 t2) (zbs (j := 0) (v := .int .i64 t1) HB.out GX.out) GX.out)
 have n4 := zam (blk_put (cs' := #[.int .i64 t1, .int .i64 t2]) (blk_put (cs' := #[.int .i64 t1, .int .i64 0]) BX.out 0 (.int .i64 t1) rfl) 1 (.int .i64 t2) rfl)
 clear BB BR HB BX hx0 hx1 hf0 hf1 hs3
 have BB := n1
 have BR := n2
 have HB := n3
 have BX := n4
 clear n1 n2 n3 n4
 go_loopg [17] at_.length (fun kq v17 w' => OrgRel k st lo hi at_ b0 b1 b2 b3 y1 y2 w gb gx gr kq v17 w')
 case atStart => exact ⟨0, t1, t2, rfl, rfl, HG.out, BX.out, BB.out, BR.out, HB.out⟩
 case round =>
  clear BX BB BR HB
  obtain ⟨j, x, y, hj, rfl, hgo, BX0, BB0, BR0, HB0⟩ := hrel
  have BX := zam BX0
  have BB := zam BB0
  have BR := zam BR0
  have HB := zam HB0
  have HJ := zam hj
  clear BX0 BB0 BR0 HB0 hj
  by_cases hlt : j < at_.length
  ·have HLT := zam hlt
   have c3 : decide ((j : Int) < (at_.length : Int)) = true := zdt (by omega)
   have c3n : decide (j < at_.length) = true := zdt hlt
   obtain ⟨k1, rfl⟩ : ∃ k1, gk = k1 + 1 := ⟨gk - 1, by have := HJ.out; omega⟩
   unfold sound_heard_origin.go at hgo
   obtain ⟨⟨s1, s2⟩, hs, hgo⟩ := Option.bind_eq_some_iff.mp hgo
   have SR := zam hs
   have HGO := zam hgo
   clear hs hgo hlt
   have hz0 := (zkc BB.out 0).trans rfl
   have hz1 := (zkc BB.out 1).trans rfl
   have hz2 := (zkc BB.out 2).trans rfl
   have hz3 := (zkc BB.out 3).trans rfl
   go_wp2_with (first | (go_at_call 108; (with_reducible refine (BY.out (j : Int) s1 s2 _ HB.out SR.out).mono ?_); rintro e w3 ⟨rfl, hb1⟩; clear hz0 hz1 hz2 hz3; have n1 := zam (zkb BB.out hb1); have n2 := zam (zkb BR.out hb1); have n4 := zam (zkb BX.out hb1); have n3 := zam (zbt HB.out hb1); clear BB BR BX HB hb1; have BB := n1; have BR := n2; have HB := n3; have BX := n4; clear n1 n2 n3 n4; skip) | ((with_reducible refine zgd (N := 8) rfl ?_); refine box_event ?hg (N := 8) ?hd (cs := #[.int .i64 0, .int .i64 0]) (t := 24) ?hr ?_; (case hd => rfl); (case hg => rfl); (case hr => first | (go_simp; done) | (go_simp; rfl)); intro gt hgt w4 hbk hb0; have n1 := zam (zkb BB.out hb0); have n2 := zam (zkb BR.out hb0); have n4 := zam (zkb BX.out hb0); have n3 := zam (zbt HB.out hb0); have NBT : Aside0 (gb ≠ gt) := ⟨by rw [hgt]; exact Nat.ne_of_lt (blk_lt BB.out)⟩; have NRT : Aside0 (gr ≠ gt) := ⟨by rw [hgt]; exact Nat.ne_of_lt (blk_lt BR.out)⟩; have NXT : gx ≠ gt := (by rw [hgt]; exact Nat.ne_of_lt (blk_lt BX.out)); have GT : Aside0 (w.heap.size ≤ gt) := ⟨by rw [hgt]; exact HB.out.size⟩; have BT := zam hbk; clear BB BR HB BX hgt hbk hb0; have BB := n1; have BR := n2; have HB := n3; have BX := n4; clear n1 n2 n3 n4; have hx0 := (zkc BT.out 0).trans rfl; have hx1 := (zkc BT.out 1).trans rfl; have hf0 := zkz BT.out 0; have hf1 := zkz BT.out 1))
   have n1 := zam (zkf (p := ⟨gt, 1, none⟩) (zkf (p := ⟨gt, 0, none⟩) BB.out NBT.out (.int .i64 s1)) NBT.out (.int .i64 s2))
   have n2 := zam (zkf (p := ⟨gt, 1, none⟩) (zkf (p := ⟨gt, 0, none⟩) BR.out NRT.out (.int .i64 s1)) NRT.out (.int .i64 s2))
   have n5 := zam (zkf (p := ⟨gt, 1, none⟩) (zkf (p := ⟨gt, 0, none⟩) BX.out NXT (.int .i64 s1)) NXT (.int .i64 s2))
   have n3 := zam (zbs (j := 1) (v := .int .i64 s2) (zbs (j := 0) (v := .int .i64 s1) HB.out GT.out) GT.out)
   have n4 := zam (blk_put (cs' := #[.int .i64 s1, .int .i64 s2]) (blk_put (cs' := #[.int .i64 s1, .int .i64 0]) BT.out 0 (.int .i64 s1) rfl) 1 (.int .i64 s2) rfl)
   clear BB BR HB BX BT hx0 hx1 hf0 hf1
   generalize (World.setCell (World.setCell w4 _ _) _ _) = w6 at n1 n2 n3 n4 n5 ⊢
   have BB := n1
   have BR := n2
   have HB := n3
   have BT := n4
   have BX := n5
   clear n1 n2 n3 n4 n5
   have hx0 := (zkc BX.out 0).trans rfl
   have hx1 := (zkc BX.out 1).trans rfl
   have hf0 := zkz BX.out 0
   have hf1 := zkz BX.out 1
   have ht0 := (zkc BT.out 0).trans rfl
   have ht1 := (zkc BT.out 1).trans rfl
   obtain ⟨m1, hm1⟩ : ∃ m1, m1 = (if x < s1 then s1 else x) := ⟨_, rfl⟩
   obtain ⟨m2, hm2⟩ : ∃ m2, m2 = (if s2 < y then s2 else y) := ⟨_, rfl⟩
   rw [← hm1, ← hm2] at HGO
   have e1 : Builtin.max2 (.int .i64 x) (.int .i64 s1) = pure (.int .i64 m1) := by rw [max2_int, hm1]
   have e2 : Builtin.min2 (.int .i64 y) (.int .i64 s2) = pure (.int .i64 m2) := by rw [min2_int, hm2]
   clear hm1 hm2
   go_region
   go_wp2
   go_roundg k1
   case measure => omega
   case rel => exact OrgRel.next (by have := HJ.out; omega) (by have := HJ.out; rw [wrap_id (by omega) (by omega)]; rfl) HGO.out (zkd (blk_put (cs' := #[.int .i64 m1, .int .i64 m2]) (blk_put (cs' := #[.int .i64 m1, .int .i64 y]) BX.out 0 (.int .i64 m1) rfl) 1 (.int .i64 m2) rfl)) (zkd (zkf (p := ⟨gx, 1, none⟩) (zkf (p := ⟨gx, 0, none⟩) BB.out NBX.out (.int .i64 m1)) NBX.out (.int .i64 m2))) (zkd (zkf (p := ⟨gx, 1, none⟩) (zkf (p := ⟨gx, 0, none⟩) BR.out NRX.out (.int .i64 m1)) NRX.out (.int .i64 m2))) (zb1 (zbs (j := 1) (v := .int .i64 m2) (zbs (j := 0) (v := .int .i64 m1) HB.out GX.out) GX.out))
  have hje : gk = 0 := by have := HJ.out; omega
  subst hje
  unfold sound_heard_origin.go at hgo
  simp only [Option.some.injEq, Prod.mk.injEq] at hgo
  obtain ⟨rfl, rfl⟩ := hgo
  have c3 : decide ((j : Int) < (at_.length : Int)) = false := zdf (by have := HJ.out; omega)
  have c3n : decide (j < at_.length) = false := zdf hlt
  clear hlt
  have hx0 := (zkc BX.out 0).trans rfl
  have hx1 := (zkc BX.out 1).trans rfl
  have hr0 := (zkc BR.out 0).trans rfl
  have hr1 := (zkc BR.out 1).trans rfl
  have hf0 := zkz BR.out 0
  have hf1 := zkz BR.out 1
  have hn := NRX.out
  have hn2 := Ne.symm NRX.out
  go_wp2
  go_region
  go_wp2
  refine bodyPost_ret (results_ct rfl _ _ gr 24 #[.int .i64 x, .int .i64 y] (0, 0) _ rfl (by first | exact zkd (blk_put (cs' := #[.int .i64 x, .int .i64 y]) (blk_put (cs' := #[.int .i64 x, .int .i64 0]) BR.out 0 (.int .i64 x) rfl) 1 (.int .i64 y) rfl) | trace_state) hu24 rfl (by kernel_rfl)) rfl ?_
  exact ⟨rfl, zb1 (zbs (j := 1) (v := .int .i64 y) (zbs (j := 0) (v := .int .i64 x) HB.out GR.out) GR.out)⟩
def sound_newHeard.f (k : Nat) (st : List S29) (lo hi : Int) (at_ : List S24) (b0 b1 b2 b3 : Int) : Option Int :=
 (sound_CheckNet.f k st lo hi).bind fun t => if t = 0 then (if (at_.length : Int) = (st.length : Int) then ((slices_ContainsFunc_Span_sound_newHeard_1.f k at_).bind fun c => if c = true then some 2 else ((bound_CheckBox.f k b0 b1 b2 b3).bind fun s => if s = 0 then some 0 else some 2)) else some 17) else some t
def NewHeard (w : World) (st : List S29) (lo hi : Int) (at_ : List S24) (r : Int) (e : Ending) (w' : World) : Prop :=
 Below w.heap.size w w' ∧ ((r ≠ 0 ∧ e = .returned (.tuple #[.pointer none, .int .i64 r])) ∨ (r = 0 ∧ ∃ g, e = .returned (.tuple #[.pointer (some ⟨g, 0, none⟩), .int .i64 0]) ∧ IsS137 w w' g st lo hi at_))
theorem NewHeard.of_ne {w w' : World} {st : List S29} {lo hi : Int} {at_ : List S24} {r : Int} {e : Ending} (h : NewHeard w st lo hi at_ r e w') (hr : r ≠ 0) : e = .returned (.tuple #[.pointer none, .int .i64 r]) ∧ Below w.heap.size w w' := by
 obtain ⟨hb, ⟨_, h⟩ | ⟨h, _⟩⟩ := h
 ·exact ⟨h, hb⟩
 exact absurd h hr
theorem NewHeard.of_zero {w w' : World} {st : List S29} {lo hi : Int} {at_ : List S24} {e : Ending} (h : NewHeard w st lo hi at_ 0 e w') : ∃ g, e = .returned (.tuple #[.pointer (some ⟨g, 0, none⟩), .int .i64 0]) ∧ IsS137 w w' g st lo hi at_ ∧ Below w.heap.size w w' := by
 obtain ⟨hb, ⟨h, _⟩ | ⟨_, g, h1, h2⟩⟩ := h
 ·exact absurd rfl h
 exact ⟨g, h1, h2, hb⟩
set_option maxHeartbeats 16000000 in
set_option maxRecDepth 100000 in
theorem sound_newHeard.calls (k : Nat) (A0 : Option Addr) (c0 : Nat) (st : List S29) (lo hi : Int) (A1 : Option Addr) (c1 : Nat) (at_ : List S24) (b0 b1 b2 b3 r : Int) (w : World) (hr0 : Kd.C k29 w A0 st.length st) (hc0 : st.length ≤ c0) (hr1 : Kd.C k24 w A1 at_.length at_) (hc1 : at_.length ≤ c1) (h : sound_newHeard.f k st lo hi at_ b0 b1 b2 b3 = some r) :
  Calls Try.prog 58 #[.agg #[.slice A0 st.length c0, .int .i64 lo, .int .i64 hi], .slice A1 at_.length c1, .agg #[.int .i64 b0, .int .i64 b1, .int .i64 b2, .int .i64 b3]] w (NewHeard w st lo hi at_ r) := by
 have hu26 := Try.underlying26
 have hu29 := Try.underlying29
 have hu24 := Try.underlying24
 have hu137 := Try.underlying137
 unfold sound_newHeard.f at h
 obtain ⟨t, ht, h⟩ := Option.bind_eq_some_iff.mp h
 have CN := zam (fun (w1 : World) (hb1 : Below w.heap.size w w1) => sound_CheckNet.calls k A0 c0 st lo hi t w1 (Kd.C_below hr0 hb1) hc0 ht)
 have CF := zam (fun (x : Bool) (w1 : World) (hb1 : Below w.heap.size w w1) (hs : slices_ContainsFunc_Span_sound_newHeard_1.f k at_ = some x) => slices_ContainsFunc_Span_sound_newHeard_1.calls k A1 c1 at_ x w1 (Kd.C_below hr1 hb1) hc1 hs)
 have CB := zam (fun (x : Int) (w1 : World) (hs : bound_CheckBox.f k b0 b1 b2 b3 = some x) => bound_CheckBox.calls k b0 b1 b2 b3 x w1 hs)
 have HR0 := zam hr0
 have HR1 := zam hr1
 clear hr0 hr1 ht
 go_enter Try.func58, Try.ntmps58
 go_upto_region 2 with (first | ((with_reducible refine zgd (N := 3) rfl ?_); refine box_event ?hg (N := 3) ?hd (cs := #[.slice A0 st.length c0, .int .i64 lo, .int .i64 hi]) (t := 26) ?hr ?_; (case hd => rfl); (case hg => rfl); (case hr => first | (go_simp; done) | (go_simp; rfl)); intro gn hgn w1 hbk hb0; have BN := zam hbk; have HB := zam hb0; clear hgn hbk hb0) | ((with_reducible refine zgd (N := 5) rfl ?_); refine box_event ?hg (N := 5) ?hd (cs := #[.int .i64 b0, .int .i64 b1, .int .i64 b2, .int .i64 b3]) (t := 29) ?hr ?_; (case hd => rfl); (case hg => rfl); (case hr => first | (go_simp; done) | (go_simp; rfl)); intro gb hgb w2 hbk hb0; have n1 := zam (zkb BN.out hb0); have n2 := zam (zbt HB.out hb0); have BB := zam hbk; clear BN HB hgb hbk hb0; have BN := n1; have HB := n2; clear n1 n2; have hz0 := (zkc BN.out 0).trans rfl; have hz1 := (zkc BN.out 1).trans rfl; have hz2 := (zkc BN.out 2).trans rfl) | (go_at_call 52; (with_reducible refine (CN.out _ HB.out).mono ?_); rintro e w3 ⟨rfl, hb1⟩; clear hz0 hz1 hz2; have n1 := zam (zkb BN.out hb1); have n2 := zam (zkb BB.out hb1); have n3 := zam (zbt HB.out hb1); clear BN BB HB hb1; have BN := n1; have BB := n2; have HB := n3; clear n1 n2 n3; skip))
 by_cases c1 : t = 0
 ·rw [if_pos c1] at h
  subst c1
  have hz0 := (zkc BN.out 0).trans rfl
  have hz1 := (zkc BN.out 1).trans rfl
  have hz2 := (zkc BN.out 2).trans rfl
  have hy0 := (zkc BB.out 0).trans rfl
  have hy1 := (zkc BB.out 1).trans rfl
  have hy2 := (zkc BB.out 2).trans rfl
  have hy3 := (zkc BB.out 3).trans rfl
  by_cases c2 : (at_.length : Int) = (st.length : Int)
  ·rw [if_pos c2] at h
   have c2b : ((at_.length : Int) != (st.length : Int)) = false := by simp [c2]
   have c2n : (at_.length != st.length) = false := (by have c2e : at_.length = st.length := (by omega); simp [c2e])
   obtain ⟨x, hx, h⟩ := Option.bind_eq_some_iff.mp h
   have HX := zam hx
   clear hx
   cases x
   ·simp only [Bool.false_eq_true, if_false] at h
    obtain ⟨s, hs, h⟩ := Option.bind_eq_some_iff.mp h
    have HS := zam hs
    clear hs
    by_cases c3 : s = 0
    ·rw [if_pos c3, Option.some.injEq] at h
     subst c3
     subst h
     go_wp2_with (first | (go_at_call 99; (with_reducible refine (CF.out false _ HB.out HX.out).mono ?_); rintro e w3 ⟨rfl, hb1⟩; clear hz0 hz1 hz2 hy0 hy1 hy2 hy3; have n1 := zam (zkb BN.out hb1); have n2 := zam (zkb BB.out hb1); have n3 := zam (zbt HB.out hb1); clear BN BB HB hb1; have BN := n1; have BB := n2; have HB := n3; clear n1 n2 n3; have hy0 := (zkc BB.out 0).trans rfl; have hy1 := (zkc BB.out 1).trans rfl; have hy2 := (zkc BB.out 2).trans rfl; have hy3 := (zkc BB.out 3).trans rfl) | (go_at_call 79; (with_reducible refine (CB.out 0 _ HS.out).mono ?_); rintro e w3 ⟨rfl, hb1⟩; clear hy0 hy1 hy2 hy3; have n1 := zam (zkb BN.out hb1); have n3 := zam (zbt HB.out hb1); clear BN BB HB hb1; have BN := n1; have HB := n3; clear n1 n3; have hz0 := (zkc BN.out 0).trans rfl; have hz1 := (zkc BN.out 1).trans rfl; have hz2 := (zkc BN.out 2).trans rfl) | ((with_reducible refine zgd (N := 33) rfl ?_); refine box_event ?hg (N := 33) ?hd (cs := #[.slice A0 st.length c0, .int .i64 lo, .int .i64 hi, .slice A1 at_.length c1]) (t := 137) ?hr ?_; (case hd => rfl); (case hg => rfl); (case hr => first | (go_simp; done) | (go_simp; rfl)); intro gs hgs w5 hbk hb0; have BS := zam hbk; have GE : Aside0 (w.heap.size ≤ gs) := ⟨by rw [hgs]; exact HB.out.size⟩; have n3 := zam (zbt HB.out hb0); clear HB hgs hbk hb0; have HB := n3; clear n3))
     go_ret2
     exact ⟨HB.out, .inr ⟨rfl, gs, rfl, A0, c0, A1, c1, BS.out, GE.out, HR0.out, HR1.out⟩⟩
    rw [if_neg c3, Option.some.injEq] at h
    subst h
    have c3b : (s != 0) = true := bne_iff_ne.mpr c3
    go_wp2_with (first | (go_at_call 99; (with_reducible refine (CF.out false _ HB.out HX.out).mono ?_); rintro e w3 ⟨rfl, hb1⟩; clear hz0 hz1 hz2 hy0 hy1 hy2 hy3; have n1 := zam (zkb BN.out hb1); have n2 := zam (zkb BB.out hb1); have n3 := zam (zbt HB.out hb1); clear BN BB HB hb1; have BN := n1; have BB := n2; have HB := n3; clear n1 n2 n3; have hy0 := (zkc BB.out 0).trans rfl; have hy1 := (zkc BB.out 1).trans rfl; have hy2 := (zkc BB.out 2).trans rfl; have hy3 := (zkc BB.out 3).trans rfl) | (go_at_call 79; (with_reducible refine (CB.out s _ HS.out).mono ?_); rintro e w3 ⟨rfl, hb1⟩; clear hy0 hy1 hy2 hy3; have n3 := zam (zbt HB.out hb1); clear BN BB HB hb1; have HB := n3; clear n3))
    go_ret2
    exact ⟨HB.out, .inl ⟨by decide, rfl⟩⟩
   simp only [if_true, Option.some.injEq] at h
   subst h
   go_wp2_with (first | (go_at_call 99; (with_reducible refine (CF.out true _ HB.out HX.out).mono ?_); rintro e w3 ⟨rfl, hb1⟩; clear hz0 hz1 hz2 hy0 hy1 hy2 hy3; have n3 := zam (zbt HB.out hb1); clear BN BB HB hb1; have HB := n3; clear n3))
   go_ret2
   exact ⟨HB.out, .inl ⟨by decide, rfl⟩⟩
  rw [if_neg c2, Option.some.injEq] at h
  subst h
  have c2b : ((at_.length : Int) != (st.length : Int)) = true := bne_iff_ne.mpr c2
  have c2n : (at_.length != st.length) = true := bne_iff_ne.mpr (fun e => c2 (by rw [e]))
  go_wp2
  go_ret2
  exact ⟨HB.out, .inl ⟨by decide, rfl⟩⟩
 rw [if_neg c1, Option.some.injEq] at h
 subst h
 have d1 : (t != 0) = true := bne_iff_ne.mpr c1
 go_wp2
 go_ret2
 exact ⟨HB.out, .inl ⟨c1, rfl⟩⟩
theorem sound_CheckNet.len {k : Nat} {st : List S29} {lo hi : Int} (h : sound_CheckNet.f k st lo hi = some 0) : st.length ≤ 8 := by
 apply Decidable.byContradiction
 intro hn
 unfold sound_CheckNet.f at h
 have e : ∀ (l : List S29) (a b : Int), sound_CheckNet.j0 k true l a b ≠ some 0 := by
  intro l a b
  cases k with
  | zero => simp [sound_CheckNet.j0]
  | succ k => simp [sound_CheckNet.j0]
 by_cases c1 : (st.length : Int) < 2
 ·rw [if_pos c1] at h
  exact e _ _ _ h
 rw [if_neg c1, if_pos (by omega)] at h
 exact e _ _ _ h
theorem sound_newHeard.len {k : Nat} {st : List S29} {lo hi : Int} {at_ : List S24} {b0 b1 b2 b3 : Int} (h : sound_newHeard.f k st lo hi at_ b0 b1 b2 b3 = some 0) : at_.length = st.length ∧ st.length ≤ 8 := by
 unfold sound_newHeard.f at h
 obtain ⟨t, ht, h⟩ := Option.bind_eq_some_iff.mp h
 by_cases c1 : t = 0
 ·rw [if_pos c1] at h
  by_cases c2 : (at_.length : Int) = (st.length : Int)
  ·subst c1
   exact ⟨by omega, sound_CheckNet.len ht⟩
  rw [if_neg c2] at h
  simp at h
 rw [if_neg c1, Option.some.injEq] at h
 exact absurd h c1
def Sp.inst (a : S24) : Bool := decide (a.f0 ≤ a.f1 ∧ -1125899906842624 ≤ a.f0 ∧ a.f1 ≤ 1125899906842624)
theorem Sp.inst_b (a b : Int) : sound_instants.f a b = some (Sp.inst ⟨a, b⟩) := by
 unfold sound_instants.f Sp.inst
 by_cases h1 : a ≤ b
 ·rw [if_pos h1]
  by_cases h2 : a ≥ -1125899906842624
  ·rw [if_pos h2]
   simp [h1]
   omega
  rw [if_neg h2]
  simp
  omega
 rw [if_neg h1]
 simp
 omega
theorem Sp.inst_r (a b : Int) : isobathref07_instants.f a b = some (Sp.inst ⟨a, b⟩) := Sp.inst_b a b
theorem Sp.nh_1 (a b : Int) : sound_newHeard_1.f a b = some (!Sp.inst ⟨a, b⟩) := by
 unfold sound_newHeard_1.f
 rw [Sp.inst_b]
 rfl
theorem Sp.nh_l0 (xs : List S24) (hl : xs.length ≤ 9223372036854775807) : ∀ (n k i : Nat), i + n = xs.length → n < k → ∃ t, slices_IndexFunc_Span_sound_newHeard_1.l0 k xs (xs.length : Int) (i : Int) = some t ∧ (0 ≤ t ↔ (xs.drop i).any (fun s => !Sp.inst s) = true)
 | 0, k, i, hi, hk => by
  obtain ⟨k, rfl⟩ : ∃ m, k = m + 1 := ⟨k - 1, by omega⟩
  rw [slices_IndexFunc_Span_sound_newHeard_1.l0, if_neg (by omega), List.drop_eq_nil_of_le (by omega)]
  exact ⟨_, rfl, by simp⟩
 | n + 1, k, i, hi, hk => by
  obtain ⟨k, rfl⟩ : ∃ m, k = m + 1 := ⟨k - 1, by omega⟩
  have hlt : i < xs.length := by omega
  rw [slices_IndexFunc_Span_sound_newHeard_1.l0, if_pos (by omega), if_pos (by omega), if_pos (by omega), Sp.rdT xs i hlt, Sp.nh_1, Option.bind_some, drop_cons hlt, List.any_cons]
  by_cases h : Sp.inst xs[i] = true
  ·rw [if_neg (by simp [h]), wrap_succ hlt hl]
   obtain ⟨t, e, h2⟩ := Sp.nh_l0 xs hl n k (i + 1) (by omega) (by omega)
   exact ⟨t, e, by rw [h2]; simp [h]⟩
  rw [if_pos (by simp [h])]
  exact ⟨_, rfl, by simp [h]⟩
def Sp.heard (st : List S29) (lo hi : Int) (at_ : List S24) (b : S29) : Int :=
 if Sp.net st lo hi = 0 then (if at_.length = st.length then (if at_.all Sp.inst = true ∧ Sp.vb b = true then 0 else 2) else 17) else Sp.net st lo hi
theorem Sp.heard_b (st : List S29) (lo hi : Int) (at_ : List S24) (b : S29) {k : Nat} (hk : 60 ≤ k) : sound_newHeard.f k st lo hi at_ b.f0.f0 b.f0.f1 b.f1.f0 b.f1.f1 = some (Sp.heard st lo hi at_ b) := by
 unfold sound_newHeard.f Sp.heard
 rw [Sp.net_b st lo hi (by omega), Option.bind_some]
 by_cases h : Sp.net st lo hi = 0
 ·obtain ⟨g1, g2, g3, g4, g5, g6⟩ := Sp.net_ok h
  rw [if_pos h, if_pos h]
  by_cases hl : at_.length = st.length
  ·rw [if_pos hl, if_pos (by omega)]
   unfold slices_ContainsFunc_Span_sound_newHeard_1.f slices_IndexFunc_Span_sound_newHeard_1.f
   obtain ⟨t, e, h2⟩ := Sp.nh_l0 at_ (by omega) at_.length k 0 (by omega) (by omega)
   rw [show (0 : Int) = ((0 : Nat) : Int) from rfl, e, Option.bind_some, Option.bind_some]
   rw [List.drop_zero, Sp.any_not] at h2
   by_cases c : at_.all Sp.inst = true
   ·rw [if_neg (by simp [c] at h2; simpa using h2), Bo.vb_b _ _ _ _ (by omega), Option.bind_some]
    by_cases hb : Sp.vb b = true
    ·have hv : Bo.vb b.f0.f0 b.f0.f1 b.f1.f0 b.f1.f1 := zod hb
     rw [if_pos hv, if_pos (show (0 : Int) = ((0 : Nat) : Int) from rfl), if_pos (show at_.all Sp.inst = true ∧ Sp.vb b = true from ⟨c, hb⟩)]
    have hv : ¬ Bo.vb b.f0.f0 b.f0.f1 b.f1.f0 b.f1.f1 := fun hh => hb (zdt hh)
    rw [if_neg hv, if_neg (show ¬ (2 : Int) = ((0 : Nat) : Int) by decide), if_neg (show ¬ (at_.all Sp.inst = true ∧ Sp.vb b = true) from fun hh => hb hh.2)]
   rw [if_pos (by simp [c] at h2; simpa using h2), if_neg (fun hh => c hh.1)]
  rw [if_neg hl, if_neg (by omega)]
 rw [if_neg h, if_neg h]
theorem Sp.arr_rl (xs : List S24) (hl : xs.length ≤ 9223372036854775807) : ∀ (n k i : Nat), i + n = xs.length → n < k → isobathref07_arrivals.l0 k xs (i : Int) = some (if (xs.drop i).all Sp.inst = true then 0 else 2)
 | 0, k, i, hi', hk => by
  obtain ⟨k, rfl⟩ : ∃ m, k = m + 1 := ⟨k - 1, by omega⟩
  rw [isobathref07_arrivals.l0, if_neg (by omega), List.drop_eq_nil_of_le (by omega)]
  rfl
 | n + 1, k, i, hi', hk => by
  obtain ⟨k, rfl⟩ : ∃ m, k = m + 1 := ⟨k - 1, by omega⟩
  have hlt : i < xs.length := by omega
  rw [isobathref07_arrivals.l0, if_pos (by omega), if_pos (by omega), Sp.rdT xs i hlt, Sp.inst_r, Option.bind_some, drop_cons hlt, List.all_cons]
  by_cases h : Sp.inst xs[i] = true
  ·rw [if_pos h, wrap_succ hlt hl, Sp.arr_rl xs hl n k (i + 1) (by omega) (by omega), h, Bool.true_and]
  have h' : Sp.inst xs[i] = false := by simpa using h
  rw [if_neg h, h', if_neg (by simp)]
theorem Sp.heard_r (st : List S29) (lo hi : Int) (at_ : List S24) (b : S29) {k : Nat} (hk : 60 ≤ k) : isobathref07_boxed.f k st lo hi at_ b.f0.f0 b.f0.f1 b.f1.f0 b.f1.f1 = some (Sp.heard st lo hi at_ b) := by
 have A : isobathref07_arrivals.f k st lo hi at_ = some (if Sp.net st lo hi = 0 then (if at_.length = st.length then (if at_.all Sp.inst = true then 0 else 2) else 17) else Sp.net st lo hi) := by
  unfold isobathref07_arrivals.f
  rw [Sp.net_r st lo hi (by omega), Option.bind_some, Option.bind_some]
  by_cases h : Sp.net st lo hi = 0
  ·obtain ⟨g1, g2, g3, g4, g5, g6⟩ := Sp.net_ok h
   rw [if_pos h, if_pos h]
   by_cases hl : at_.length = st.length
   ·rw [if_pos hl, if_pos (by omega)]
    have e := Sp.arr_rl at_ (by omega) at_.length k 0 (by omega) (by omega)
    rw [List.drop_zero] at e
    exact e
   rw [if_neg hl, if_neg (by omega)]
  rw [if_neg h, if_neg h]
 unfold isobathref07_boxed.f Sp.heard
 rw [A, Option.bind_some, Option.bind_some, Bo.vb_r, Option.bind_some]
 by_cases h : Sp.net st lo hi = 0
 ·rw [if_pos h, if_pos h]
  by_cases hl : at_.length = st.length
  ·rw [if_pos hl, if_pos hl]
   by_cases c : at_.all Sp.inst = true
   ·rw [if_pos c, if_pos rfl]
    by_cases hb : Sp.vb b = true
    ·rw [if_pos (show decide (Bo.vb b.f0.f0 b.f0.f1 b.f1.f0 b.f1.f1) = true from hb), if_pos ⟨c, hb⟩]
    rw [if_neg (show ¬ decide (Bo.vb b.f0.f0 b.f0.f1 b.f1.f0 b.f1.f1) = true from hb), if_neg (fun hh => hb hh.2)]
   rw [if_neg c, if_neg (by decide), if_neg (fun hh => c hh.1)]
  rw [if_neg hl, if_neg hl, if_neg (by decide)]
 rw [if_neg h, if_neg h, if_neg h]
structure Sp.Acc (st : List S29) (lo hi : Int) (at_ : List S24) : Prop where
 n2 : 2 ≤ st.length
 n8 : st.length ≤ 8
 lo1 : 1 ≤ lo
 lh : lo ≤ hi
 hi2 : hi ≤ 20000
 vb : st.all Sp.vb = true
 len : at_.length = st.length
 inst : at_.all Sp.inst = true
theorem Sp.heard_ok {st : List S29} {lo hi : Int} {at_ : List S24} {b : S29} (h : Sp.heard st lo hi at_ b = 0) : Sp.Acc st lo hi at_ ∧ Sp.vb b = true := by
 unfold Sp.heard at h
 split at h
 ·next h1 =>
  split at h
  ·next h2 =>
   split at h
   ·next h3 =>
    obtain ⟨g1, g2, g3, g4, g5, g6⟩ := Sp.net_ok h1
    exact ⟨⟨g1, g2, g4, g3.1, g5, g6, h2, h3.1⟩, h3.2⟩
   cases h
  cases h
 next h1 => exact absurd h h1
theorem Sp.heard_of {st : List S29} {lo hi : Int} {at_ : List S24} {b : S29} (h : Sp.Acc st lo hi at_) (hb : Sp.vb b = true) : Sp.heard st lo hi at_ b = 0 := by
 have a1 := h.lo1
 have a2 := h.lh
 have a3 := h.hi2
 have e : Sp.net st lo hi = 0 := by
  unfold Sp.net
  exact if_pos ⟨h.n2, h.n8, ⟨a2, by omega, by omega⟩, h.lo1, h.hi2, h.vb⟩
 unfold Sp.heard
 rw [if_pos e, if_pos h.len, if_pos ⟨h.inst, hb⟩]
def Sp.by1 (lo hi : Int) (b s : S29) (a : S24) : Int × Int := (a.f0 - (Sp.trav lo hi b s).2, a.f1 - (Sp.trav lo hi b s).1)
def Sp.by_ (st : List S29) (lo hi : Int) (at_ : List S24) (b : S29) (i : Nat) : Int × Int := Sp.by1 lo hi b (st.getD i ⟨⟨0, 0⟩, ⟨0, 0⟩⟩) (at_.getD i ⟨0, 0⟩)
theorem Sp.inst_of {a : S24} (h : Sp.inst a = true) : a.f0 ≤ a.f1 ∧ -1125899906842624 ≤ a.f0 ∧ a.f1 ≤ 1125899906842624 := zod h
theorem Sp.hby_b {st : List S29} {lo hi : Int} {at_ : List S24} {b : S29} (h : Sp.Acc st lo hi at_) (hb : Sp.vb b = true) (i : Nat) (hi' : i < st.length) {k : Nat} (hk : 20 ≤ k) : sound_hby.f k st lo hi at_ b.f0.f0 b.f0.f1 b.f1.f0 b.f1.f1 (i : Int) = some (Sp.by_ st lo hi at_ b i) := by
 have hs := Sp.all_get h.vb i hi'
 have hia : i < at_.length := by rw [h.len]; exact hi'
 have ha := Sp.inst_of (List.all_eq_true.1 h.inst _ (List.getElem_mem hia))
 have B := Sp.trav_bd hb hs h.lo1 h.lh
 have e1 : st.getD i ⟨⟨0, 0⟩, ⟨0, 0⟩⟩ = st[i] := by simp [List.getD, hi']
 have e2 : at_.getD i ⟨0, 0⟩ = at_[i] := by simp [List.getD, hia]
 unfold sound_hby.f
 rw [if_pos (by omega), if_pos (by omega), if_pos (by omega), Sp.rdB st i hi', Sp.rdT at_ i hia, Sp.trav_b hb hs h.lo1 h.lh h.hi2 hk, Option.bind_some, wrap_id (by omega) (by omega), wrap_id (by omega) (by omega)]
 unfold Sp.by_ Sp.by1
 rw [e1, e2]
theorem Sp.by_r {st : List S29} {lo hi : Int} {at_ : List S24} {b : S29} (h : Sp.Acc st lo hi at_) (hb : Sp.vb b = true) (i : Nat) (hi' : i < st.length) {k : Nat} (hk : 40 ≤ k) : isobathref07_by.f k st lo hi at_ b.f0.f0 b.f0.f1 b.f1.f0 b.f1.f1 (i : Int) = some (Sp.by_ st lo hi at_ b i) := by
 have hs := Sp.all_get h.vb i hi'
 have hia : i < at_.length := by rw [h.len]; exact hi'
 have ha := Sp.inst_of (List.all_eq_true.1 h.inst _ (List.getElem_mem hia))
 have B := Sp.trav_bd hb hs h.lo1 h.lh
 have e1 : st.getD i ⟨⟨0, 0⟩, ⟨0, 0⟩⟩ = st[i] := by simp [List.getD, hi']
 have e2 : at_.getD i ⟨0, 0⟩ = at_[i] := by simp [List.getD, hia]
 unfold isobathref07_by.f
 rw [if_pos (by omega), if_pos (by omega), Sp.rdB st i hi', Sp.trav_r hb hs h.lo1 h.lh h.hi2 hk, Option.bind_some, if_pos (by omega), Sp.rdT at_ i hia, wrap_id (by omega) (by omega), wrap_id (by omega) (by omega)]
 unfold Sp.by_ Sp.by1
 rw [e1, e2]
def Sp.oLo (P : Nat → Int × Int) : Nat → Int
 | 0 => (P 0).1
 | n + 1 => max (Sp.oLo P n) (P n).1
def Sp.oHi (P : Nat → Int × Int) : Nat → Int
 | 0 => (P 0).2
 | n + 1 => min (Sp.oHi P n) (P n).2
theorem Sp.go_b {st : List S29} {lo hi : Int} {at_ : List S24} {b : S29} (h : Sp.Acc st lo hi at_) (hb : Sp.vb b = true) {k : Nat} (hk : 20 ≤ k) : ∀ (n j : Nat), j + n = st.length → sound_heard_origin.go k st lo hi at_ b.f0.f0 b.f0.f1 b.f1.f0 b.f1.f1 n j (Sp.oLo (Sp.by_ st lo hi at_ b) j) (Sp.oHi (Sp.by_ st lo hi at_ b) j) = some (Sp.oLo (Sp.by_ st lo hi at_ b) st.length, Sp.oHi (Sp.by_ st lo hi at_ b) st.length)
 | 0, j, hj => by
  have : j = st.length := by omega
  subst this
  rfl
 | n + 1, j, hj => by
  have ih := Sp.go_b h hb hk n (j + 1) (by omega)
  rw [sound_heard_origin.go, Sp.hby_b h hb j (by omega) hk, Option.bind_some]
  have e1 : (if Sp.oLo (Sp.by_ st lo hi at_ b) j < (Sp.by_ st lo hi at_ b j).1 then (Sp.by_ st lo hi at_ b j).1 else Sp.oLo (Sp.by_ st lo hi at_ b) j) = Sp.oLo (Sp.by_ st lo hi at_ b) (j + 1) := by
   rw [Sp.oLo]
   split <;> omega
  have e2 : (if (Sp.by_ st lo hi at_ b j).2 < Sp.oHi (Sp.by_ st lo hi at_ b) j then (Sp.by_ st lo hi at_ b j).2 else Sp.oHi (Sp.by_ st lo hi at_ b) j) = Sp.oHi (Sp.by_ st lo hi at_ b) (j + 1) := by
   rw [Sp.oHi]
   split <;> omega
  rw [e1, e2]
  exact ih
def Sp.org (st : List S29) (lo hi : Int) (at_ : List S24) (b : S29) : Int × Int := (Sp.oLo (Sp.by_ st lo hi at_ b) st.length, Sp.oHi (Sp.by_ st lo hi at_ b) st.length)
theorem Sp.org_b {st : List S29} {lo hi : Int} {at_ : List S24} {b : S29} (h : Sp.Acc st lo hi at_) (hb : Sp.vb b = true) {k : Nat} (hk : 20 ≤ k) : sound_heard_origin.f k st lo hi at_ b.f0.f0 b.f0.f1 b.f1.f0 b.f1.f1 = some ((Sp.org st lo hi at_ b).1, (Sp.org st lo hi at_ b).2, decide ((Sp.org st lo hi at_ b).1 ≤ (Sp.org st lo hi at_ b).2)) := by
 have n2 := h.n2
 unfold sound_heard_origin.f
 have e := Sp.hby_b h hb 0 (by omega) hk
 rw [show ((0 : Nat) : Int) = 0 from rfl] at e
 rw [e, Option.bind_some, h.len]
 have g := Sp.go_b h hb hk st.length 0 (by omega)
 rw [show Sp.oLo (Sp.by_ st lo hi at_ b) 0 = (Sp.by_ st lo hi at_ b 0).1 from rfl, show Sp.oHi (Sp.by_ st lo hi at_ b) 0 = (Sp.by_ st lo hi at_ b 0).2 from rfl] at g
 rw [g]
 rfl
theorem Sp.org_l0 {st : List S29} {lo hi : Int} {at_ : List S24} {b : S29} (h : Sp.Acc st lo hi at_) (hb : Sp.vb b = true) : ∀ (n k j : Nat), j + n = st.length → n + 40 < k → isobathref07_origin.l0 k at_ (j : Int) st lo hi b.f0.f0 b.f0.f1 b.f1.f0 b.f1.f1 (Sp.oLo (Sp.by_ st lo hi at_ b) j) (Sp.oHi (Sp.by_ st lo hi at_ b) j) = some (Sp.org st lo hi at_ b)
 | 0, k, j, hj, hk => by
  obtain ⟨k, rfl⟩ : ∃ m, k = m + 1 := ⟨k - 1, by omega⟩
  have hl := h.len
  have : j = st.length := by omega
  subst this
  rw [isobathref07_origin.l0, if_neg (by omega)]
  rfl
 | n + 1, k, j, hj, hk => by
  obtain ⟨k, rfl⟩ : ∃ m, k = m + 1 := ⟨k - 1, by omega⟩
  have hl := h.len
  have n8 := h.n8
  have ih := Sp.org_l0 h hb n k (j + 1) (by omega) (by omega)
  rw [isobathref07_origin.l0, if_pos (by omega), Sp.by_r h hb j (by omega) (by omega), Option.bind_some, Bo.mxE, Bo.mnE, wrap_succ (n := st.length) (by omega) (by omega)]
  exact ih
theorem Sp.org_r {st : List S29} {lo hi : Int} {at_ : List S24} {b : S29} (h : Sp.Acc st lo hi at_) (hb : Sp.vb b = true) {k : Nat} (hk : 60 ≤ k) : isobathref07_origin.f k st lo hi at_ b.f0.f0 b.f0.f1 b.f1.f0 b.f1.f1 = some (Sp.org st lo hi at_ b) := by
 have n2 := h.n2
 have n8 := h.n8
 unfold isobathref07_origin.f
 have e := Sp.by_r h hb 0 (by omega) (k := k) (by omega)
 rw [show ((0 : Nat) : Int) = 0 from rfl] at e
 rw [e, Option.bind_some]
 have g := Sp.org_l0 h hb (st.length - 1) k 1 (by omega) (by omega)
 have e1 : Sp.oLo (Sp.by_ st lo hi at_ b) 1 = (Sp.by_ st lo hi at_ b 0).1 := by
  show max (Sp.by_ st lo hi at_ b 0).1 (Sp.by_ st lo hi at_ b 0).1 = _
  omega
 have e2 : Sp.oHi (Sp.by_ st lo hi at_ b) 1 = (Sp.by_ st lo hi at_ b 0).2 := by
  show min (Sp.by_ st lo hi at_ b 0).2 (Sp.by_ st lo hi at_ b 0).2 = _
  omega
 rw [e1, e2] at g
 exact g
theorem Sp.oLo_ge (P : Nat → Int × Int) : ∀ (n i : Nat), i < n → (P i).1 ≤ Sp.oLo P n ∧ Sp.oHi P n ≤ (P i).2
 | 0, i, h => by omega
 | n + 1, i, h => by
  rw [Sp.oLo, Sp.oHi]
  by_cases e : i = n
  ·subst e
   omega
  have := Sp.oLo_ge P n i (by omega)
  omega
theorem Sp.oLo_le (P : Nat → Int × Int) (x : Int) : ∀ n : Nat, 0 < n → (∀ i, i < n → (P i).1 ≤ x) → Sp.oLo P n ≤ x
 | 0, h, _ => by omega
 | n + 1, _, h => by
  rw [Sp.oLo]
  have h1 := h n (by omega)
  cases n with
  | zero =>
   rw [Sp.oLo]
   omega
  | succ m =>
   have := Sp.oLo_le P x (m + 1) (by omega) (fun i hi => h i (by omega))
   omega
theorem Sp.le_oHi (P : Nat → Int × Int) (x : Int) : ∀ n : Nat, 0 < n → (∀ i, i < n → x ≤ (P i).2) → x ≤ Sp.oHi P n
 | 0, h, _ => by omega
 | n + 1, _, h => by
  rw [Sp.oHi]
  have h1 := h n (by omega)
  cases n with
  | zero =>
   rw [Sp.oHi]
   omega
  | succ m =>
   have := Sp.le_oHi P x (m + 1) (by omega) (fun i hi => h i (by omega))
   omega
theorem Sp.out_r {st : List S29} {lo hi : Int} {at_ : List S24} {b : S29} (h : Sp.Acc st lo hi at_) (hb : Sp.vb b = true) {k : Nat} (hk : 60 ≤ k) : isobathref07_Out.f k st lo hi at_ b.f0.f0 b.f0.f1 b.f1.f0 b.f1.f1 = some (!decide ((Sp.org st lo hi at_ b).1 ≤ (Sp.org st lo hi at_ b).2)) := by
 unfold isobathref07_Out.f
 rw [Sp.org_r h hb hk, Option.bind_some]
 congr 1
 by_cases c : (Sp.org st lo hi at_ b).1 ≤ (Sp.org st lo hi at_ b).2
 ·have : ¬ (Sp.org st lo hi at_ b).1 > (Sp.org st lo hi at_ b).2 := by omega
  simp [c, this]
 have : (Sp.org st lo hi at_ b).1 > (Sp.org st lo hi at_ b).2 := by omega
 simp [c, this]
def isobathref07_halves.f (k : Nat) (a0_0 : Int) (a0_1 : Int) : Option ((List (S24))) := if a0_0 = a0_1 then (some (([(⟨a0_0, a0_1⟩ : S24)] : List (S24)))) else ((isobathref01_Down.f k (wrap64 (a0_0 + a0_1)) 2).bind fun t105 => (some (([(⟨a0_0, t105⟩ : S24), (⟨t105, a0_1⟩ : S24)] : List (S24)))))
mutual
def isobathref07_Parts.l0 : Nat → List (S29) → List (S24) → List (S24) → Int → Option ((List (S29)))
 | 0, _, _, _, _ => none
 | k + 1, x3, x4, x5, x6 => if x6 < (x5.length : Int) then (isobathref07_Parts.l1 k x3 x4 x5 x6 0) else (some x3)
def isobathref07_Parts.l1 : Nat → List (S29) → List (S24) → List (S24) → Int → Int → Option ((List (S29)))
 | 0, _, _, _, _, _ => none
 | k + 1, x3, x4, x5, x6, x7 => if x7 < (x4.length : Int) then (if 0 ≤ x7 then (if 0 ≤ x6 then (if x6 < (x5.length : Int) then (if x3.length < 4398046511104 then (isobathref07_Parts.l1 k (x3 ++ [(⟨(⟨(rd_T24 x4 x7).f0, (rd_T24 x4 x7).f1⟩ : S24), (⟨(rd_T24 x5 x6).f0, (rd_T24 x5 x6).f1⟩ : S24)⟩ : S29)]) x4 x5 x6 (wrap64 (x7 + 1))) else (none)) else (none)) else (none)) else (none)) else (isobathref07_Parts.l0 k x3 x4 x5 (wrap64 (x6 + 1)))
end
def isobathref07_Parts.f (k : Nat) (a0_0 : Int) (a0_1 : Int) (a0_2 : Int) (a0_3 : Int) : Option ((List (S29))) := (isobathref07_halves.f k a0_0 a0_1).bind fun t102 => ((isobathref07_halves.f k a0_2 a0_3).bind fun t105 => (isobathref07_Parts.l0 k ([] : List (S29)) t102 t105 0))
mutual
def isobathref07_region.l0 : Nat → List (S24) → Int → List (S29) → List (S29) → Int → List (S29) → Int → Int → Option ((List (S29)))
 | 0, _, _, _, _, _, _, _, _ => none
 | k + 1, x1, x3, x9, x10, x11, x102000, x102001, x102002 => if x11 < (x10.length : Int) then (if 0 ≤ x11 then ((isobathref07_region.f k x102000 x102001 x102002 x1 ((rd_T29 x10 x11).f0.f0) ((rd_T29 x10 x11).f0.f1) ((rd_T29 x10 x11).f1.f0) ((rd_T29 x10 x11).f1.f1) (wrap64 (x3 - 1))).bind fun t111 => (if x9.length + t111.length < 4398046511104 then (isobathref07_region.l0 k x1 x3 (x9 ++ t111) x10 (wrap64 (x11 + 1)) x102000 x102001 x102002) else (none))) else (none)) else (some x9)
def isobathref07_region.f : Nat → List (S29) → Int → Int → List (S24) → Int → Int → Int → Int → Int → Option ((List (S29)))
 | 0, _, _, _, _, _, _, _, _, _ => none
 | k + 1, l0_0, a0_1, a0_2, l1, a2_0, a2_1, a2_2, a2_3, a3 => (isobathref07_Out.f k l0_0 a0_1 a0_2 l1 a2_0 a2_1 a2_2 a2_3).bind fun t103 => (if t103 = true then (some ([] : List (S29))) else (if a3 = 0 then (some (([(⟨(⟨a2_0, a2_1⟩ : S24), (⟨a2_2, a2_3⟩ : S24)⟩ : S29)] : List (S29)))) else ((isobathref07_Parts.f k a2_0 a2_1 a2_2 a2_3).bind fun t107 => (isobathref07_region.l0 k l1 a3 ([] : List (S29)) t107 0 l0_0 a0_1 a0_2))))
end
def isobathref07_Region.f (k : Nat) (l0_0 : List (S29)) (a0_1 : Int) (a0_2 : Int) (l1 : List (S24)) (a2_0 : Int) (a2_1 : Int) (a2_2 : Int) (a2_3 : Int) (a3 : Int) : Option ((List (S29)) × Int) := (isobathref07_boxed.f k l0_0 a0_1 a0_2 l1 a2_0 a2_1 a2_2 a2_3).bind fun t103 => (if t103 = 0 then (if a3 < 0 then (some (([] : List (S29)), 3)) else (if a3 > 5 then (some (([] : List (S29)), 3)) else ((isobathref07_region.f k l0_0 a0_1 a0_2 l1 a2_0 a2_1 a2_2 a2_3 a3).bind fun t104 => (some (t104, 0))))) else ((isobathref07_boxed.f k l0_0 a0_1 a0_2 l1 a2_0 a2_1 a2_2 a2_3).bind fun t107 => (some (([] : List (S29)), t107))))
def sound_halves.f (a0_0 : Int) (a0_1 : Int) : Option (Int × Int × Int × Int × Int) := if a0_0 = a0_1 then (some (a0_0, a0_1, 0, 0, 1)) else (some (a0_0, (wrap64 (a0_0 + a0_1)) / 2, (wrap64 (a0_0 + a0_1)) / 2, a0_1, 2))
set_option maxHeartbeats 8000000 in
set_option maxRecDepth 100000 in
theorem sound_halves.calls (a0_0 : Int) (a0_1 : Int) (r1 : Int) (r2 : Int) (r3 : Int) (r4 : Int) (r5 : Int) (w : World) (h : sound_halves.f a0_0 a0_1 = some (r1, r2, r3, r4, r5)) :
  Calls Try.prog 127 #[.agg #[.int .i64 a0_0, .int .i64 a0_1]] w fun e w' => e = .returned (.tuple #[.agg #[.int .i64 r1, .int .i64 r2, .int .i64 r3, .int .i64 r4], .int .i64 r5]) ∧ Below w.heap.size w w' := by
 have hu24 := Try.underlying24
 have hu160 := Try.underlying160
 have HB := zam (Below.refl w.heap.size w)
 have H : (if a0_0 = a0_1 then (some (a0_0, a0_1, 0, 0, 1)) else (some (a0_0, (wrap64 (a0_0 + a0_1)) / 2, (wrap64 (a0_0 + a0_1)) / 2, a0_1, 2))) = some (r1, r2, r3, r4, r5) := h
 clear h
 by_cases c2 : a0_0 = a0_1
 ·rw [if_pos c2] at H
  have c2b0 : (a0_0 == a0_1) = true := beq_iff_eq.mpr c2
  have c2b1 : (a0_0 != a0_1) = false := bne_eq_false_iff_eq.mpr c2
  clear c2
  simp only [Option.some.injEq, Prod.mk.injEq] at H
  obtain ⟨rfl, rfl, rfl, rfl, rfl⟩ := H
  go_enter Try.func127, Try.ntmps127
  go_wp2_with (first | ((with_reducible refine zgd (N := 1) rfl ?_); refine box_event ?hg (N := 1) ?hd (cs := #[.int .i64 a0_0, .int .i64 a0_1]) (t := 24) ?hr ?_; (case hd => rfl); (case hg => rfl); (case hr => first | (go_simp; done) | (go_simp; rfl)); intro gb101 hg w3 hbox hb; have n0_ := zam (zbt zq1 hb); have n1_ := zam (hbox); have n2_ := zam ((by rw [hg]; exact (zbz zq1) : w.heap.size ≤ gb101)); have n3_ := zam ((by rw [hg]; exact (zbz zq1) : w.heap.size ≤ gb101)); clear HB; have HB := n0_; have BK101 := n1_; have GW101 := n2_; have GE101 := n3_; clear n0_ n1_ n2_ n3_; clear hb hbox hg) | ((with_reducible refine zgd (N := 2) rfl ?_); refine box_event ?hg (N := 2) ?hd (cs := #[.int .i64 0, .int .i64 0, .int .i64 0, .int .i64 0]) (t := 160) ?hr ?_; (case hd => rfl); (case hg => rfl); (case hr => first | (go_simp; done) | (go_simp; rfl)); intro gb102 hg w4 hbox hb; have n0_ := zam (zkb (g := gb101) (o := .cells #[.int .i64 a0_0, .int .i64 a0_1] 24 (0, 0)) zq0 hb); have n1_ := zam (zbt zq2 hb); have n2_ := zam (hbox); have n3_ := zam ((by rw [hg]; exact (zbz zq2) : w.heap.size ≤ gb102)); have n4_ := zam ((by rw [hg]; exact (zbz zq2) : w.heap.size ≤ gb102)); have n5_ := zam ((by rw [hg]; exact Nat.ne_of_lt (blk_lt (g := gb101) (o := .cells #[.int .i64 a0_0, .int .i64 a0_1] 24 (0, 0)) zq0) : gb101 ≠ gb102)); have n6_ := zam ((by rw [hg]; exact Nat.ne_of_gt (blk_lt (g := gb101) (o := .cells #[.int .i64 a0_0, .int .i64 a0_1] 24 (0, 0)) zq0) : gb102 ≠ gb101)); clear BK101; clear HB; have BK101 := n0_; have HB := n1_; have BK102 := n2_; have GW102 := n3_; have GE102 := n4_; have NB101_102 := n5_; have NB102_101 := n6_; clear n0_ n1_ n2_ n3_ n4_ n5_ n6_; clear hb hbox hg; have hnb5 := NB101_102.out; have hnc5 := NB102_101.out; have hcz6_0 : w4.cell? ⟨gb101, 0, none⟩ = some (.int .i64 a0_0) := (zkc BK101.out 0).trans rfl; have hcz6_1 : w4.cell? ⟨gb101, 1, none⟩ = some (.int .i64 a0_1) := (zkc BK101.out 1).trans rfl; have hfz6_0 := zkz BK101.out 0; have hfz6_1 := zkz BK101.out 1; have hcz7_0 : w4.cell? ⟨gb102, 0, none⟩ = some (.int .i64 0) := (zkc BK102.out 0).trans rfl; have hcz7_1 : w4.cell? ⟨gb102, 1, none⟩ = some (.int .i64 0) := (zkc BK102.out 1).trans rfl; have hcz7_2 : w4.cell? ⟨gb102, 2, none⟩ = some (.int .i64 0) := (zkc BK102.out 2).trans rfl; have hcz7_3 : w4.cell? ⟨gb102, 3, none⟩ = some (.int .i64 0) := (zkc BK102.out 3).trans rfl; have hfz7_0 := zkz BK102.out 0; have hfz7_1 := zkz BK102.out 1; have hfz7_2 := zkz BK102.out 2; have hfz7_3 := zkz BK102.out 3))
  refine bodyPost_ret (results_ct rfl _ _ gb102 160 #[.int .i64 a0_0, .int .i64 a0_1, .int .i64 0, .int .i64 0] (0, 0) _ rfl (by (with_reducible repeat (first | refine zkn ?_ _ | refine zkd ?_ | refine zka ?_ _)); refine blk_put (cs := #[.int .i64 a0_0, .int .i64 a0_1, .int .i64 0, .int .i64 0]) ?_ 3 _ rfl; (with_reducible repeat (first | refine zkn ?_ _ | refine zkd ?_ | refine zka ?_ _)); refine blk_put (cs := #[.int .i64 a0_0, .int .i64 a0_1, .int .i64 0, .int .i64 0]) ?_ 2 _ rfl; (with_reducible repeat (first | refine zkn ?_ _ | refine zkd ?_ | refine zka ?_ _)); refine blk_put (cs := #[.int .i64 a0_0, .int .i64 0, .int .i64 0, .int .i64 0]) ?_ 1 _ rfl; (with_reducible repeat (first | refine zkn ?_ _ | refine zkd ?_ | refine zka ?_ _)); refine blk_put (cs := #[.int .i64 0, .int .i64 0, .int .i64 0, .int .i64 0]) ?_ 0 _ rfl; (with_reducible repeat (first | refine zkn ?_ _ | refine zkd ?_ | refine zka ?_ _)); exact BK102.out) Try.underlying160 rfl (by kernel_rfl)) rfl ?_
  exact ⟨by first | rfl | (simp [errW_none, errW_some] <;> rfl) | (simp [*, errW_none, errW_some] <;> rfl), by repeat (first | (with_reducible first | exact HB.out | apply zba | apply zbn | apply zb1 | refine zbs ?_ GE101.out | refine zbs ?_ GE102.out) | exact HB.out)⟩
 rw [if_neg c2] at H
 have c2b0 : (a0_0 == a0_1) = false := beq_eq_false_iff_ne.mpr c2
 have c2b1 : (a0_0 != a0_1) = true := bne_iff_ne.mpr c2
 simp only [Option.some.injEq, Prod.mk.injEq] at H
 obtain ⟨rfl, rfl, rfl, rfl, rfl⟩ := H
 go_enter Try.func127, Try.ntmps127
 go_wp2_with (first | ((with_reducible refine zgd (N := 1) rfl ?_); refine box_event ?hg (N := 1) ?hd (cs := #[.int .i64 a0_0, .int .i64 a0_1]) (t := 24) ?hr ?_; (case hd => rfl); (case hg => rfl); (case hr => first | (go_simp; done) | (go_simp; rfl)); intro gb101 hg w8 hbox hb; have n0_ := zam (zbt zq1 hb); have n1_ := zam (hbox); have n2_ := zam ((by rw [hg]; exact (zbz zq1) : w.heap.size ≤ gb101)); have n3_ := zam ((by rw [hg]; exact (zbz zq1) : w.heap.size ≤ gb101)); clear HB; have HB := n0_; have BK101 := n1_; have GW101 := n2_; have GE101 := n3_; clear n0_ n1_ n2_ n3_; clear hb hbox hg) | ((with_reducible refine zgd (N := 2) rfl ?_); refine box_event ?hg (N := 2) ?hd (cs := #[.int .i64 0, .int .i64 0, .int .i64 0, .int .i64 0]) (t := 160) ?hr ?_; (case hd => rfl); (case hg => rfl); (case hr => first | (go_simp; done) | (go_simp; rfl)); intro gb102 hg w9 hbox hb; have n0_ := zam (zkb (g := gb101) (o := .cells #[.int .i64 a0_0, .int .i64 a0_1] 24 (0, 0)) zq0 hb); have n1_ := zam (zbt zq2 hb); have n2_ := zam (hbox); have n3_ := zam ((by rw [hg]; exact (zbz zq2) : w.heap.size ≤ gb102)); have n4_ := zam ((by rw [hg]; exact (zbz zq2) : w.heap.size ≤ gb102)); have n5_ := zam ((by rw [hg]; exact Nat.ne_of_lt (blk_lt (g := gb101) (o := .cells #[.int .i64 a0_0, .int .i64 a0_1] 24 (0, 0)) zq0) : gb101 ≠ gb102)); have n6_ := zam ((by rw [hg]; exact Nat.ne_of_gt (blk_lt (g := gb101) (o := .cells #[.int .i64 a0_0, .int .i64 a0_1] 24 (0, 0)) zq0) : gb102 ≠ gb101)); clear BK101; clear HB; have BK101 := n0_; have HB := n1_; have BK102 := n2_; have GW102 := n3_; have GE102 := n4_; have NB101_102 := n5_; have NB102_101 := n6_; clear n0_ n1_ n2_ n3_ n4_ n5_ n6_; clear hb hbox hg; have hnb10 := NB101_102.out; have hnc10 := NB102_101.out; have hcz11_0 : w9.cell? ⟨gb101, 0, none⟩ = some (.int .i64 a0_0) := (zkc BK101.out 0).trans rfl; have hcz11_1 : w9.cell? ⟨gb101, 1, none⟩ = some (.int .i64 a0_1) := (zkc BK101.out 1).trans rfl; have hfz11_0 := zkz BK101.out 0; have hfz11_1 := zkz BK101.out 1; have hcz12_0 : w9.cell? ⟨gb102, 0, none⟩ = some (.int .i64 0) := (zkc BK102.out 0).trans rfl; have hcz12_1 : w9.cell? ⟨gb102, 1, none⟩ = some (.int .i64 0) := (zkc BK102.out 1).trans rfl; have hcz12_2 : w9.cell? ⟨gb102, 2, none⟩ = some (.int .i64 0) := (zkc BK102.out 2).trans rfl; have hcz12_3 : w9.cell? ⟨gb102, 3, none⟩ = some (.int .i64 0) := (zkc BK102.out 3).trans rfl; have hfz12_0 := zkz BK102.out 0; have hfz12_1 := zkz BK102.out 1; have hfz12_2 := zkz BK102.out 2; have hfz12_3 := zkz BK102.out 3))
 refine bodyPost_ret (results_ct rfl _ _ gb102 160 #[.int .i64 a0_0, .int .i64 ((wrap64 (a0_0 + a0_1)) / 2), .int .i64 ((wrap64 (a0_0 + a0_1)) / 2), .int .i64 a0_1] (0, 0) _ rfl (by (with_reducible repeat (first | refine zkn ?_ _ | refine zkd ?_ | refine zka ?_ _)); refine blk_put (cs := #[.int .i64 a0_0, .int .i64 ((wrap64 (a0_0 + a0_1)) / 2), .int .i64 ((wrap64 (a0_0 + a0_1)) / 2), .int .i64 0]) ?_ 3 _ rfl; (with_reducible repeat (first | refine zkn ?_ _ | refine zkd ?_ | refine zka ?_ _)); refine blk_put (cs := #[.int .i64 a0_0, .int .i64 ((wrap64 (a0_0 + a0_1)) / 2), .int .i64 0, .int .i64 0]) ?_ 2 _ rfl; (with_reducible repeat (first | refine zkn ?_ _ | refine zkd ?_ | refine zka ?_ _)); refine blk_put (cs := #[.int .i64 a0_0, .int .i64 0, .int .i64 0, .int .i64 0]) ?_ 1 _ rfl; (with_reducible repeat (first | refine zkn ?_ _ | refine zkd ?_ | refine zka ?_ _)); refine blk_put (cs := #[.int .i64 0, .int .i64 0, .int .i64 0, .int .i64 0]) ?_ 0 _ rfl; (with_reducible repeat (first | refine zkn ?_ _ | refine zkd ?_ | refine zka ?_ _)); exact BK102.out) Try.underlying160 rfl (by kernel_rfl)) rfl ?_
 exact ⟨by first | rfl | (simp [errW_none, errW_some] <;> rfl) | (simp [*, errW_none, errW_some] <;> rfl), by repeat (first | (with_reducible first | exact HB.out | apply zba | apply zbn | apply zb1 | refine zbs ?_ GE101.out | refine zbs ?_ GE102.out) | exact HB.out)⟩
end Go.Proofs.Ytaheamdoldiojaa.P
namespace Go.Proofs.Ytaheamdoldiojaa.P
open Go.RowKit Go.Proofs.YtaheamdoldiojaaW.PrintWords Go.Proofs.YtaheamdoldiojaaW.PrintLast Go.Proofs.YtaheamdoldiojaaW.PrintMore
attribute [local go_sem] max2_int min2_int max_two min_two max_three min_three max_four min_four   -- for this text's walks alone
set_option linter.unusedVariables false
set_option linter.unusedSimpArgs false
open Go.Shelf
attribute [local go_sem] Oper.semAt_some
def Sd.half (a b : Int) : List S24 := if a = b then [⟨a, b⟩] else [⟨a, wrap64 (a + b) / 2⟩, ⟨wrap64 (a + b) / 2, b⟩]
def Sd.row (xs : List S24) (y : S24) : List S29 := xs.map fun x => ⟨x, y⟩
def Sd.parts (b0 b1 b2 b3 : Int) : List S29 := (Sd.half b2 b3).flatMap (Sd.row (Sd.half b0 b1))
theorem Sd.half_len (a b : Int) : 1 ≤ (Sd.half a b).length ∧ (Sd.half a b).length ≤ 2 := by
 unfold Sd.half
 split <;> simp
theorem Sd.half_f (a b : Int) : ∃ r1 r2 r3 r4, sound_halves.f a b = some (r1, r2, r3, r4, ((Sd.half a b).length : Int)) ∧
  ∀ i (hi : i < (Sd.half a b).length), (#[Value.int .i64 r1, .int .i64 r2, .int .i64 r3, .int .i64 r4])[i * 2]? = some (.int .i64 (Sd.half a b)[i].f0) ∧ (#[Value.int .i64 r1, .int .i64 r2, .int .i64 r3, .int .i64 r4])[i * 2 + 1]? = some (.int .i64 (Sd.half a b)[i].f1) := by
 unfold sound_halves.f Sd.half
 by_cases c : a = b
 ·simp only [if_pos c]
  refine ⟨a, b, 0, 0, rfl, ?_⟩
  intro i hi
  have : i = 0 := by simp at hi; omega
  subst this
  exact ⟨rfl, rfl⟩
 simp only [if_neg c]
 refine ⟨a, _, _, b, rfl, ?_⟩
 intro i hi
 have : i = 0 ∨ i = 1 := by simp at hi; omega
 rcases this with rfl | rfl
 ·exact ⟨rfl, rfl⟩
 exact ⟨rfl, rfl⟩
def Sd.boxv (x : S29) : Value := .agg #[.int .i64 x.f0.f0, .int .i64 x.f0.f1, .int .i64 x.f1.f0, .int .i64 x.f1.f1]
def PKeep (A B : World) : Prop := ∀ (k : Nat) (cs : Array Value) (fr : Nat × Nat), A.heap[k]? = some (Obj.cells cs 160 fr) → B.heap[k]? = A.heap[k]?
theorem Sd.row_len (xs : List S24) (y : S24) : (Sd.row xs y).length = xs.length := by simp [Sd.row]
theorem Sd.flat_len (xs ys : List S24) : (ys.flatMap (Sd.row xs)).length = xs.length * ys.length := by
 induction ys with
 | nil => rfl
 | cons y ys ih => rw [List.flatMap_cons, List.length_append, ih, Sd.row_len, List.length_cons, Nat.mul_succ, Nat.add_comm]
theorem ret_i64' {a b : Int} (h : a = b) : Value.int .i64 a = .int .i64 b := by rw [h]
theorem Sd.take_row {xs : List S24} {i : Nat} (hi : i < xs.length) (y : S24) : Sd.row (xs.take (i + 1)) y = Sd.row (xs.take i) y ++ [⟨xs[i], y⟩] := by
 unfold Sd.row
 rw [List.take_succ_eq_append_getElem hi, List.map_append]
 rfl
theorem Sd.take_flat {xs ys : List S24} {k : Nat} (hk : k < ys.length) : (ys.take (k + 1)).flatMap (Sd.row xs) = (ys.take k).flatMap (Sd.row xs) ++ Sd.row xs ys[k] := by
 rw [List.take_succ_eq_append_getElem hk, List.flatMap_append]
 simp
theorem World.grownBy_drew0 (W : World) : W.grownBy W.drew none := ⟨rfl, rfl, rfl, Nat.le_refl _, fun _ _ _ => rfl⟩
theorem grown_of_below0 {W V : World} (h : Below W.heap.size W V) : W.grownBy V none := ⟨h.os, h.tape, h.output, h.size, fun k hk _ => h.block k hk⟩
set_option maxRecDepth 100000 in
set_option maxHeartbeats 8000000 in
theorem sound_parts1_in (n : Nat) (hn : 1 ≤ n) (l Bb : Nat) (b0 b1 b2 b3 : Int)
  (J Jx : List S29 → World → Prop) (hA : ∀ pre W W', J pre W → W.grownBy W' none → J pre W')
  (hY : ∀ pre x W, J pre W → pre.length < 4 → x ∈ Sd.parts b0 b1 b2 b3 → YieldAt (Fence.mk (fun _ => True) none false none) (n - 1) Try.prog l #[Sd.boxv x] W fun e W' =>
   ∃ r : Bool, e = .returned (.bool r) ∧ (r = true → J (pre ++ [x]) W' ∧ PKeep W W') ∧ (r = false → Jx (pre ++ [x]) W'))
  (W : World) (kb : W.heap[Bb]? = some (.cells #[.int .i64 b0, .int .i64 b1, .int .i64 b2, .int .i64 b3] 29 (0, 0))) (h0 : J [] W) :
  CallsIn (Fence.mk (fun _ => True) none false none) n Try.prog 126 #[.func (.yield l) #[] #[], .pointer (some ⟨Bb, 0, none⟩)] W fun e W' => (∃ v, e = .returned v) ∧
   (J (Sd.parts b0 b1 b2 b3) W' ∨ ∃ pre, Jx pre W') := by
 have hu24 := Try.underlying24
 have hu29 := Try.underlying29
 obtain ⟨x1, x2, x3, x4, hx, hxc⟩ := Sd.half_f b0 b1
 obtain ⟨y1, y2, y3, y4, hy, hyc⟩ := Sd.half_f b2 b3
 obtain ⟨lx1, lx2⟩ := Sd.half_len b0 b1
 obtain ⟨ly1, ly2⟩ := Sd.half_len b2 b3
 unfold Sd.parts at hY ⊢
 generalize Sd.half b0 b1 = xs at *
 generalize Sd.half b2 b3 = ys at *
 have HX := zam (fun (m : Nat) W => (callsIn_wide (n := m)).2 (sound_halves.calls b0 b1 _ _ _ _ _ W hx))
 have HY := zam (fun (m : Nat) W => (callsIn_wide (n := m)).2 (sound_halves.calls b2 b3 _ _ _ _ _ W hy))
 have XC := zam hxc
 have YC := zam hyc
 have YD := zam hY
 have KB := zam kb
 have hz0 : W.cell? ⟨Bb, 0, none⟩ = some (.int .i64 b0) := (zkc kb 0).trans rfl
 have hz1 : W.cell? ⟨Bb, 1, none⟩ = some (.int .i64 b1) := (zkc kb 1).trans rfl
 clear hx hxc hy hyc hY kb
 have hmx : Try.prog.follows .mixedOrders = true := by kernel_rfl
 refine callsIn_of_wp Try.func126 rfl trivial ?_ rfl
 simp only [Try.ntmps126, List.size_toArray, List.length_cons, List.length_nil, Nat.reduceAdd, Nat.reduceSub, Array.replicate_succ, Array.replicate_zero, List.push_toArray, List.append_toArray, List.nil_append, List.cons_append]
 gi_wp2_with (gi_at_call 127; first | ((refine (HX.out _ _).mono ?_); rintro e w3 ⟨rfl, hb1⟩; clear hz0 hz1 HX; have hz2 := (zkc (zka (zkb KB.out hb1) (.cells #[.int .i64 x1, .int .i64 x2, .int .i64 x3, .int .i64 x4] 160)) 2).trans rfl; have hz3 := (zkc (zka (zkb KB.out hb1) (.cells #[.int .i64 x1, .int .i64 x2, .int .i64 x3, .int .i64 x4] 160)) 3).trans rfl; have HB := zam hb1; clear hb1) | ((refine (HY.out _ _).mono ?_); rintro e w5 ⟨rfl, hb2⟩; clear hz2 hz3 HY; have HC := zam hb2; clear hb2))
 have BX := zam (zka (zkb (blk_new w3 (.cells #[.int .i64 x1, .int .i64 x2, .int .i64 x3, .int .i64 x4] 160)) HC.out) (.cells #[.int .i64 y1, .int .i64 y2, .int .i64 y3, .int .i64 y4] 160))
 have BY := zam (blk_new w5 (.cells #[.int .i64 y1, .int .i64 y2, .int .i64 y3, .int .i64 y4] 160))
 have JV := zam (hA _ _ _ (hA _ _ _ (hA _ _ _ (hA _ _ _ h0 (grown_of_below0 HB.out)) (World.grownBy_alloc w3 (.cells #[.int .i64 x1, .int .i64 x2, .int .i64 x3, .int .i64 x4] 160) none)) (grown_of_below0 HC.out)) (World.grownBy_alloc w5 (.cells #[.int .i64 y1, .int .i64 y2, .int .i64 y3, .int .i64 y4] 160) none))
 clear HB HC h0
 generalize (World.alloc w5 _) = V at *
 generalize w3.heap.size = gx at *
 generalize w5.heap.size = gy at *
 gi_loopw [22] (fun v wr => ∃ k : Nat, k ≤ ys.length ∧ v = .int .i64 (k : Int) ∧ Aside0 (J ((ys.take k).flatMap (Sd.row xs)) wr) ∧ Aside0 (wr.heap[gx]? = some (.cells #[.int .i64 x1, .int .i64 x2, .int .i64 x3, .int .i64 x4] 160)) ∧ Aside0 (wr.heap[gy]? = some (.cells #[.int .i64 y1, .int .i64 y2, .int .i64 y3, .int .i64 y4] 160))) (fun v _ => ys.length - (intOf v).toNat)
 case atStart => exact ⟨0, Nat.zero_le _, rfl, by simpa using JV, BX, BY⟩
 case round =>
  clear JV BX BY
  obtain ⟨k, hk, rfl, HJ, BX, BY⟩ := hrel
  by_cases hlt : k < ys.length
  ·have d1 : decide ((k : Int) < (ys.length : Int)) = true := zdt (by omega)
   have d2 : decide (k < ys.length) = true := zdt hlt
   have HLT := zam hlt
   clear hlt
   gi_wp2
   clear d1 d2
   gi_loopw [26] (fun v wr => ∃ i : Nat, i ≤ xs.length ∧ v = .int .i64 (i : Int) ∧ Aside0 (J ((ys.take k).flatMap (Sd.row xs) ++ Sd.row (xs.take i) (ys[k]'HLT.out)) wr) ∧ Aside0 (wr.heap[gx]? = some (.cells #[.int .i64 x1, .int .i64 x2, .int .i64 x3, .int .i64 x4] 160)) ∧ Aside0 (wr.heap[gy]? = some (.cells #[.int .i64 y1, .int .i64 y2, .int .i64 y3, .int .i64 y4] 160))) (fun v _ => xs.length - (intOf v).toNat)
   case atStart => exact ⟨0, Nat.zero_le _, rfl, by simpa [Sd.row] using HJ, BX, BY⟩
   case round =>
    clear HJ BX BY
    obtain ⟨i, hi, rfl, HJ, BX, BY⟩ := hrel
    by_cases hlt : i < xs.length
    ·have d1 : decide ((i : Int) < (xs.length : Int)) = true := zdt (by omega)
     have d2 : decide (i < xs.length) = true := zdt hlt
     have HLI := zam hlt
     clear hlt
     gi_wp2
     have HJ2 := zam (hA _ _ _ HJ.out (World.grownBy_drew0 _))
     obtain ⟨p1, p2⟩ := XC.out i HLI.out
     obtain ⟨q1, q2⟩ := YC.out k HLT.out
     have hx1 := (zkc BX.out (i * 2)).trans p1
     have hx2 := (zkc BX.out (i * 2 + 1)).trans p2
     have hy1 := (zkc BY.out (k * 2)).trans q1
     have hy2 := (zkc BY.out (k * 2 + 1)).trans q2
     have g1 : ((i : Int) < 2) = True := eq_true (by have := HLI.out; omega)
     have g2 : ((k : Int) < 2) = True := eq_true (by have := HLT.out; omega)
     have g3 : (i < 2) = True := eq_true (by have := HLI.out; omega)
     have g4 : (k < 2) = True := eq_true (by have := HLT.out; omega)
     have hlen : ((ys.take k).flatMap (Sd.row xs) ++ Sd.row (xs.take i) (ys[k]'HLT.out)).length < 4 := by
      rw [List.length_append, Sd.flat_len, Sd.row_len, zlt, zlt]
      have a1 := HLI.out
      have a2 := HLT.out
      rw [Nat.min_eq_left (by omega), Nat.min_eq_left (by omega)]
      have a3 : xs.length * k ≤ 2 * 1 := Nat.mul_le_mul lx2 (by omega)
      omega
     have YV := YD.out _ ⟨xs[i]'HLI.out, ys[k]'HLT.out⟩ _ HJ2.out hlen (List.mem_flatMap.2 ⟨_, List.getElem_mem HLT.out, List.mem_map.2 ⟨_, List.getElem_mem HLI.out, rfl⟩⟩)
     obtain ⟨fn, tmps, assign, body, hy, hR⟩ := YV
     dsimp only [Sd.boxv] at hy hR
     clear hlen d1 d2
     gi_region_with_o (refine hR.mono ?_; rintro e W3 ⟨r, rfl, hr⟩)
     all_goals
      have HR1 := zam hr.1
      have HR2 := zam hr.2
      clear hr hx1 hx2 hy1 hy2 g1 g2 g3 g4 p1 p2 q1 q2
      cases r
     all_goals gi_wp2
     all_goals first
      | (refine ⟨rfl, _, results_none rfl _ _ _, ⟨_, rfl⟩, Or.inr ?_⟩; exact ⟨_, HR2.out (by trivial)⟩)
      | (go_roundw
         case rel => exact ⟨i + 1, HLI.out, ret_i64' (by have := HLI.out; first | omega | (rw [wrap_id (by omega) (by omega)]; omega)), ⟨by rw [Sd.take_row HLI.out, ← List.append_assoc]; exact (HR1.out (by trivial)).1⟩, ⟨((HR1.out (by trivial)).2 gx _ _ BX.out).trans BX.out⟩, ⟨((HR1.out (by trivial)).2 gy _ _ BY.out).trans BY.out⟩⟩
         case measure => (have a2 := HLI.out; (try rw [wrap_id (n := (i : Int) + 1) (by omega) (by omega)]); simp only [intOf]; omega))
    have d1 : decide ((i : Int) < (xs.length : Int)) = false := zdf (by omega)
    have d2 : decide (i < xs.length) = false := zdf hlt
    have hie : i = xs.length := by omega
    subst hie
    clear hlt
    rw [List.take_length, ← Sd.take_flat HLT.out] at HJ
    gi_wp2
    go_roundw
    case rel => exact ⟨k + 1, HLT.out, ret_i64' (by have := HLT.out; first | omega | (rw [wrap_id (by omega) (by omega)]; omega)), HJ, BX, BY⟩
    case measure => (have a2 := HLT.out; (try rw [wrap_id (n := (k : Int) + 1) (by omega) (by omega)]); simp only [intOf]; omega)
  have d1 : decide ((k : Int) < (ys.length : Int)) = false := zdf (by omega)
  have d2 : decide (k < ys.length) = false := zdf hlt
  have hke : k = ys.length := by omega
  subst hke
  clear hlt
  rw [List.take_length] at HJ
  gi_wp2
  exact ⟨rfl, _, results_none rfl _ _ _, ⟨_, rfl⟩, .inl HJ.out⟩
set_option maxHeartbeats 4000000 in
theorem sound_parts_in (n : Nat) (b0 b1 b2 b3 : Int) (w : World) :
  CallsIn (Fence.mk (fun _ => True) none false none) n Try.prog 101 #[.agg #[.int .i64 b0, .int .i64 b1, .int .i64 b2, .int .i64 b3]] w fun e w' =>
   e = .returned (.func (.func 126) #[] #[.pointer (some ⟨w.heap.size, 0, none⟩)]) ∧ w' = w.alloc (.cells #[.int .i64 b0, .int .i64 b1, .int .i64 b2, .int .i64 b3] 29) := by
 have hu29 := Try.underlying29
 refine callsIn_of_wp Try.func101 rfl trivial ?_ rfl
 simp only [Try.ntmps101, List.size_toArray, List.length_cons, List.length_nil, Nat.reduceAdd, Nat.reduceSub, Array.replicate_succ, Array.replicate_zero, List.push_toArray, List.append_toArray, List.nil_append, List.cons_append]
 gi_wp2
 go_ret
 exact ⟨rfl, rfl⟩
abbrev Sd.Part (b0 b1 b2 b3 : Int) : Type := { x : S29 // x ∈ Sd.parts b0 b1 b2 b3 }
theorem sound_parts_stops (n : Nat) (hn : 1 ≤ n) (Bb : Nat) (b0 b1 b2 b3 : Int) (w : World) (kb : w.heap[Bb]? = some (.cells #[.int .i64 b0, .int .i64 b1, .int .i64 b2, .int .i64 b3] 29 (0, 0))) :
  SeqStopsK (Fence.mk (fun _ => True) none false none) n Try.prog 126 #[.pointer (some ⟨Bb, 0, none⟩)] (fun x : Sd.Part b0 b1 b2 b3 => #[Sd.boxv x.1]) PKeep (fun ys => ys.map (fun x => x.1) = Sd.parts b0 b1 b2 b3) (fun _ => True) 4 w := fun l J Jx W hW hA _ hY h =>
 (sound_parts1_in n hn l Bb b0 b1 b2 b3 (fun pre W => ∃ p : List (Sd.Part b0 b1 b2 b3), p.map (fun x => x.1) = pre ∧ J p W) (fun pre W => ∃ p : List (Sd.Part b0 b1 b2 b3), p.map (fun x => x.1) = pre ∧ Jx p W)
  (fun pre W W' h hg => h.elim fun p hp => ⟨p, hp.1, hA p W _ none hp.2 hg (fun r e => by cases e)⟩)
  (fun pre x W h hl hx => by
   obtain ⟨p, rfl, hJ⟩ := h
   rw [List.length_map] at hl
   obtain ⟨fn, tmps, assign, body, hy, hR⟩ := hY p ⟨x, hx⟩ W hJ hl
   refine ⟨fn, tmps, assign, body, hy, hR.mono ?_⟩
   rintro e W' (⟨rfl, hj, hk⟩ | ⟨rfl, hj⟩)
   ·exact ⟨true, rfl, fun _ => ⟨⟨p ++ [⟨x, hx⟩], by simp, hj⟩, hk⟩, fun e => by cases e⟩
   exact ⟨false, rfl, (fun e => by cases e), fun _ => ⟨p ++ [⟨x, hx⟩], by simp, hj⟩⟩)
  W (zkb kb hW) ⟨[], rfl, h⟩).mono (fun e W' h => ⟨h.1, h.2.elim (fun hJ => .inl (hJ.elim fun p hp => ⟨p, hp.1, hp.2⟩)) (fun hJ => .inr (hJ.elim fun pre hp => hp.elim fun p hp => ⟨p, trivial, hp.2⟩))⟩)
def Sd.flat : List S29 → List Value
 | [] => []
 | x :: xs => .int .i64 x.f0.f0 :: .int .i64 x.f0.f1 :: .int .i64 x.f1.f0 :: .int .i64 x.f1.f1 :: Sd.flat xs
theorem Sd.flat_length : ∀ xs : List S29, (Sd.flat xs).length = xs.length * 4
 | [] => rfl
 | x :: xs => by
  simp only [Sd.flat, List.length_cons, Sd.flat_length xs]
  omega
theorem Sd.flat_append : ∀ xs ys : List S29, Sd.flat (xs ++ ys) = Sd.flat xs ++ Sd.flat ys
 | [], _ => rfl
 | x :: xs, ys => by
  rw [List.cons_append, Sd.flat, Sd.flat, Sd.flat_append xs ys, List.cons_append, List.cons_append, List.cons_append, List.cons_append]
def Sd.all (f : S29 → Option (List S29)) : List S29 → Option (List S29)
 | [] => some []
 | x :: xs => (f x).bind fun a => (Sd.all f xs).bind fun b => some (a ++ b)
theorem Sd.all_snoc (f : S29 → Option (List S29)) (xs : List S29) (x : S29) : Sd.all f (xs ++ [x]) = (Sd.all f xs).bind fun a => (f x).bind fun b => some (a ++ b) := by
 induction xs with
 | nil => simp [Sd.all]
 | cons y ys ih =>
  rw [List.cons_append, Sd.all, Sd.all, ih]
  cases f y <;> simp
  cases Sd.all f ys <;> simp
  cases f x <;> simp
theorem Sd.all_mem {f : S29 → Option (List S29)} : ∀ {xs r}, Sd.all f xs = some r → ∀ x ∈ xs, ∃ a, f x = some a
 | [], _, _, _, h => by cases h
 | y :: ys, r, h, x, hx => by
  rw [Sd.all] at h
  obtain ⟨a, ha, h⟩ := Option.bind_eq_some_iff.mp h
  obtain ⟨b, hb, _⟩ := Option.bind_eq_some_iff.mp h
  rcases List.mem_cons.1 hx with rfl | hx
  ·exact ⟨a, ha⟩
  exact Sd.all_mem hb x hx
theorem Sd.all_len {f : S29 → Option (List S29)} {m : Nat} (hf : ∀ x a, f x = some a → a.length ≤ m) : ∀ {xs r}, Sd.all f xs = some r → r.length ≤ xs.length * m
 | [], r, h => by
  rw [Sd.all, Option.some.injEq] at h
  subst h
  simp
 | y :: ys, r, h => by
  rw [Sd.all] at h
  obtain ⟨a, ha, h⟩ := Option.bind_eq_some_iff.mp h
  obtain ⟨b, hb, h⟩ := Option.bind_eq_some_iff.mp h
  rw [Option.some.injEq] at h
  subst h
  have h1 := hf _ _ ha
  have h2 := Sd.all_len hf hb
  rw [List.length_append, List.length_cons, Nat.succ_mul]
  omega
def Sd.region (k : Nat) (st : List S29) (lo hi : Int) (at_ : List S24) : Nat → S29 → Option (List S29)
 | 0, b => (sound_heard_origin.f k st lo hi at_ b.f0.f0 b.f0.f1 b.f1.f0 b.f1.f1).bind fun o => if o.2.2 = true then some [b] else some []
 | d + 1, b => (sound_heard_origin.f k st lo hi at_ b.f0.f0 b.f0.f1 b.f1.f0 b.f1.f1).bind fun o => if o.2.2 = true then Sd.all (Sd.region k st lo hi at_ d) (Sd.parts b.f0.f0 b.f0.f1 b.f1.f0 b.f1.f1) else some []
theorem Sd.parts_len (b0 b1 b2 b3 : Int) : (Sd.parts b0 b1 b2 b3).length ≤ 4 := by
 unfold Sd.parts
 rw [Sd.flat_len]
 have h1 := Sd.half_len b0 b1
 have h2 := Sd.half_len b2 b3
 have := Nat.mul_le_mul h1.2 h2.2
 omega
theorem Sd.region_len (k : Nat) (st : List S29) (lo hi : Int) (at_ : List S24) : ∀ d b r, Sd.region k st lo hi at_ d b = some r → r.length ≤ 4 ^ d
 | 0, b, r, h => by
  rw [Sd.region] at h
  obtain ⟨o, _, h⟩ := Option.bind_eq_some_iff.mp h
  split at h <;> (rw [Option.some.injEq] at h; subst h; simp)
 | d + 1, b, r, h => by
  rw [Sd.region] at h
  obtain ⟨o, _, h⟩ := Option.bind_eq_some_iff.mp h
  split at h
  ·have h1 := Sd.all_len (Sd.region_len k st lo hi at_ d) h
   have h2 := Nat.mul_le_mul_right (4 ^ d) (Sd.parts_len b.f0.f0 b.f0.f1 b.f1.f0 b.f1.f1)
   rw [Nat.pow_succ]
   omega
  rw [Option.some.injEq] at h
  subst h
  simp
def Grew (base : Nat) (out r : List S29) (v : Value) (w : World) (e : Ending) (w' : World) : Prop :=
 ∃ v', e = .returned v' ∧ w'.ownsRow base 29 4 v' (out ++ r).length (Sd.flat (out ++ r)) ∧ w.grownBy w' v.ownBlock ∧ (v'.ownBlock = v.ownBlock ∨ ∀ q, v'.ownBlock = some q → w.heap.size ≤ q)
end Go.Proofs.Ytaheamdoldiojaa.P
namespace Go.Proofs.Ytaheamdoldiojaa.P
open Go.RowKit Go.Proofs.YtaheamdoldiojaaW.PrintWords Go.Proofs.YtaheamdoldiojaaW.PrintLast Go.Proofs.YtaheamdoldiojaaW.PrintMore
attribute [local go_sem] max2_int min2_int max_two min_two max_three min_three max_four min_four   -- for this text's walks alone
set_option linter.unusedVariables false
set_option linter.unusedSimpArgs false
attribute [local go_sem] Oper.semAt_some
theorem sd_info_box : (Try.prog.info? 29).map (fun i => (i.zero, i.size, i.bytes)) = some (some (.agg #[.int .i64 0, .int .i64 0, .int .i64 0, .int .i64 0]), 4, 32) := by kernel_rfl
theorem sd_own_slice {W : World} {base : Nat} {v : Value} {n : Nat} {xs : List Value} (h : W.ownsRow base 29 4 v n xs) : ∃ A c, v = .slice A n c := by
 rcases h.2 with ⟨e, e2⟩ | ⟨g, cap, cur, e, _⟩
 ·subst e2
  exact ⟨_, _, e⟩
 exact ⟨_, _, e⟩
theorem sd_cells_new (W : World) (a b c d : Value) (t : TypeId) (j : Nat) (u : Value) (h : [a, b, c, d][j]? = some u) : (W.alloc (.cells #[a, b, c, d] t)).cell? (Addr.add ⟨W.heap.size, 0, none⟩ j) = some u := by
 match j, h with
 | 0, h => exact (zkc (blk_new W (.cells #[a, b, c, d] t)) 0).trans h
 | 1, h => exact (zkc (blk_new W (.cells #[a, b, c, d] t)) 1).trans h
 | 2, h => exact (zkc (blk_new W (.cells #[a, b, c, d] t)) 2).trans h
 | 3, h => exact (zkc (blk_new W (.cells #[a, b, c, d] t)) 3).trans h
theorem sd_grown {W V : World} (h : Below W.heap.size W V) (row : Option Nat) : W.grownBy V row := ⟨h.os, h.tape, h.output, h.size, fun k hk _ => h.block k hk⟩
theorem sd_row_below {W W' : World} {base : Nat} {v : Value} {n : Nat} {xs : List Value} (h : W.ownsRow base 29 4 v n xs) (hb : Below W.heap.size W W') : W'.ownsRow base 29 4 v n xs :=
 ⟨h.1, h.2.imp id fun ⟨g, cap, cur, e, h2, h3, h4⟩ => ⟨g, cap, cur, e, h2, zkb h3 hb, h4⟩⟩
set_option maxRecDepth 100000 in
set_option maxHeartbeats 8000000 in
theorem sound_region_out (k gs : Nat) (st : List S29) (lo hi : Int) (at_ : List S24) (hl64 : at_.length ≤ 64) (d : Int) (b0 b1 b2 b3 t1 t2 : Int) (out : List S29) (base : Nat) (v : Value) (w : World) (hI : IsHeard w gs st lo hi at_) (hrow : w.ownsRow base 29 4 v out.length (Sd.flat out)) (ho : sound_heard_origin.f k st lo hi at_ b0 b1 b2 b3 = some (t1, t2, false)) :
  Calls Try.prog 59 #[.pointer (some ⟨gs, 0, none⟩), v, .agg #[.int .i64 b0, .int .i64 b1, .int .i64 b2, .int .i64 b3], .int .i64 d] w (Grew base out [] v w) := by
 have hu29 := Try.underlying29
 have hu24 := Try.underlying24
 have hu22 := Try.underlying22
 obtain ⟨A, c, rfl⟩ := sd_own_slice hrow
 have OC := zam (fun (w1 : World) (hb1 : Below w.heap.size w w1) => sound_heard_origin.calls k gs st lo hi at_ b0 b1 b2 b3 t1 t2 false w1 (hI.below hb1) hl64 ho)
 have HR := zam hrow
 clear hI hrow ho
 go_enter Try.func59, Try.ntmps59
 go_wp2_with (first | ((with_reducible refine zgd (N := 4) rfl ?_); refine box_event ?hg (N := 4) ?hd (cs := #[.pointer (some ⟨gs, 0, none⟩)]) (t := 102) ?hr ?_; (case hd => rfl); (case hg => rfl); (case hr => first | (go_simp; done) | (go_simp; rfl)); intro gh hgn_ wqgh hbk hb0; have HB := zam hb0; have Ggh : Aside0 (w.heap.size ≤ gh) := ⟨by rw [hgn_]; exact Nat.le_refl _⟩; have Bgh := zam hbk; clear hgn_ hbk hb0) | ((with_reducible refine zgd (N := 5) rfl ?_); refine box_event ?hg (N := 5) ?hd (cs := #[.slice A out.length c]) (t := 22) ?hr ?_; (case hd => rfl); (case hg => rfl); (case hr => first | (go_simp; done) | (go_simp; rfl)); intro go_ hgn_ wqgo_ hbk hb0; have m0_ := zam (zkb Bgh.out hb0); have Ggo_ : Aside0 (w.heap.size ≤ go_) := ⟨by rw [hgn_]; exact HB.out.size⟩; have mb_ := zam (zbt HB.out hb0); clear HB; have HB := mb_; clear mb_; have Bgo_ := zam hbk; clear hgn_ hbk hb0 Bgh; have Bgh := m0_; clear m0_) | ((with_reducible refine zgd (N := 6) rfl ?_); refine box_event ?hg (N := 6) ?hd (cs := #[.int .i64 b0, .int .i64 b1, .int .i64 b2, .int .i64 b3]) (t := 29) ?hr ?_; (case hd => rfl); (case hg => rfl); (case hr => first | (go_simp; done) | (go_simp; rfl)); intro ga hgn_ wqga hbk hb0; have m0_ := zam (zkb Bgh.out hb0); have m1_ := zam (zkb Bgo_.out hb0); have Gga : Aside0 (w.heap.size ≤ ga) := ⟨by rw [hgn_]; exact HB.out.size⟩; have mb_ := zam (zbt HB.out hb0); clear HB; have HB := mb_; clear mb_; have Bga := zam hbk; clear hgn_ hbk hb0 Bgh Bgo_; have Bgh := m0_; have Bgo_ := m1_; clear m0_ m1_) | ((with_reducible refine zgd (N := 7) rfl ?_); refine box_event ?hg (N := 7) ?hd (cs := #[.int .i64 d]) (t := 3) ?hr ?_; (case hd => rfl); (case hg => rfl); (case hr => first | (go_simp; done) | (go_simp; rfl)); intro gd hgn_ wqgd hbk hb0; have m0_ := zam (zkb Bgh.out hb0); have m1_ := zam (zkb Bgo_.out hb0); have m2_ := zam (zkb Bga.out hb0); have Ggd : Aside0 (w.heap.size ≤ gd) := ⟨by rw [hgn_]; exact HB.out.size⟩; have mb_ := zam (zbt HB.out hb0); clear HB; have HB := mb_; clear mb_; have Bgd := zam hbk; clear hgn_ hbk hb0 Bgh Bgo_ Bga; have Bgh := m0_; have Bgo_ := m1_; have Bga := m2_; clear m0_ m1_ m2_; have hh0 := (zkc Bgh.out 0).trans rfl; have hy0 := (zkc Bga.out 0).trans rfl; have hy1 := (zkc Bga.out 1).trans rfl; have hy2 := (zkc Bga.out 2).trans rfl; have hy3 := (zkc Bga.out 3).trans rfl) | (go_at_call 70; (with_reducible refine (OC.out _ HB.out).mono ?_); rintro e w4 ⟨rfl, hb1⟩; clear hh0 hy0 hy1 hy2 hy3; have m0_ := zam (zkb Bgh.out hb1); have m1_ := zam (zkb Bgo_.out hb1); have m2_ := zam (zkb Bga.out hb1); have m3_ := zam (zkb Bgd.out hb1); have mb_ := zam (zbt HB.out hb1); clear HB hb1 Bgh Bgo_ Bga Bgd; have HB := mb_; have Bgh := m0_; have Bgo_ := m1_; have Bga := m2_; have Bgd := m3_; clear mb_ m0_ m1_ m2_ m3_; skip) | ((with_reducible refine zgd (N := 9) rfl ?_); refine box_event ?hg (N := 9) ?hd (cs := #[.int .i64 0, .int .i64 0]) (t := 24) ?hr ?_; (case hd => rfl); (case hg => rfl); (case hr => first | (go_simp; done) | (go_simp; rfl)); intro gx hgn_ wqgx hbk hb0; have m0_ := zam (zkb Bgh.out hb0); have m1_ := zam (zkb Bgo_.out hb0); have m2_ := zam (zkb Bga.out hb0); have m3_ := zam (zkb Bgd.out hb0); have Ngo_gx : Aside0 (go_ ≠ gx) := ⟨by rw [hgn_]; exact Nat.ne_of_lt (blk_lt Bgo_.out)⟩; have Ngagx : Aside0 (ga ≠ gx) := ⟨by rw [hgn_]; exact Nat.ne_of_lt (blk_lt Bga.out)⟩; have Ngdgx : Aside0 (gd ≠ gx) := ⟨by rw [hgn_]; exact Nat.ne_of_lt (blk_lt Bgd.out)⟩; have Ggx : Aside0 (w.heap.size ≤ gx) := ⟨by rw [hgn_]; exact HB.out.size⟩; have mb_ := zam (zbt HB.out hb0); clear HB; have HB := mb_; clear mb_; have Bgx := zam hbk; clear hgn_ hbk hb0 Bgh Bgo_ Bga Bgd; have Bgh := m0_; have Bgo_ := m1_; have Bga := m2_; have Bgd := m3_; clear m0_ m1_ m2_ m3_; have hx0 := (zkc Bgx.out 0).trans rfl; have hx1 := (zkc Bgx.out 1).trans rfl; have hf0 := zkz Bgx.out 0; have hf1 := zkz Bgx.out 1; have hl0 := (zkc Bgo_.out 0).trans rfl; have hy0 := (zkc Bga.out 0).trans rfl; have hy1 := (zkc Bga.out 1).trans rfl; have hy2 := (zkc Bga.out 2).trans rfl; have hy3 := (zkc Bga.out 3).trans rfl; have hd0 := (zkc Bgd.out 0).trans rfl; have hn1 := Ngo_gx.out; have hn2 := Ngagx.out; have hn3 := Ngdgx.out; have hn4 := Ne.symm Ngo_gx.out))
 go_ret
 have HB2 := zbs (j := 1) (v := .int .i64 t2) (zbs (j := 0) (v := .int .i64 t1) HB.out Ggx.out) Ggx.out
 refine ⟨_, rfl, ?_, sd_grown HB2 _, .inl rfl⟩
 rw [List.append_nil]
 exact sd_row_below HR.out HB2
set_option maxRecDepth 100000 in
set_option maxHeartbeats 8000000 in
theorem sound_region_leaf (k gs : Nat) (st : List S29) (lo hi : Int) (at_ : List S24) (hl64 : at_.length ≤ 64) (b0 b1 b2 b3 t1 t2 : Int) (out : List S29) (hlen : out.length < 1000000) (base : Nat) (v : Value) (w : World) (hbase : base ≤ w.heap.size) (hI : IsHeard w gs st lo hi at_) (hrow : w.ownsRow base 29 4 v out.length (Sd.flat out)) (ho : sound_heard_origin.f k st lo hi at_ b0 b1 b2 b3 = some (t1, t2, true)) :
  Calls Try.prog 59 #[.pointer (some ⟨gs, 0, none⟩), v, .agg #[.int .i64 b0, .int .i64 b1, .int .i64 b2, .int .i64 b3], .int .i64 0] w (Grew base out [⟨⟨b0, b1⟩, ⟨b2, b3⟩⟩] v w) := by
 have hu29 := Try.underlying29
 have hu24 := Try.underlying24
 have hu22 := Try.underlying22
 obtain ⟨A, c, rfl⟩ := sd_own_slice hrow
 have OC := zam (fun (w1 : World) (hb1 : Below w.heap.size w w1) => sound_heard_origin.calls k gs st lo hi at_ b0 b1 b2 b3 t1 t2 true w1 (hI.below hb1) hl64 ho)
 have HR := zam hrow
 have hmax : 1000000 ≤ maxLen := by decide
 obtain ⟨i0, hi0, hzz0, hzz1, hzz2⟩ := info_parts sd_info_box
 clear hI hrow ho
 go_enter Try.func59, Try.ntmps59
 go_wp2_with (first | ((with_reducible refine zgd (N := 4) rfl ?_); refine box_event ?hg (N := 4) ?hd (cs := #[.pointer (some ⟨gs, 0, none⟩)]) (t := 102) ?hr ?_; (case hd => rfl); (case hg => rfl); (case hr => first | (go_simp; done) | (go_simp; rfl)); intro gh hgn_ wqgh hbk hb0; have HB := zam hb0; have Ggh : Aside0 (w.heap.size ≤ gh) := ⟨by rw [hgn_]; exact Nat.le_refl _⟩; have Bgh := zam hbk; clear hgn_ hbk hb0) | ((with_reducible refine zgd (N := 5) rfl ?_); refine box_event ?hg (N := 5) ?hd (cs := #[.slice A out.length c]) (t := 22) ?hr ?_; (case hd => rfl); (case hg => rfl); (case hr => first | (go_simp; done) | (go_simp; rfl)); intro go_ hgn_ wqgo_ hbk hb0; have m0_ := zam (zkb Bgh.out hb0); have Ggo_ : Aside0 (w.heap.size ≤ go_) := ⟨by rw [hgn_]; exact HB.out.size⟩; have mb_ := zam (zbt HB.out hb0); clear HB; have HB := mb_; clear mb_; have Bgo_ := zam hbk; clear hgn_ hbk hb0 Bgh; have Bgh := m0_; clear m0_) | ((with_reducible refine zgd (N := 6) rfl ?_); refine box_event ?hg (N := 6) ?hd (cs := #[.int .i64 b0, .int .i64 b1, .int .i64 b2, .int .i64 b3]) (t := 29) ?hr ?_; (case hd => rfl); (case hg => rfl); (case hr => first | (go_simp; done) | (go_simp; rfl)); intro ga hgn_ wqga hbk hb0; have m0_ := zam (zkb Bgh.out hb0); have m1_ := zam (zkb Bgo_.out hb0); have Gga : Aside0 (w.heap.size ≤ ga) := ⟨by rw [hgn_]; exact HB.out.size⟩; have mb_ := zam (zbt HB.out hb0); clear HB; have HB := mb_; clear mb_; have Bga := zam hbk; clear hgn_ hbk hb0 Bgh Bgo_; have Bgh := m0_; have Bgo_ := m1_; clear m0_ m1_) | ((with_reducible refine zgd (N := 7) rfl ?_); refine box_event ?hg (N := 7) ?hd (cs := #[.int .i64 0]) (t := 3) ?hr ?_; (case hd => rfl); (case hg => rfl); (case hr => first | (go_simp; done) | (go_simp; rfl)); intro gd hgn_ wqgd hbk hb0; have m0_ := zam (zkb Bgh.out hb0); have m1_ := zam (zkb Bgo_.out hb0); have m2_ := zam (zkb Bga.out hb0); have Ggd : Aside0 (w.heap.size ≤ gd) := ⟨by rw [hgn_]; exact HB.out.size⟩; have mb_ := zam (zbt HB.out hb0); clear HB; have HB := mb_; clear mb_; have Bgd := zam hbk; clear hgn_ hbk hb0 Bgh Bgo_ Bga; have Bgh := m0_; have Bgo_ := m1_; have Bga := m2_; clear m0_ m1_ m2_; have hh0 := (zkc Bgh.out 0).trans rfl; have hy0 := (zkc Bga.out 0).trans rfl; have hy1 := (zkc Bga.out 1).trans rfl; have hy2 := (zkc Bga.out 2).trans rfl; have hy3 := (zkc Bga.out 3).trans rfl) | (go_at_call 70; (with_reducible refine (OC.out _ HB.out).mono ?_); rintro e w4 ⟨rfl, hb1⟩; clear hh0 hy0 hy1 hy2 hy3; have m0_ := zam (zkb Bgh.out hb1); have m1_ := zam (zkb Bgo_.out hb1); have m2_ := zam (zkb Bga.out hb1); have m3_ := zam (zkb Bgd.out hb1); have mb_ := zam (zbt HB.out hb1); clear HB hb1 Bgh Bgo_ Bga Bgd; have HB := mb_; have Bgh := m0_; have Bgo_ := m1_; have Bga := m2_; have Bgd := m3_; clear mb_ m0_ m1_ m2_ m3_; skip) | ((with_reducible refine zgd (N := 9) rfl ?_); refine box_event ?hg (N := 9) ?hd (cs := #[.int .i64 0, .int .i64 0]) (t := 24) ?hr ?_; (case hd => rfl); (case hg => rfl); (case hr => first | (go_simp; done) | (go_simp; rfl)); intro gx hgn_ wqgx hbk hb0; have m0_ := zam (zkb Bgh.out hb0); have m1_ := zam (zkb Bgo_.out hb0); have m2_ := zam (zkb Bga.out hb0); have m3_ := zam (zkb Bgd.out hb0); have Ngo_gx : Aside0 (go_ ≠ gx) := ⟨by rw [hgn_]; exact Nat.ne_of_lt (blk_lt Bgo_.out)⟩; have Ngagx : Aside0 (ga ≠ gx) := ⟨by rw [hgn_]; exact Nat.ne_of_lt (blk_lt Bga.out)⟩; have Ngdgx : Aside0 (gd ≠ gx) := ⟨by rw [hgn_]; exact Nat.ne_of_lt (blk_lt Bgd.out)⟩; have Ggx : Aside0 (w.heap.size ≤ gx) := ⟨by rw [hgn_]; exact HB.out.size⟩; have mb_ := zam (zbt HB.out hb0); clear HB; have HB := mb_; clear mb_; have Bgx := zam hbk; clear hgn_ hbk hb0 Bgh Bgo_ Bga Bgd; have Bgh := m0_; have Bgo_ := m1_; have Bga := m2_; have Bgd := m3_; clear m0_ m1_ m2_ m3_; have hx0 := (zkc Bgx.out 0).trans rfl; have hx1 := (zkc Bgx.out 1).trans rfl; have hf0 := zkz Bgx.out 0; have hf1 := zkz Bgx.out 1; have hl0 := (zkc Bgo_.out 0).trans rfl; have hy0 := (zkc Bga.out 0).trans rfl; have hy1 := (zkc Bga.out 1).trans rfl; have hy2 := (zkc Bga.out 2).trans rfl; have hy3 := (zkc Bga.out 3).trans rfl; have hd0 := (zkc Bgd.out 0).trans rfl; have hn1 := Ngo_gx.out; have hn2 := Ngagx.out; have hn3 := Ngdgx.out; have hn4 := Ne.symm Ngo_gx.out) | ((with_reducible refine gate_builtin (b := .append) (xs := #[.tmp 23, .tmp 25]) rfl ?_); at_builtin; have HB2 := zbs (j := 1) (v := .int .i64 t2) (zbs (j := 0) (v := .int .i64 t1) HB.out Ggx.out) Ggx.out; refine wpList_append_own_at _ rfl _ _ 22 rfl base 29 i0 (.agg #[.int .i64 0, .int .i64 0, .int .i64 0, .int .i64 0]) 4 32 hu22 hi0 hzz0 hzz1 hzz2 rfl (by decide) _ _ _ rfl ((sd_row_below HR.out HB2).alloc _) ⟨_, 0, none⟩ 1 1 [.int .i64 b0, .int .i64 b1, .int .i64 b2, .int .i64 b3] rfl rfl (fun j u hj => by have q := sd_cells_new ((wqgx.setCell ⟨gx, 0, none⟩ (.int .i64 t1)).setCell ⟨gx, 1, none⟩ (.int .i64 t2)) _ _ _ _ 29 j u hj; rw [show ((wqgx.setCell ⟨gx, 0, none⟩ (.int .i64 t1)).setCell ⟨gx, 1, none⟩ (.int .i64 t2)).heap.size = wqgx.heap.size from by simp] at q; exact q) (by simp [Value.oneCell']) (by omega) (by omega) (Nat.le_trans hbase (zba HB2 _).size) ?_; intro v' W1 hown' hgrow _ hblk; have HN := zam hown'; have HG := zam ((sd_grown (zba HB2 _) _).trans hgrow); have HV : Aside0 (v'.ownBlock = (Value.slice A out.length c).ownBlock ∨ ∀ q, v'.ownBlock = some q → w.heap.size ≤ q) := ⟨hblk.imp id (fun e q hq => by rw [e, Option.some.injEq] at hq; rw [← hq]; exact (zba HB2 _).size)⟩; clear hown' hgrow hblk HB2))
 go_ret
 refine ⟨v', rfl, ?_, HG.out, HV.out⟩
 rw [List.length_append, Sd.flat_append]
 exact HN.out
end Go.Proofs.Ytaheamdoldiojaa.P
namespace Go.Proofs.Ytaheamdoldiojaa.P
open Go.RowKit Go.Proofs.YtaheamdoldiojaaW.PrintWords Go.Proofs.YtaheamdoldiojaaW.PrintLast Go.Proofs.YtaheamdoldiojaaW.PrintMore
attribute [local go_sem] max2_int min2_int max_two min_two max_three min_three max_four min_four   -- for this text's walks alone
set_option linter.unusedVariables false
set_option linter.unusedSimpArgs false
open Go.Shelf
attribute [local go_sem] Oper.semAt_some
theorem sd_row_cells {V : World} {b ty sz : Nat} {v : Value} {n : Nat} {xs : List Value} (h : V.ownsRow b ty sz v n xs) : ∀ (k : Nat) (o : Obj), v.ownBlock = some k → V.heap[k]? = some o → ∃ cs, o = .cells cs ty (0, 0) := by
 intro k o hk ho
 rcases h.2 with ⟨e, _⟩ | ⟨g, cap, cur, e, _, hcur, _⟩
 ·rw [e] at hk
  cases hk
 rw [e] at hk
 simp only [Value.ownBlock, Option.some.injEq] at hk
 subst hk
 rw [hcur] at ho
 cases ho
 exact ⟨_, rfl⟩
theorem sd_row_stays {V V' : World} {b ty sz : Nat} {v : Value} {n : Nat} {xs : List Value} {row : Option Nat} (h : V.ownsRow b ty sz v n xs) (hg : V.grownBy V' row) (hr : ∀ r, row = some r → ∃ o : Obj, V.heap[r]? = some o ∧ o.isCells = false) : V'.ownsRow b ty sz v n xs := by
 refine ⟨h.1, h.2.imp id fun ⟨g, cap, cur, e, h2, h3, h4⟩ => ⟨g, cap, cur, e, h2, ?_, h4⟩⟩
 refine (hg.block g (blk_lt h3) fun er => ?_).trans h3
 obtain ⟨o, ho, hc⟩ := hr g er.symm
 rw [h3] at ho
 cases ho
 cases hc
theorem PKeep.trans {A B C : World} (h : PKeep A B) (k : PKeep B C) : PKeep A C := fun i cs fr hi => (k i cs fr ((h i cs fr hi).trans hi)).trans (h i cs fr hi)
theorem PKeep.put {V : World} {l : Nat} {o : Obj} (hl : V.heap[l]? = some o) (ho : o.isCells = false) (o' : Obj) : PKeep V (V.putObj l o') := fun i cs fr hi => by
 have hne : l ≠ i := by
  intro e
  rw [e, hi] at hl
  cases hl
  cases ho
 simp [World.putObj, hne]
structure RegIn (base : Nat) (f : S29 → Option (List S29)) (out : List S29) (v0 : Value) (w U : World) (gh go_ gd : Nat) (gs : Nat) (d : Int) (pre : List S29) (V : World) : Prop where
 row : ∃ (acc : List S29) (v : Value), Sd.all f pre = some acc ∧ V.heap[go_]? = some (.cells #[v] 22 (0, 0)) ∧ V.ownsRow base 29 4 v (out ++ acc).length (Sd.flat (out ++ acc)) ∧ (v.ownBlock = v0.ownBlock ∨ ∀ q, v.ownBlock = some q → w.heap.size ≤ q)
 grown : w.grownBy V v0.ownBlock
 size : U.heap.size ≤ V.heap.size
 hh : V.heap[gh]? = some (.cells #[.pointer (some ⟨gs, 0, none⟩)] 102 (0, 0))
 hd : V.heap[gd]? = some (.cells #[.int .i64 d] 3 (0, 0))
theorem RegIn.own {base : Nat} {f : S29 → Option (List S29)} {out : List S29} {v0 : Value} {w U : World} {gh go_ gd gs : Nat} {d : Int} {B : Nat} (hw : w.heap.size ≤ B) (h1 : gh < B) (h2 : go_ < B) (h3 : gd < B) : OwnFrom B (fun (pre : List S29) V => RegIn base f out v0 w U gh go_ gd gs d pre V) := by
 intro pre V V' row hs hg hr
 have at_ : ∀ {k : Nat} {o : Obj}, k < B → V.heap[k]? = some o → V'.heap[k]? = some o := fun {k o} hk h => (hg.block k (blk_lt h) (fun e => by have := (hr k e.symm).1; omega)).trans h
 obtain ⟨acc, v, e1, e2, e3, e4⟩ := hs.row
 refine ⟨⟨acc, v, e1, at_ h2 e2, sd_row_stays e3 hg (fun r e => (hr r e).2), e4⟩, ?_, Nat.le_trans hs.size hg.size, at_ h1 hs.hh, at_ h3 hs.hd⟩
 refine ⟨hg.os.trans hs.grown.os, hg.tape.trans hs.grown.tape, hg.output.trans hs.grown.output, Nat.le_trans hs.grown.size hg.size, fun k hk hne => ?_⟩
 have hk2 : k < V.heap.size := Nat.lt_of_lt_of_le hk hs.grown.size
 exact (hg.block k hk2 (fun e => by have := (hr k e.symm).1; omega)).trans (hs.grown.block k hk hne)
theorem sd_own_base {W : World} {base : Nat} {v : Value} {n : Nat} {xs : List Value} (h : W.ownsRow base 29 4 v n xs) (k : Nat) (hk : v.ownBlock = some k) : base ≤ k := by
 rcases h.2 with ⟨e, _⟩ | ⟨g, cap, cur, e, h2, _⟩
 ·rw [e] at hk
  cases hk
 rw [e] at hk
 simp only [Value.ownBlock, Option.some.injEq] at hk
 omega
theorem RegIn.step {base : Nat} {f : S29 → Option (List S29)} {out : List S29} {v0 : Value} {w U : World} {gh go_ gd gs : Nat} {d : Int} {pre : List S29} {W W2 : World} {acc rx : List S29} {v v' : Value} {x : S29} (B : Nat) (hI : RegIn base f out v0 w U gh go_ gd gs d pre W) (e1 : Sd.all f pre = some acc) (e2 : W.heap[go_]? = some (.cells #[v] 22 (0, 0))) (e3 : W.ownsRow base 29 4 v (out ++ acc).length (Sd.flat (out ++ acc))) (e4 : v.ownBlock = v0.ownBlock ∨ ∀ q, v.ownBlock = some q → w.heap.size ≤ q)
  (hx : f x = some rx) (r1 : W2.ownsRow base 29 4 v' ((out ++ acc) ++ rx).length (Sd.flat ((out ++ acc) ++ rx))) (r2 : W.grownBy W2 v.ownBlock) (r3 : v'.ownBlock = v.ownBlock ∨ ∀ q, v'.ownBlock = some q → W.heap.size ≤ q) (hgo : w.heap.size ≤ go_) (h1 : gh ≠ go_) (h2 : gd ≠ go_) :
  W2.heap[go_]? = some (.cells #[v] 22 (0, 0)) ∧ KeepsFrom B W (W2.setCell ⟨go_, 0, none⟩ v') ∧ PKeep W (W2.setCell ⟨go_, 0, none⟩ v') ∧ RegIn base f out v0 w U gh go_ gd gs d (pre ++ [x]) (W2.setCell ⟨go_, 0, none⟩ v') := by
 have keep : ∀ {k : Nat} {cs : Array Value} {t : TypeId} {fr : Nat × Nat}, t ≠ 29 → W.heap[k]? = some (.cells cs t fr) → W2.heap[k]? = some (.cells cs t fr) := by
  intro k cs t fr ht hk
  refine (r2.block k (blk_lt hk) (fun e => ?_)).trans hk
  obtain ⟨cs', ho⟩ := sd_row_cells e3 k _ e.symm hk
  cases ho
  exact ht rfl
 have k2 := keep (by decide) e2
 have hgo2 : go_ < W.heap.size := blk_lt e2
 have rowne : ∀ q, v'.ownBlock = some q → q ≠ go_ := by
  intro q hq e
  subst e
  rcases r3 with h | h
  ·obtain ⟨cs', ho⟩ := sd_row_cells e3 _ _ (h ▸ hq) e2
   cases ho
  have := h _ hq
  omega
 refine ⟨k2, ?_, ?_, ⟨⟨acc ++ rx, v', ?_, blk_put k2 0 v' rfl, ?_, ?_⟩, ?_, ?_, ?_, ?_⟩⟩
 ·exact KeepsOthers.from (KeepsOthers.trans (KeepsOthers.of_grownBy r2 fun j o hj ho => by obtain ⟨cs', e⟩ := sd_row_cells e3 j o hj ho; rw [e]; rfl) (KeepsOthers.setCell _ _ _)) _
 ·intro k cs fr hk
  have hne : k ≠ go_ := by
   intro e
   rw [e, e2] at hk
   cases hk
  exact (Below.heap_setCell W2 ⟨go_, 0, none⟩ v' k hne).trans ((keep (by decide) hk).trans hk.symm)
 ·rw [Sd.all_snoc, e1]
  simp [hx]
 ·rw [← List.append_assoc]
  refine ⟨r1.1, r1.2.imp id fun ⟨g, cap, cur, e, b1, b2, b3⟩ => ⟨g, cap, cur, e, b1, ?_, b3⟩⟩
  refine (Below.heap_setCell W2 ⟨go_, 0, none⟩ v' g (rowne g (by rw [e]; rfl))).trans b2
 ·rcases r3 with h | h
  ·rw [h]
   exact e4
  exact .inr fun q hq => Nat.le_trans hI.grown.size (h q hq)
 ·have hs : (W2.setCell ⟨go_, 0, none⟩ v').heap.size = W2.heap.size := by simp
  refine ⟨r2.os.trans hI.grown.os, r2.tape.trans hI.grown.tape, r2.output.trans hI.grown.output, by rw [hs]; exact Nat.le_trans hI.grown.size r2.size, fun k hk hne => ?_⟩
  refine (Below.heap_setCell W2 ⟨go_, 0, none⟩ v' k (by show k ≠ go_; omega)).trans ((r2.block k (Nat.lt_of_lt_of_le hk hI.grown.size) (fun e => ?_)).trans (hI.grown.block k hk hne))
  rcases e4 with h | h
  ·exact hne (e.trans h)
  have := h k e.symm
  omega
 ·have hs : (W2.setCell ⟨go_, 0, none⟩ v').heap.size = W2.heap.size := by simp
  rw [hs]
  exact Nat.le_trans hI.size r2.size
 ·exact (Below.heap_setCell W2 ⟨go_, 0, none⟩ v' gh h1).trans (keep (by decide) hI.hh)
 exact (Below.heap_setCell W2 ⟨go_, 0, none⟩ v' gd h2).trans (keep (by decide) hI.hd)
theorem sd_results_tmp {fn : Func} {p : Tmp} {P : Program} (h : fn.results = #[.tmp p]) (tmps : Array Value) (w : World) (v : Value) (hp : tmps.getD p undef = v) : (results fn tmps).run P w = .ok v w := by
 have hp' : tmps[p]?.getD undef = v := by simpa using hp
 simp [results, h, hp', go_sem]
def regAct (gs : Nat) (A : Option Addr) (n c : Nat) (b0 b1 b2 b3 D : Int) (ws gx gb : Nat) (t1 t2 : Int) (x : S29) (g : Nat) : Act := { tmps := #[.pointer (some ⟨gs, 0, none⟩), .slice A n c, .agg #[.int .i64 b0, .int .i64 b1, .int .i64 b2, .int .i64 b3], .int .i64 D, .pointer (some ⟨ws, 0, none⟩), .pointer (some ⟨ws + 1, 0, none⟩), .pointer (some ⟨ws + 1 + 1, 0, none⟩), .pointer (some ⟨ws + 1 + 1 + 1, 0, none⟩), .slice none 0 0, .pointer (some ⟨gx, 0, none⟩), .bool true, .pointer (some ⟨g, 0, none⟩), .tuple #[.agg #[.int .i64 t1, .int .i64 t2], .bool true], .pointer (some ⟨gs, 0, none⟩), .agg #[.int .i64 b0, .int .i64 b1, .int .i64 b2, .int .i64 b3], .tuple #[.agg #[.int .i64 t1, .int .i64 t2], .bool true], .agg #[.int .i64 t1, .int .i64 t2], .bool true, .bool true, .bool false, undef, .int .i64 D, .bool false, undef, undef, undef, undef, .agg #[.int .i64 b0, .int .i64 b1, .int .i64 b2, .int .i64 b3], .func (.func 126) #[] #[.pointer (some ⟨gb, 0, none⟩)], Sd.boxv x, undef, undef, undef, undef, undef, undef, undef], defers := [] }
set_option maxRecDepth 100000 in
set_option maxHeartbeats 8000000 in
theorem sound_region_node (k gs : Nat) (st : List S29) (lo hi : Int) (at_ : List S24) (hl64 : at_.length ≤ 64) (d : Nat) (hd5 : d < 5) (w0 : World) (hI : IsHeard w0 gs st lo hi at_)
  (ih : ∀ (x : S29) (r out : List S29) (v : Value) (w : World), Sd.region k st lo hi at_ d x = some r → Below w0.heap.size w0 w → w.ownsRow w0.heap.size 29 4 v out.length (Sd.flat out) → out.length + 4 ^ d ≤ 1000000 → Calls Try.prog 59 #[.pointer (some ⟨gs, 0, none⟩), v, Sd.boxv x, .int .i64 (d : Int)] w (Grew w0.heap.size out r v w))
  (D b0 b1 b2 b3 t1 t2 : Int) (hD : D = (d : Int) + 1) (out r : List S29) (v : Value) (w : World) (hB : Below w0.heap.size w0 w) (hrow : w.ownsRow w0.heap.size 29 4 v out.length (Sd.flat out)) (hlen : out.length + 4 ^ (d + 1) ≤ 1000000) (ho : sound_heard_origin.f k st lo hi at_ b0 b1 b2 b3 = some (t1, t2, true)) (hr : Sd.all (Sd.region k st lo hi at_ d) (Sd.parts b0 b1 b2 b3) = some r) :
  Calls Try.prog 59 #[.pointer (some ⟨gs, 0, none⟩), v, .agg #[.int .i64 b0, .int .i64 b1, .int .i64 b2, .int .i64 b3], .int .i64 D] w (Grew w0.heap.size out r v w) := by
 have hu29 := Try.underlying29
 have hu24 := Try.underlying24
 have hu22 := Try.underlying22
 obtain ⟨A, c, rfl⟩ := sd_own_slice hrow
 have OC := zam (fun (w1 : World) (hb1 : Below w.heap.size w w1) => (callsIn_wide (n := 4)).2 (sound_heard_origin.calls k gs st lo hi at_ b0 b1 b2 b3 t1 t2 true w1 ((hI.below hB).below hb1) hl64 ho))
 have dz : (D == 0) = false := beq_eq_false_iff_ne.mpr (by omega)
 have HR := zam hrow
 have HD := zam hD
 clear hrow ho hD
 refine (callsIn_wide (n := 5)).1 ?_
 show CallsIn (Fence.mk (fun _ => True) none false none) 5 Try.prog _ _ _ _
 refine callsIn_of_wp_marks Try.func59 rfl trivial ?_ rfl
 simp only [Try.ntmps59, List.size_toArray, List.length_cons, List.length_nil, Nat.reduceAdd, Nat.reduceSub, Array.replicate_succ, Array.replicate_zero, List.push_toArray, List.append_toArray, List.nil_append, List.cons_append]
 have B1 := zam (zka (zka (zka (blk_new w (.cells #[.pointer (some ⟨gs, 0, none⟩)] 102)) (.cells #[.slice A out.length c] 22)) (.cells #[.int .i64 b0, .int .i64 b1, .int .i64 b2, .int .i64 b3] 29)) (.cells #[.int .i64 D] 3))
 have B2 := zka (zka (blk_new (w.alloc (.cells #[.pointer (some ⟨gs, 0, none⟩)] 102)) (.cells #[.slice A out.length c] 22)) (.cells #[.int .i64 b0, .int .i64 b1, .int .i64 b2, .int .i64 b3] 29)) (.cells #[.int .i64 D] 3)
 have B3 := zka (blk_new ((w.alloc (.cells #[.pointer (some ⟨gs, 0, none⟩)] 102)).alloc (.cells #[.slice A out.length c] 22)) (.cells #[.int .i64 b0, .int .i64 b1, .int .i64 b2, .int .i64 b3] 29)) (.cells #[.int .i64 D] 3)
 have B4 := blk_new (((w.alloc (.cells #[.pointer (some ⟨gs, 0, none⟩)] 102)).alloc (.cells #[.slice A out.length c] 22)).alloc (.cells #[.int .i64 b0, .int .i64 b1, .int .i64 b2, .int .i64 b3] 29)) (.cells #[.int .i64 D] 3)
 simp only [World.size_alloc] at B2 B3 B4
 have B2 := zam B2
 have B3 := zam B3
 have B4 := zam B4
 have HBU := zam (zba (zba (zba (zba (Below.refl w.heap.size w) (.cells #[.pointer (some ⟨gs, 0, none⟩)] 102)) (.cells #[.slice A out.length c] 22)) (.cells #[.int .i64 b0, .int .i64 b1, .int .i64 b2, .int .i64 b3] 29)) (.cells #[.int .i64 D] 3))
 gi_wp2_with (first | (gi_at_call 70; (refine (OC.out _ HBU.out).mono ?_); rintro e w4 ⟨rfl, hb1⟩; clear OC; have n1 := zam (zka (zkb B1.out hb1) (.cells #[.int .i64 t1, .int .i64 t2] 24)); have n2 := zam (zka (zkb B2.out hb1) (.cells #[.int .i64 t1, .int .i64 t2] 24)); have n3 := zam (zka (zkb B3.out hb1) (.cells #[.int .i64 t1, .int .i64 t2] 24)); have n4 := zam (zka (zkb B4.out hb1) (.cells #[.int .i64 t1, .int .i64 t2] 24)); have n5 := zam (zba (zbt HBU.out hb1) (.cells #[.int .i64 t1, .int .i64 t2] 24)); clear B1 B2 B3 B4 HBU hb1; have B1 := n1; have B2 := n2; have B3 := n3; have B4 := n4; have HBU := n5; clear n1 n2 n3 n4 n5; have hz0 := (zkc B3.out 0).trans rfl; have hz1 := (zkc B3.out 1).trans rfl; have hz2 := (zkc B3.out 2).trans rfl; have hz3 := (zkc B3.out 3).trans rfl; have hz4 := (zkc B4.out 0).trans rfl) | (gi_at_call 101; (refine (sound_parts_in _ b0 b1 b2 b3 _).mono ?_); rintro e w5 ⟨rfl, rfl⟩))
 have KB := blk_new (w4.alloc (.cells #[.int .i64 t1, .int .i64 t2] 24)) (.cells #[.int .i64 b0, .int .i64 b1, .int .i64 b2, .int .i64 b3] 29)
 rw [World.size_alloc] at KB
 have KB := zam KB
 have n1 := zam (zka B1.out (.cells #[.int .i64 b0, .int .i64 b1, .int .i64 b2, .int .i64 b3] 29))
 have n2 := zam (zka B2.out (.cells #[.int .i64 b0, .int .i64 b1, .int .i64 b2, .int .i64 b3] 29))
 have n4 := zam (zka B4.out (.cells #[.int .i64 b0, .int .i64 b1, .int .i64 b2, .int .i64 b3] 29))
 have n5 := zam (zba HBU.out (.cells #[.int .i64 b0, .int .i64 b1, .int .i64 b2, .int .i64 b3] 29))
 clear B1 B2 B3 B4 HBU hz0 hz1 hz2 hz3 hz4
 generalize (World.alloc (World.alloc w4 _) _) = U at *
 generalize w4.heap.size + 1 = gb at *
 refine wpIn_rangeFunc_ownH rfl (by decide) (gf := 126) (lb := #[.pointer (some ⟨gb, 0, none⟩)]) rfl trivial (enters_of Try.func126 (by kernel_rfl) rfl) (sound_parts_stops 4 (by decide) gb b0 b1 b2 b3 U KB.out) (fun h k => PKeep.trans h k) (fun V l o o' _ hl ho _ => PKeep.put hl ho o') (Below.refl _ _) (fun _ => rfl)
  (fun pre V => RegIn w0.heap.size (Sd.region k st lo hi at_ d) out (.slice A out.length c) w U w.heap.size (w.heap.size + 1) (w.heap.size + 1 + 1 + 1) gs D (pre.map (fun x => x.1)) V) (fun _ _ _ => False) ?hI (fun _ _ _ _ _ hs _ _ => hs) ?h0
  (fun x a' V => ∃ g, U.heap.size ≤ g ∧ a' = regAct gs A out.length c b0 b1 b2 b3 D w.heap.size w4.heap.size gb t1 t2 x.1 g ∧ V.heap[g]? = some (.cells #[.int .i64 x.1.f0.f0, .int .i64 x.1.f0.f1, .int .i64 x.1.f1.f0, .int .i64 x.1.f1.f1] 29 (0, 0))) ?hAx ?assign ?body ?done ?stop
 case assign =>
  intro l pre x W K hI hK'
  dsimp only [Sd.boxv]
  gi_wp2
  have hw1 : w.heap.size < W.heap.size := blk_lt hI.hh
  have hgU := hI.size
  have hbn := blk_new W (.cells #[.int .i64 x.1.f0.f0, .int .i64 x.1.f0.f1, .int .i64 x.1.f1.f0, .int .i64 x.1.f1.f1] 29)
  generalize W.heap.size = gg at hgU hbn ⊢
  refine hK' _ _ ((KeepsOthers.alloc W _).from _) ?_ ?_ ⟨gg, hgU, rfl, hbn⟩
  ·intro k cs fr hk
   exact Below.heap_alloc W _ k (blk_lt hk)
  obtain ⟨acc, v, e1, e2, e3, e4⟩ := hI.row
  exact ⟨⟨acc, v, e1, zka e2 _, e3.alloc _, e4⟩, hI.grown.trans (World.grownBy_alloc W _ _), Nat.le_trans hI.size (World.grownBy_alloc W _ none).size, zka hI.hh _, zka hI.hd _⟩
 case hI =>
  intro pre V V' row hs hg hr
  exact RegIn.own (B := U.heap.size) n5.out.size (blk_lt n1.out) (blk_lt n2.out) (blk_lt n4.out) (pre.map (fun x => x.1)) V V' row hs hg hr
 case h0 =>
  exact ⟨⟨[], .slice A out.length c, rfl, n2.out, by rw [List.append_nil]; exact sd_row_below HR.out n5.out, .inl rfl⟩, sd_grown n5.out _, Nat.le_refl _, n1.out, n4.out⟩
 case hAx =>
  rintro x a' u V V' row ⟨g, hg, ha, hc⟩ hgr hrw
  refine ⟨g, hg, ha, (hgr.block g (blk_lt hc) fun er => ?_).trans hc⟩
  obtain ⟨_, o, ho, hcs⟩ := hrw g er.symm
  rw [hc] at ho
  cases ho
  cases hcs
 case stop =>
  rintro D c pre V _ _ h _
  exact h.elim
 case body =>
  rintro l pre x a' W hl ⟨rc, hlr⟩ hJ ⟨g, hg, rfl, hc⟩ hlen4
  dsimp only [regAct, Sd.boxv]
  obtain ⟨acc, v, e1, e2, e3, e4⟩ := hJ.row
  obtain ⟨A', c', rfl⟩ := sd_own_slice e3
  obtain ⟨rx, hrx⟩ := Sd.all_mem hr x.1 x.2
  have hBW : Below w0.heap.size w0 W := Below.grown hB hJ.grown hB.size (fun k e => sd_own_base HR.out k e)
  have hla := Sd.all_len (Sd.region_len k st lo hi at_ d) e1
  have hl4 : (out ++ acc).length + 4 ^ d ≤ 1000000 := by
   rw [List.length_append]
   rw [List.length_map] at hla
   have h5 : pre.length * 4 ^ d ≤ 3 * 4 ^ d := Nat.mul_le_mul_right _ (by omega)
   rw [Nat.pow_succ] at hlen
   omega
  have HIH := zam (CallsIn.inRound l ((callsIn_wide (n := 5 - 1 - 1 - 1)).2 (ih x.1 rx (out ++ acc) (.slice A' (out ++ acc).length c') W hrx hBW e3 hl4)))
  have ST := zam (fun (W2 : World) (v' : Value) => RegIn.step (W2 := W2) (v' := v') (x := x.1) (rx := rx) U.heap.size hJ e1 e2 e3 e4 hrx)
  have hz0 := (zkc hJ.hh 0).trans rfl
  have hz1 := (zkc e2 0).trans rfl
  have hz2 := (zkc hJ.hd 0).trans rfl
  have hx0 := (zkc hc 0).trans rfl
  have hx1 := (zkc hc 1).trans rfl
  have hx2 := (zkc hc 2).trans rfl
  have hx3 := (zkc hc 3).trans rfl
  have wd : IntKind.i64.wrap (D - 1) = (d : Int) := by
   have := HD.out
   rw [i64_w, wrap_id (by omega) (by omega)]
   omega
  clear hrx hBW hla hl4 e1 e3 e4 hr ih hJ e2 hc hB hlr
  clear B2 B3 B4 hI hlen hl64 hlen4
  generalize (out ++ acc).length = L at *
  gi_wp2_with (gi_at_call 59; (refine HIH.out.mono ?_); rintro e W2 ⟨v', rfl, r1, r2, r3⟩; obtain ⟨A2, c2, rfl⟩ := sd_own_slice r1; obtain ⟨s1, s2, s3, s4⟩ := ST.out W2 _ r1 r2 r3 (by omega) (by omega) (by omega); clear hz0 hz1 hz2 hx0 hx1 hx2 hx3; have hw1 := (zkc s1 0).trans rfl; have hw2 := zkz s1 0; have S2 := zam s2; have S3 := zam s3; have S4 := zam s4; clear s1 s2 s3 s4 r1 r2 r3 ST HIH)
  have el : (out ++ acc ++ rx).length = out.length + (acc.length + rx.length) := by simp [Nat.add_assoc]
  rw [el] at S2 S3 S4
  refine ⟨S2.out, S3.out, ?_⟩
  show RegIn _ _ _ _ _ _ _ _ _ _ _ ((pre ++ [x]).map (fun x => x.1)) _
  rw [List.map_append]
  exact S4.out
 case done =>
  rintro Dd xs V hDd hS hJ hDV
  obtain ⟨acc, v, e1, e2, e3, e4⟩ := hJ.row
  obtain ⟨A', c', rfl⟩ := sd_own_slice e3
  have hz1 := (zkc e2 0).trans rfl
  have hacc : acc = r := by
   rw [hS, hr] at e1
   exact (zsi e1).symm
  subst hacc
  have GR := zam hJ.grown
  have E3 := zam e3
  have E4 := zam e4
  have E2 := zam e2
  clear e1 e2 e3 e4 hJ hr ih
  generalize hL : (out ++ acc).length = L at hz1 E3 E4 E2
  have HL := zam hL
  clear hL
  gi_wp2
  have hDU : w.heap.size ≤ Dd := Nat.le_trans n5.out.size hDd
  have hne : Dd ≠ w.heap.size + 1 := by
   intro e
   rw [e] at hDV
   have := E2.out
   rw [hDV] at this
   cases this
  refine ⟨by simp, .inl ⟨Dd, V.putObj Dd (.deferred none), rfl, run_takeDeferred hDV, ⟨_, sd_results_tmp rfl _ _ (.slice A' L c') rfl, ⟨_, rfl, (by rw [HL.out]; exact ownsRow_putObj E3.out _ hDV rfl), ?_, E4.out⟩⟩⟩⟩
  refine ⟨GR.out.os, GR.out.tape, GR.out.output, by simpa [World.putObj] using GR.out.size, fun k hk hk2 => ?_⟩
  have h1 : Dd ≠ k := by omega
  refine Eq.trans ?_ (GR.out.block k hk hk2)
  simp [World.putObj, h1]
end Go.Proofs.Ytaheamdoldiojaa.P
namespace Go.Proofs.Ytaheamdoldiojaa.P
open Go.RowKit Go.Proofs.YtaheamdoldiojaaW.PrintWords Go.Proofs.YtaheamdoldiojaaW.PrintLast Go.Proofs.YtaheamdoldiojaaW.PrintMore
attribute [local go_sem] max2_int min2_int max_two min_two max_three min_three max_four min_four   -- for this text's walks alone
set_option linter.unusedVariables false
set_option linter.unusedSimpArgs false
theorem sound_region_calls (k gs : Nat) (st : List S29) (lo hi : Int) (at_ : List S24) (hl64 : at_.length ≤ 64) (w0 : World) (hI : IsHeard w0 gs st lo hi at_) : ∀ d : Nat, d ≤ 5 → ∀ (x : S29) (r out : List S29) (v : Value) (w : World), Sd.region k st lo hi at_ d x = some r → Below w0.heap.size w0 w → w.ownsRow w0.heap.size 29 4 v out.length (Sd.flat out) → out.length + 4 ^ d ≤ 1000000 →
  Calls Try.prog 59 #[.pointer (some ⟨gs, 0, none⟩), v, Sd.boxv x, .int .i64 (d : Int)] w (Grew w0.heap.size out r v w)
 | 0, _, x, r, out, v, w, h, hB, hrow, hlen => by
  obtain ⟨⟨b0, b1⟩, ⟨b2, b3⟩⟩ := x
  rw [Sd.region] at h
  obtain ⟨⟨t1, t2, tb⟩, ho, h⟩ := Option.bind_eq_some_iff.mp h
  cases tb
  ·simp only [Bool.false_eq_true, if_false, Option.some.injEq] at h
   subst h
   exact sound_region_out k gs st lo hi at_ hl64 _ b0 b1 b2 b3 t1 t2 out _ v w (hI.below hB) hrow ho
  rw [if_pos rfl, Option.some.injEq] at h
  subst h
  exact sound_region_leaf k gs st lo hi at_ hl64 b0 b1 b2 b3 t1 t2 out (by simp at hlen; omega) _ v w hB.size (hI.below hB) hrow ho
 | d + 1, hd, x, r, out, v, w, h, hB, hrow, hlen => by
  have ih := sound_region_calls k gs st lo hi at_ hl64 w0 hI d (by omega)
  obtain ⟨⟨b0, b1⟩, ⟨b2, b3⟩⟩ := x
  rw [Sd.region] at h
  obtain ⟨⟨t1, t2, tb⟩, ho, h⟩ := Option.bind_eq_some_iff.mp h
  cases tb
  ·simp only [Bool.false_eq_true, if_false, Option.some.injEq] at h
   subst h
   exact sound_region_out k gs st lo hi at_ hl64 _ b0 b1 b2 b3 t1 t2 out _ v w (hI.below hB) hrow ho
  rw [if_pos rfl] at h
  exact sound_region_node k gs st lo hi at_ hl64 d (by omega) w0 hI ih ((d + 1 : Nat) : Int) b0 b1 b2 b3 t1 t2 (by omega) out r v w hB hrow hlen ho h
theorem box_of_own {e : Nat} {w : World} {base : Nat} {ok : Nat → Prop} {v : Value} {xs : List S29} (h : w.ownsRow base e 4 v xs.length (Sd.flat xs)) (hok : ∀ k, v.ownBlock = some k → ok k) : Kd.R k29 e w base ok v xs := by
 refine ⟨hok, _, h, ⟨Sd.flat_length xs, fun j p hj => ?_⟩⟩
 have key : ∀ (xs : List S29) (j : Nat) (p : S29), xs[j]? = some p → ((Sd.flat xs).drop (j * 4)).take 4 = [.int .i64 p.f0.f0, .int .i64 p.f0.f1, .int .i64 p.f1.f0, .int .i64 p.f1.f1] := by
  intro xs
  induction xs with
  | nil => intro j p h; simp at h
  | cons x xs ih =>
   intro j p h
   cases j with
   | zero =>
    obtain rfl : x = p := by simpa using h
    simp [Sd.flat]
   | succ j =>
    rw [show (j + 1) * 4 = j * 4 + 1 + 1 + 1 + 1 by omega, Sd.flat]
    simp only [List.drop_succ_cons]
    exact ih j p (by simpa using h)
 show k29.M _ _ _ p (((Sd.flat xs).drop (j * 4)).take 4)
 rw [key xs j p hj]
 exact k29_mkM _ _ _ p
def sound_Region.f (k : Nat) (l0_0 : List (S29)) (a0_1 : Int) (a0_2 : Int) (l1 : List (S24)) (a2_0 : Int) (a2_1 : Int) (a2_2 : Int) (a2_3 : Int) (a3 : Int) : Option (List S29 × Int) :=
 (sound_newHeard.f k l0_0 a0_1 a0_2 l1 a2_0 a2_1 a2_2 a2_3).bind fun t => if t = 0 then (if a3 < 0 then some ([], 3) else if 5 < a3 then some ([], 3) else (Sd.region k l0_0 a0_1 a0_2 l1 a3.toNat ⟨⟨a2_0, a2_1⟩, ⟨a2_2, a2_3⟩⟩).bind fun r => some (r, 0)) else some ([], t)
set_option maxHeartbeats 16000000 in
set_option maxRecDepth 100000 in
theorem sound_Region.calls (k : Nat) (A0_0 : Option Addr) (c0_0 : Nat) (l0_0 : List (S29)) (a0_1 : Int) (a0_2 : Int) (A1 : Option Addr) (c1 : Nat) (l1 : List (S24)) (a2_0 : Int) (a2_1 : Int) (a2_2 : Int) (a2_3 : Int) (a3 : Int) (r1 : List (S29)) (r2 : Int) (w : World) (hr0_0 : Kd.C k29 w A0_0 l0_0.length l0_0) (hc0_0 : l0_0.length ≤ c0_0) (hr1 : Kd.C k24 w A1 l1.length l1) (hc1 : l1.length ≤ c1) (h : sound_Region.f k l0_0 a0_1 a0_2 l1 a2_0 a2_1 a2_2 a2_3 a3 = some (r1, r2)) :
  Calls Try.prog 15 #[.agg #[.slice A0_0 l0_0.length c0_0, .int .i64 a0_1, .int .i64 a0_2], .slice A1 l1.length c1, .agg #[.int .i64 a2_0, .int .i64 a2_1, .int .i64 a2_2, .int .i64 a2_3], .int .i64 a3] w fun e w' => ∃ v0_ : Value, e = .returned (.tuple #[v0_, .int .i64 r2]) ∧ Kd.R k29 29 w' w.heap.size (fun _ => True) v0_ r1 ∧ Below w.heap.size w w' := by
 have hu26 := Try.underlying26
 have hu29 := Try.underlying29
 have hu24 := Try.underlying24
 unfold sound_Region.f at h
 obtain ⟨t, ht, h⟩ := Option.bind_eq_some_iff.mp h
 have NH := zam (fun (w1 : World) (hb1 : Below w.heap.size w w1) => sound_newHeard.calls k A0_0 c0_0 l0_0 a0_1 a0_2 A1 c1 l1 a2_0 a2_1 a2_2 a2_3 t w1 (Kd.C_below hr0_0 hb1) hc0_0 (Kd.C_below hr1 hb1) hc1 ht)
 have HT := zam ht
 clear hr0_0 hr1 ht
 go_enter Try.func15, Try.ntmps15
 by_cases c0 : t = 0
 ·subst c0
  rw [if_pos rfl] at h
  by_cases c1' : a3 < 0
  ·rw [if_pos c1'] at h
   simp only [Option.some.injEq, Prod.mk.injEq] at h
   obtain ⟨rfl, rfl⟩ := h
   have d1 : decide (a3 < 0) = true := zdt c1'
   clear c1'
   go_wp2_with (first | ((with_reducible refine zgd (N := 4) rfl ?_); refine box_event ?hg (N := 4) ?hd (cs := #[.slice A0_0 l0_0.length c0_0, .int .i64 a0_1, .int .i64 a0_2]) (t := 26) ?hr ?_; (case hd => rfl); (case hg => rfl); (case hr => first | (go_simp; done) | (go_simp; rfl)); intro gn hgn_ wqgn hbk hb0; have HB := zam hb0; have Bgn := zam hbk; clear hgn_ hbk hb0) | ((with_reducible refine zgd (N := 6) rfl ?_); refine box_event ?hg (N := 6) ?hd (cs := #[.int .i64 a2_0, .int .i64 a2_1, .int .i64 a2_2, .int .i64 a2_3]) (t := 29) ?hr ?_; (case hd => rfl); (case hg => rfl); (case hr => first | (go_simp; done) | (go_simp; rfl)); intro gb hgn_ wqgb hbk hb0; have mb_ := zam (zbt HB.out hb0); clear HB; have HB := mb_; clear mb_; have m_ := zam (zkb Bgn.out hb0); clear Bgn; have Bgn := m_; clear m_; have Bgb := zam hbk; clear hgn_ hbk hb0; have hz0 := (zkc Bgn.out 0).trans rfl; have hz1 := (zkc Bgn.out 1).trans rfl; have hz2 := (zkc Bgn.out 2).trans rfl; have hy0 := (zkc Bgb.out 0).trans rfl; have hy1 := (zkc Bgb.out 1).trans rfl; have hy2 := (zkc Bgb.out 2).trans rfl; have hy3 := (zkc Bgb.out 3).trans rfl) | (go_at_call 58; (with_reducible refine (NH.out _ HB.out).mono ?_); intro e w3 hnh; obtain ⟨g, rfl, hS, hb1⟩ := hnh.of_zero; clear hnh; clear hz0 hz1 hz2 hy0 hy1 hy2 hy3; have HH := zam (IsHeard.of_state hS hb1); clear hS Bgn; have m0_ := zam (zkb Bgb.out hb1); have mb_ := zam (zbt HB.out hb1); clear HB hb1 Bgb; have HB := mb_; have Bgb := m0_; clear mb_ m0_; have hy0 := (zkc Bgb.out 0).trans rfl; have hy1 := (zkc Bgb.out 1).trans rfl; have hy2 := (zkc Bgb.out 2).trans rfl; have hy3 := (zkc Bgb.out 3).trans rfl; skip))
   go_ret2
   exact ⟨.slice none 0 0, rfl, Kd.R_nil _ _ _ _ _, HB.out⟩
  rw [if_neg c1'] at h
  have d1 : decide (a3 < 0) = false := zdf c1'
  by_cases c2 : 5 < a3
  ·rw [if_pos c2] at h
   simp only [Option.some.injEq, Prod.mk.injEq] at h
   obtain ⟨rfl, rfl⟩ := h
   have d2 : decide (5 < a3) = true := zdt c2
   have d3 : decide (a3 > 5) = true := zdt c2
   clear c1' c2
   go_wp2_with (first | ((with_reducible refine zgd (N := 4) rfl ?_); refine box_event ?hg (N := 4) ?hd (cs := #[.slice A0_0 l0_0.length c0_0, .int .i64 a0_1, .int .i64 a0_2]) (t := 26) ?hr ?_; (case hd => rfl); (case hg => rfl); (case hr => first | (go_simp; done) | (go_simp; rfl)); intro gn hgn_ wqgn hbk hb0; have HB := zam hb0; have Bgn := zam hbk; clear hgn_ hbk hb0) | ((with_reducible refine zgd (N := 6) rfl ?_); refine box_event ?hg (N := 6) ?hd (cs := #[.int .i64 a2_0, .int .i64 a2_1, .int .i64 a2_2, .int .i64 a2_3]) (t := 29) ?hr ?_; (case hd => rfl); (case hg => rfl); (case hr => first | (go_simp; done) | (go_simp; rfl)); intro gb hgn_ wqgb hbk hb0; have mb_ := zam (zbt HB.out hb0); clear HB; have HB := mb_; clear mb_; have m_ := zam (zkb Bgn.out hb0); clear Bgn; have Bgn := m_; clear m_; have Bgb := zam hbk; clear hgn_ hbk hb0; have hz0 := (zkc Bgn.out 0).trans rfl; have hz1 := (zkc Bgn.out 1).trans rfl; have hz2 := (zkc Bgn.out 2).trans rfl; have hy0 := (zkc Bgb.out 0).trans rfl; have hy1 := (zkc Bgb.out 1).trans rfl; have hy2 := (zkc Bgb.out 2).trans rfl; have hy3 := (zkc Bgb.out 3).trans rfl) | (go_at_call 58; (with_reducible refine (NH.out _ HB.out).mono ?_); intro e w3 hnh; obtain ⟨g, rfl, hS, hb1⟩ := hnh.of_zero; clear hnh; clear hz0 hz1 hz2 hy0 hy1 hy2 hy3; have HH := zam (IsHeard.of_state hS hb1); clear hS Bgn; have m0_ := zam (zkb Bgb.out hb1); have mb_ := zam (zbt HB.out hb1); clear HB hb1 Bgb; have HB := mb_; have Bgb := m0_; clear mb_ m0_; have hy0 := (zkc Bgb.out 0).trans rfl; have hy1 := (zkc Bgb.out 1).trans rfl; have hy2 := (zkc Bgb.out 2).trans rfl; have hy3 := (zkc Bgb.out 3).trans rfl; skip))
   go_ret2
   exact ⟨.slice none 0 0, rfl, Kd.R_nil _ _ _ _ _, HB.out⟩
  rw [if_neg c2] at h
  have d2 : decide (5 < a3) = false := zdf c2
  have d3 : decide (a3 > 5) = false := zdf c2
  obtain ⟨d, rfl⟩ : ∃ d : Nat, a3 = (d : Int) := ⟨a3.toNat, by omega⟩
  rw [Int.toNat_natCast] at h
  obtain ⟨rr, hr, h⟩ := Option.bind_eq_some_iff.mp h
  simp only [Option.some.injEq, Prod.mk.injEq] at h
  obtain ⟨rfl, rfl⟩ := h
  have hd5 : d ≤ 5 := by omega
  have hp : 4 ^ d ≤ 1000000 := Nat.le_trans (Nat.pow_le_pow_right (by omega) hd5) (by decide)
  have RG := zam (fun (g : Nat) (w1 : World) (hI : IsHeard w1 g l0_0 a0_1 a0_2 l1) => sound_region_calls k g l0_0 a0_1 a0_2 l1 (by have := sound_newHeard.len HT.out; omega) w1 hI d hd5 ⟨⟨a2_0, a2_1⟩, ⟨a2_2, a2_3⟩⟩ rr [] (.slice none 0 0) w1 hr (Below.refl _ _) (World.ownsRow_nil _ _ _ _) (by simpa using hp))
  dsimp only [Sd.boxv] at RG
  clear hr hp c1' c2 hd5
  go_wp2_with (first | ((with_reducible refine zgd (N := 4) rfl ?_); refine box_event ?hg (N := 4) ?hd (cs := #[.slice A0_0 l0_0.length c0_0, .int .i64 a0_1, .int .i64 a0_2]) (t := 26) ?hr ?_; (case hd => rfl); (case hg => rfl); (case hr => first | (go_simp; done) | (go_simp; rfl)); intro gn hgn_ wqgn hbk hb0; have HB := zam hb0; have Bgn := zam hbk; clear hgn_ hbk hb0) | ((with_reducible refine zgd (N := 6) rfl ?_); refine box_event ?hg (N := 6) ?hd (cs := #[.int .i64 a2_0, .int .i64 a2_1, .int .i64 a2_2, .int .i64 a2_3]) (t := 29) ?hr ?_; (case hd => rfl); (case hg => rfl); (case hr => first | (go_simp; done) | (go_simp; rfl)); intro gb hgn_ wqgb hbk hb0; have mb_ := zam (zbt HB.out hb0); clear HB; have HB := mb_; clear mb_; have m_ := zam (zkb Bgn.out hb0); clear Bgn; have Bgn := m_; clear m_; have Bgb := zam hbk; clear hgn_ hbk hb0; have hz0 := (zkc Bgn.out 0).trans rfl; have hz1 := (zkc Bgn.out 1).trans rfl; have hz2 := (zkc Bgn.out 2).trans rfl; have hy0 := (zkc Bgb.out 0).trans rfl; have hy1 := (zkc Bgb.out 1).trans rfl; have hy2 := (zkc Bgb.out 2).trans rfl; have hy3 := (zkc Bgb.out 3).trans rfl) | (go_at_call 58; (with_reducible refine (NH.out _ HB.out).mono ?_); intro e w3 hnh; obtain ⟨g, rfl, hS, hb1⟩ := hnh.of_zero; clear hnh; clear hz0 hz1 hz2 hy0 hy1 hy2 hy3; have HH := zam (IsHeard.of_state hS hb1); clear hS Bgn; have m0_ := zam (zkb Bgb.out hb1); have mb_ := zam (zbt HB.out hb1); clear HB hb1 Bgb; have HB := mb_; have Bgb := m0_; clear mb_ m0_; have hy0 := (zkc Bgb.out 0).trans rfl; have hy1 := (zkc Bgb.out 1).trans rfl; have hy2 := (zkc Bgb.out 2).trans rfl; have hy3 := (zkc Bgb.out 3).trans rfl; skip) | (go_at_call 59; (with_reducible refine (RG.out g _ HH.out).mono ?_); rintro e w4 ⟨v', rfl, h1, h2, h3⟩; have HO := zam (own_weaken h1 HB.out.size); have mb_ := zam (zbt HB.out (⟨h2.os, h2.tape, h2.output, h2.size, fun k hk => h2.block k hk (by intro e_; cases e_)⟩ : Below _ _ w4)); clear HB h1 h2 h3 HH; have HB := mb_; clear mb_))
  go_ret2
  exact ⟨v', rfl, box_of_own HO.out (fun _ _ => trivial), HB.out⟩
 have d1 : (t != 0) = true := bne_iff_ne.mpr c0
 rw [if_neg c0] at h
 simp only [Option.some.injEq, Prod.mk.injEq] at h
 obtain ⟨rfl, rfl⟩ := h
 have C0 := zam c0
 clear c0
 go_wp2_with (first | ((with_reducible refine zgd (N := 4) rfl ?_); refine box_event ?hg (N := 4) ?hd (cs := #[.slice A0_0 l0_0.length c0_0, .int .i64 a0_1, .int .i64 a0_2]) (t := 26) ?hr ?_; (case hd => rfl); (case hg => rfl); (case hr => first | (go_simp; done) | (go_simp; rfl)); intro gn hgn_ wqgn hbk hb0; have HB := zam hb0; have Bgn := zam hbk; clear hgn_ hbk hb0) | ((with_reducible refine zgd (N := 6) rfl ?_); refine box_event ?hg (N := 6) ?hd (cs := #[.int .i64 a2_0, .int .i64 a2_1, .int .i64 a2_2, .int .i64 a2_3]) (t := 29) ?hr ?_; (case hd => rfl); (case hg => rfl); (case hr => first | (go_simp; done) | (go_simp; rfl)); intro gb hgn_ wqgb hbk hb0; have mb_ := zam (zbt HB.out hb0); clear HB; have HB := mb_; clear mb_; have m_ := zam (zkb Bgn.out hb0); clear Bgn; have Bgn := m_; clear m_; have Bgb := zam hbk; clear hgn_ hbk hb0; have hz0 := (zkc Bgn.out 0).trans rfl; have hz1 := (zkc Bgn.out 1).trans rfl; have hz2 := (zkc Bgn.out 2).trans rfl; have hy0 := (zkc Bgb.out 0).trans rfl; have hy1 := (zkc Bgb.out 1).trans rfl; have hy2 := (zkc Bgb.out 2).trans rfl; have hy3 := (zkc Bgb.out 3).trans rfl) | (go_at_call 58; (with_reducible refine (NH.out _ HB.out).mono ?_); intro e w3 hnh; obtain ⟨rfl, hb1⟩ := hnh.of_ne C0.out; clear hnh; clear hz0 hz1 hz2 hy0 hy1 hy2 hy3; have mb_ := zam (zbt HB.out hb1); clear HB hb1; have HB := mb_; clear mb_; skip))
 go_ret2
 exact ⟨.slice none 0 0, rfl, Kd.R_nil _ _ _ _ _, HB.out⟩
def Sp.half (a b : Int) : List S24 := if a = b then [⟨a, b⟩] else [⟨a, (a + b) / 2⟩, ⟨(a + b) / 2, b⟩]
def Sp.parts (b : S29) : List S29 := (Sp.half b.f1.f0 b.f1.f1).flatMap fun y => (Sp.half b.f0.f0 b.f0.f1).map fun x => ⟨x, y⟩
theorem Sp.half_eq {a b : Int} (h1 : -1073741824 ≤ a) (h2 : a ≤ 1073741824) (h3 : -1073741824 ≤ b) (h4 : b ≤ 1073741824) : Sd.half a b = Sp.half a b := by
 unfold Sd.half Sp.half
 rw [wrap_id (by omega) (by omega)]
theorem Sp.vb_bd {b : S29} (h : Sp.vb b = true) : b.f0.f0 ≤ b.f0.f1 ∧ b.f1.f0 ≤ b.f1.f1 ∧ -268435456 ≤ b.f0.f0 ∧ b.f0.f1 ≤ 268435456 ∧ -268435456 ≤ b.f1.f0 ∧ b.f1.f1 ≤ 268435456 := by
 have := (zod h : Bo.vb b.f0.f0 b.f0.f1 b.f1.f0 b.f1.f1)
 exact ⟨this.1.1, this.2.1.1, this.2.2.1, this.2.2.2.1, this.2.2.2.2.1, this.2.2.2.2.2⟩
theorem Sp.vb_mk {b : S29} (h : b.f0.f0 ≤ b.f0.f1 ∧ b.f1.f0 ≤ b.f1.f1 ∧ -268435456 ≤ b.f0.f0 ∧ b.f0.f1 ≤ 268435456 ∧ -268435456 ≤ b.f1.f0 ∧ b.f1.f1 ≤ 268435456) : Sp.vb b = true := by
 obtain ⟨h1, h2, h3, h4, h5, h6⟩ := h
 exact zdt ⟨⟨h1, by omega, by omega⟩, ⟨h2, by omega, by omega⟩, h3, h4, h5, h6⟩
theorem Sp.parts_eq {b : S29} (h : Sp.vb b = true) : Sd.parts b.f0.f0 b.f0.f1 b.f1.f0 b.f1.f1 = Sp.parts b := by
 have := Sp.vb_bd h
 unfold Sd.parts Sp.parts
 rw [Sp.half_eq (by omega) (by omega) (by omega) (by omega), Sp.half_eq (by omega) (by omega) (by omega) (by omega)]
 rfl
theorem Sp.half_in {a b : Int} (h : a ≤ b) {s : S24} (hs : s ∈ Sp.half a b) : a ≤ s.f0 ∧ s.f0 ≤ s.f1 ∧ s.f1 ≤ b := by
 unfold Sp.half at hs
 split at hs
 ·simp at hs
  subst hs
  exact ⟨Int.le_refl _, h, Int.le_refl _⟩
 simp at hs
 rcases hs with rfl | rfl
 ·dsimp only
  omega
 dsimp only
 omega
theorem Sp.part_in {b p : S29} (h : Sp.vb b = true) (hp : p ∈ Sp.parts b) : b.f0.f0 ≤ p.f0.f0 ∧ p.f0.f0 ≤ p.f0.f1 ∧ p.f0.f1 ≤ b.f0.f1 ∧ b.f1.f0 ≤ p.f1.f0 ∧ p.f1.f0 ≤ p.f1.f1 ∧ p.f1.f1 ≤ b.f1.f1 := by
 have B := Sp.vb_bd h
 unfold Sp.parts at hp
 obtain ⟨y, hy, hp⟩ := List.mem_flatMap.1 hp
 obtain ⟨x, hx, rfl⟩ := List.mem_map.1 hp
 have h1 := Sp.half_in B.1 hx
 have h2 := Sp.half_in B.2.1 hy
 exact ⟨h1.1, h1.2.1, h1.2.2, h2.1, h2.2.1, h2.2.2⟩
theorem Sp.part_vb {b p : S29} (h : Sp.vb b = true) (hp : p ∈ Sp.parts b) : Sp.vb p = true := by
 have B := Sp.vb_bd h
 have P := Sp.part_in h hp
 exact Sp.vb_mk (by omega)
theorem Sp.parts_len (b : S29) : 1 ≤ (Sp.parts b).length ∧ (Sp.parts b).length ≤ 4 := by
 unfold Sp.parts Sp.half
 split <;> split <;> simp
def Sp.in_ (st : List S29) (lo hi : Int) (at_ : List S24) (b : S29) : Bool := decide ((Sp.org st lo hi at_ b).1 ≤ (Sp.org st lo hi at_ b).2)
def Sp.reg (st : List S29) (lo hi : Int) (at_ : List S24) : Nat → S29 → List S29
 | 0, b => if Sp.in_ st lo hi at_ b = true then [b] else []
 | d + 1, b => if Sp.in_ st lo hi at_ b = true then (Sp.parts b).flatMap (Sp.reg st lo hi at_ d) else []
theorem Sp.all_map {f : S29 → Option (List S29)} {g : S29 → List S29} : ∀ xs : List S29, (∀ x ∈ xs, f x = some (g x)) → Sd.all f xs = some (xs.flatMap g)
 | [], _ => rfl
 | x :: xs, h => by
  rw [Sd.all, h x (by simp), Option.bind_some, Sp.all_map xs (fun y hy => h y (by simp [hy])), Option.bind_some, List.flatMap_cons]
theorem Sp.reg_b {st : List S29} {lo hi : Int} {at_ : List S24} (h : Sp.Acc st lo hi at_) {k : Nat} (hk : 20 ≤ k) : ∀ (d : Nat) (b : S29), Sp.vb b = true → Sd.region k st lo hi at_ d b = some (Sp.reg st lo hi at_ d b)
 | 0, b, hb => by
  rw [Sd.region, Sp.reg, Sp.org_b h hb hk, Option.bind_some]
  unfold Sp.in_
  split <;> rfl
 | d + 1, b, hb => by
  rw [Sd.region, Sp.reg, Sp.org_b h hb hk, Option.bind_some, Sp.parts_eq hb]
  unfold Sp.in_
  split
  ·exact Sp.all_map _ (fun x hx => Sp.reg_b h hk d x (Sp.part_vb hb hx))
  rfl
theorem Sp.reg_len (st : List S29) (lo hi : Int) (at_ : List S24) : ∀ (d : Nat) (b : S29), (Sp.reg st lo hi at_ d b).length ≤ 4 ^ d
 | 0, b => by
  rw [Sp.reg]
  split <;> simp
 | d + 1, b => by
  rw [Sp.reg]
  split
  ·have hl := (Sp.parts_len b).2
   have : ∀ xs : List S29, (xs.flatMap (Sp.reg st lo hi at_ d)).length ≤ xs.length * 4 ^ d := by
    intro xs
    induction xs with
    | nil => simp
    | cons x xs ih =>
     have := Sp.reg_len st lo hi at_ d x
     rw [List.flatMap_cons, List.length_append, List.length_cons, Nat.succ_mul]
     omega
   have h2 := this (Sp.parts b)
   have h3 := Nat.mul_le_mul_right (4 ^ d) hl
   rw [Nat.pow_succ]
   omega
  simp
def Sp.region (st : List S29) (lo hi : Int) (at_ : List S24) (b : S29) (d : Int) : List S29 × Int :=
 if Sp.heard st lo hi at_ b = 0 then (if 0 ≤ d ∧ d ≤ 5 then (Sp.reg st lo hi at_ d.toNat b, 0) else ([], 3)) else ([], Sp.heard st lo hi at_ b)
theorem Sp.region_b (st : List S29) (lo hi : Int) (at_ : List S24) (b : S29) (d : Int) {k : Nat} (hk : 60 ≤ k) : sound_Region.f k st lo hi at_ b.f0.f0 b.f0.f1 b.f1.f0 b.f1.f1 d = some (Sp.region st lo hi at_ b d) := by
 unfold sound_Region.f Sp.region
 rw [Sp.heard_b _ _ _ _ _ hk, Option.bind_some]
 by_cases h : Sp.heard st lo hi at_ b = 0
 ·obtain ⟨A, hb⟩ := Sp.heard_ok h
  rw [if_pos h, if_pos h]
  by_cases h1 : d < 0
  ·rw [if_pos h1, if_neg (by omega)]
  rw [if_neg h1]
  by_cases h2 : 5 < d
  ·rw [if_pos h2, if_neg (by omega)]
  rw [if_neg h2, if_pos (by omega)]
  have e := Sp.reg_b A (k := k) (by omega) d.toNat b hb
  have eb : (⟨⟨b.f0.f0, b.f0.f1⟩, ⟨b.f1.f0, b.f1.f1⟩⟩ : S29) = b := rfl
  rw [eb, e]
  rfl
 rw [if_neg h, if_neg h]
theorem Sp.halves_r (a b : Int) (h1 : -1073741824 ≤ a) (h2 : a ≤ 1073741824) (h3 : -1073741824 ≤ b) (h4 : b ≤ 1073741824) {k : Nat} (hk : 20 ≤ k) : isobathref07_halves.f k a b = some (Sp.half a b) := by
 unfold isobathref07_halves.f Sp.half
 by_cases c : a = b
 ·rw [if_pos c, if_pos c]
 rw [if_neg c, if_neg c, wrap_id (by omega) (by omega), Bo.down_f (by decide) (by omega) (by omega) (by decide) (by decide) hk, Bo.fl_pos (by decide)]
 rfl
def Sp.prow (xs : List S24) (y : S24) : List S29 := xs.map fun x => ⟨x, y⟩
theorem Sp.parts_l1 (xs ys : List S24) (hx : xs.length ≤ 2) (hy : ys.length ≤ 2) (j : Nat) (hj : j < ys.length) (acc : List S29) (ha : acc.length ≤ 4) : ∀ (n i K : Nat), i + n = xs.length → isobathref07_Parts.l1 (K + n + 1) (acc ++ Sp.prow (xs.take i) ys[j]) xs ys (j : Int) (i : Int) = isobathref07_Parts.l0 K (acc ++ Sp.prow xs ys[j]) xs ys ((j + 1 : Nat) : Int)
 | 0, i, K, hi => by
  rw [show K + 0 + 1 = K + 1 by omega, isobathref07_Parts.l1, if_neg (by omega), List.take_of_length_le (by omega), wrap_succ hj (by omega)]
 | n + 1, i, K, hi => by
  have hlt : i < xs.length := by omega
  have ih := Sp.parts_l1 xs ys hx hy j hj acc ha n (i + 1) K (by omega)
  rw [take_snoc hlt] at ih
  unfold Sp.prow at ih ⊢
  rw [List.map_append, ← List.append_assoc] at ih
  rw [show K + (n + 1) + 1 = (K + n + 1) + 1 by omega, isobathref07_Parts.l1, if_pos (by omega), if_pos (by omega), if_pos (by omega), if_pos (by omega), if_pos (by simp; omega), wrap_succ hlt (by omega), Sp.rdT xs i hlt, Sp.rdT ys j hj]
  exact ih
theorem Sp.parts_l0 (xs ys : List S24) (hx : xs.length ≤ 2) (hy : ys.length ≤ 2) : ∀ (n j K : Nat), j + n = ys.length → isobathref07_Parts.l0 (K + 1 + n * (xs.length + 2)) ((ys.take j).flatMap (Sp.prow xs)) xs ys (j : Int) = some (ys.flatMap (Sp.prow xs))
 | 0, j, K, hj => by
  rw [show K + 1 + 0 * (xs.length + 2) = K + 1 by omega, isobathref07_Parts.l0, if_neg (by omega), List.take_of_length_le (by omega)]
 | n + 1, j, K, hj => by
  have hlt : j < ys.length := by omega
  have ih := Sp.parts_l0 xs ys hx hy n (j + 1) K (by omega)
  have hacc : ((ys.take j).flatMap (Sp.prow xs)).length ≤ 4 := by
   have e : ∀ zs : List S24, (zs.flatMap (Sp.prow xs)).length = zs.length * xs.length := by
    intro zs
    induction zs with
    | nil => simp
    | cons z zs ih2 => rw [List.flatMap_cons, List.length_append, ih2, List.length_cons, Nat.succ_mul]; unfold Sp.prow; simp; omega
   rw [e, zlt]
   have := Nat.mul_le_mul (show min j ys.length ≤ 2 by omega) hx
   omega
  have h1 := Sp.parts_l1 xs ys hx hy j hlt ((ys.take j).flatMap (Sp.prow xs)) hacc xs.length 0 (K + 1 + n * (xs.length + 2)) (by omega)
  rw [take_snoc hlt, List.flatMap_append] at ih
  rw [show K + 1 + (n + 1) * (xs.length + 2) = (K + 1 + n * (xs.length + 2) + xs.length + 1) + 1 by rw [Nat.succ_mul]; omega, isobathref07_Parts.l0, if_pos (by omega)]
  have e0 : Sp.prow (xs.take 0) ys[j] = [] := by simp [Sp.prow]
  rw [e0, List.append_nil] at h1
  refine h1.trans ?_
  simpa using ih
theorem Sp.half_len (a b : Int) : (Sp.half a b).length ≤ 2 := by
 unfold Sp.half
 split <;> simp
theorem Sp.parts_r {b : S29} (h : Sp.vb b = true) {k : Nat} (hk : 20 ≤ k) : isobathref07_Parts.f k b.f0.f0 b.f0.f1 b.f1.f0 b.f1.f1 = some (Sp.parts b) := by
 have B := Sp.vb_bd h
 unfold isobathref07_Parts.f
 rw [Sp.halves_r _ _ (by omega) (by omega) (by omega) (by omega) hk, Option.bind_some, Sp.halves_r _ _ (by omega) (by omega) (by omega) (by omega) hk, Option.bind_some]
 have h1 := Sp.half_len b.f0.f0 b.f0.f1
 have h2 := Sp.half_len b.f1.f0 b.f1.f1
 have hm : (Sp.half b.f1.f0 b.f1.f1).length * ((Sp.half b.f0.f0 b.f0.f1).length + 2) ≤ 2 * 4 := Nat.mul_le_mul h2 (by omega)
 have g := Sp.parts_l0 (Sp.half b.f0.f0 b.f0.f1) (Sp.half b.f1.f0 b.f1.f1) h1 h2 (Sp.half b.f1.f0 b.f1.f1).length 0 (k - 1 - (Sp.half b.f1.f0 b.f1.f1).length * ((Sp.half b.f0.f0 b.f0.f1).length + 2)) (by omega)
 rw [show k - 1 - (Sp.half b.f1.f0 b.f1.f1).length * ((Sp.half b.f0.f0 b.f0.f1).length + 2) + 1 + (Sp.half b.f1.f0 b.f1.f1).length * ((Sp.half b.f0.f0 b.f0.f1).length + 2) = k by omega] at g
 exact g
theorem Sp.region_l0 {st : List S29} {lo hi : Int} {at_ : List S24} (d : Nat) (xs : List S29) (hx : xs.length ≤ 4) (hd : d ≤ 5) (K : Nat) (hr : ∀ x ∈ xs, ∀ k, K ≤ k → isobathref07_region.f k st lo hi at_ x.f0.f0 x.f0.f1 x.f1.f0 x.f1.f1 (d : Int) = some (Sp.reg st lo hi at_ d x)) : ∀ (n i k : Nat), i + n = xs.length → K + n + 1 ≤ k → isobathref07_region.l0 k at_ ((d : Int) + 1) ((xs.take i).flatMap (Sp.reg st lo hi at_ d)) xs (i : Int) st lo hi = some (xs.flatMap (Sp.reg st lo hi at_ d))
 | 0, i, k, hi', hk => by
  obtain ⟨k, rfl⟩ : ∃ m, k = m + 1 := ⟨k - 1, by omega⟩
  rw [isobathref07_region.l0, if_neg (by omega), List.take_of_length_le (by omega)]
 | n + 1, i, k, hi', hk => by
  obtain ⟨k, rfl⟩ : ∃ m, k = m + 1 := ⟨k - 1, by omega⟩
  have hlt : i < xs.length := by omega
  have ih := Sp.region_l0 d xs hx hd K hr n (i + 1) k (by omega) (by omega)
  have hlen : ((xs.take i).flatMap (Sp.reg st lo hi at_ d)).length + (Sp.reg st lo hi at_ d xs[i]).length < 4398046511104 := by
   have e : ∀ zs : List S29, (zs.flatMap (Sp.reg st lo hi at_ d)).length ≤ zs.length * 4 ^ d := by
    intro zs
    induction zs with
    | nil => simp
    | cons z zs ih2 =>
     have := Sp.reg_len st lo hi at_ d z
     rw [List.flatMap_cons, List.length_append, List.length_cons, Nat.succ_mul]
     omega
   have h1 := e (xs.take i)
   have h2 := Sp.reg_len st lo hi at_ d xs[i]
   have h3 : 4 ^ d ≤ 4 ^ 5 := Nat.pow_le_pow_right (by omega) hd
   have h4 : (xs.take i).length * 4 ^ d ≤ 4 * 4 ^ 5 := Nat.mul_le_mul (by simp; omega) h3
   omega
  rw [take_snoc hlt, List.flatMap_append] at ih
  rw [isobathref07_region.l0, if_pos (by omega), if_pos (by omega), Sp.rdB xs i hlt, wrap_id (n := (d : Int) + 1 - 1) (by omega) (by omega), show (d : Int) + 1 - 1 = (d : Int) by omega, hr _ (List.getElem_mem hlt) k (by omega), Option.bind_some, if_pos hlen, wrap_succ hlt (by omega)]
  simpa using ih
theorem Sp.reg_r {st : List S29} {lo hi : Int} {at_ : List S24} (h : Sp.Acc st lo hi at_) : ∀ (d : Nat), d ≤ 5 → ∀ b : S29, Sp.vb b = true → ∀ k, 80 + 8 * d ≤ k → isobathref07_region.f k st lo hi at_ b.f0.f0 b.f0.f1 b.f1.f0 b.f1.f1 (d : Int) = some (Sp.reg st lo hi at_ d b)
 | 0, _, b, hb, k, hk => by
  obtain ⟨k, rfl⟩ : ∃ m, k = m + 1 := ⟨k - 1, by omega⟩
  rw [isobathref07_region.f, Sp.out_r h hb (by omega), Option.bind_some, Sp.reg]
  unfold Sp.in_
  by_cases c : (Sp.org st lo hi at_ b).1 ≤ (Sp.org st lo hi at_ b).2
  ·rw [if_neg (by simpa using c), if_pos (by omega), if_pos (by simpa using c)]
  rw [if_pos (by simpa using c), if_neg (by simpa using c)]
 | d + 1, hd, b, hb, k, hk => by
  obtain ⟨k, rfl⟩ : ∃ m, k = m + 1 := ⟨k - 1, by omega⟩
  rw [isobathref07_region.f, Sp.out_r h hb (by omega), Option.bind_some, Sp.reg]
  unfold Sp.in_
  by_cases c : (Sp.org st lo hi at_ b).1 ≤ (Sp.org st lo hi at_ b).2
  ·rw [if_neg (by simpa using c), if_neg (by omega), if_pos (by simpa using c), Sp.parts_r hb (by omega), Option.bind_some]
   have hl := (Sp.parts_len b).2
   have g := Sp.region_l0 d (Sp.parts b) hl (by omega) (80 + 8 * d) (fun x hx k hk => Sp.reg_r h d (by omega) x (Sp.part_vb hb hx) k hk) (Sp.parts b).length 0 k (by omega) (by omega)
   have e : ((d + 1 : Nat) : Int) = (d : Int) + 1 := by omega
   rw [e]
   exact g
  rw [if_pos (by simpa using c), if_neg (by simpa using c)]
theorem Sp.region_r (st : List S29) (lo hi : Int) (at_ : List S24) (b : S29) (d : Int) {k : Nat} (hk : 200 ≤ k) : isobathref07_Region.f k st lo hi at_ b.f0.f0 b.f0.f1 b.f1.f0 b.f1.f1 d = some (Sp.region st lo hi at_ b d) := by
 unfold isobathref07_Region.f Sp.region
 rw [Sp.heard_r _ _ _ _ _ (by omega), Option.bind_some, Option.bind_some]
 by_cases h : Sp.heard st lo hi at_ b = 0
 ·obtain ⟨A, hb⟩ := Sp.heard_ok h
  rw [if_pos h, if_pos h]
  by_cases h1 : d < 0
  ·rw [if_pos h1, if_neg (by omega)]
  rw [if_neg h1]
  by_cases h2 : d > 5
  ·rw [if_pos h2, if_neg (by omega)]
  rw [if_neg h2, if_pos (by omega)]
  obtain ⟨m, rfl⟩ : ∃ m : Nat, d = (m : Int) := ⟨d.toNat, by omega⟩
  rw [Sp.reg_r A m (by omega) b hb k (by omega), Int.toNat_natCast]
  rfl
 rw [if_neg h, if_neg h]
theorem Sp.works_region : Sp.region [⟨⟨0, 0⟩, ⟨0, 0⟩⟩, ⟨⟨3000, 3000⟩, ⟨0, 0⟩⟩, ⟨⟨0, 0⟩, ⟨4000, 4000⟩⟩] 1500 1500 [⟨100, 100⟩, ⟨2100, 2100⟩, ⟨2767, 2767⟩] ⟨⟨0, 4000⟩, ⟨0, 4000⟩⟩ 1 = ([⟨⟨0, 2000⟩, ⟨0, 2000⟩⟩], 0) := by
 have h := Sp.region_r [⟨⟨0, 0⟩, ⟨0, 0⟩⟩, ⟨⟨3000, 3000⟩, ⟨0, 0⟩⟩, ⟨⟨0, 0⟩, ⟨4000, 4000⟩⟩] 1500 1500 [⟨100, 100⟩, ⟨2100, 2100⟩, ⟨2767, 2767⟩] ⟨⟨0, 4000⟩, ⟨0, 4000⟩⟩ 1 (k := 200) (by omega)
 have e : isobathref07_Region.f 200 [⟨⟨0, 0⟩, ⟨0, 0⟩⟩, ⟨⟨3000, 3000⟩, ⟨0, 0⟩⟩, ⟨⟨0, 0⟩, ⟨4000, 4000⟩⟩] 1500 1500 [⟨100, 100⟩, ⟨2100, 2100⟩, ⟨2767, 2767⟩] 0 4000 0 4000 1 = some ([⟨⟨0, 2000⟩, ⟨0, 2000⟩⟩], 0) := by
  with_unfolding_all rfl
 exact zsi (h.symm.trans e)
def isobathlaw07_point.f (a0 : Int) (a1 : Int) : Option (Int × Int × Int × Int) := some (a0, a0, a1, a1)
set_option maxHeartbeats 8000000 in
set_option maxRecDepth 100000 in
theorem isobathlaw07_point.calls (a0 : Int) (a1 : Int) (r1 : Int) (r2 : Int) (r3 : Int) (r4 : Int) (w : World) (h : isobathlaw07_point.f a0 a1 = some (r1, r2, r3, r4)) :
  Calls Try.prog 56 #[.int .i64 a0, .int .i64 a1] w fun e w' => e = .returned (.agg #[.int .i64 r1, .int .i64 r2, .int .i64 r3, .int .i64 r4]) ∧ Below w.heap.size w w' := by
 have hu29 := Try.underlying29
 have hu24 := Try.underlying24
 have HB := zam (Below.refl w.heap.size w)
 have H : (some (a0, a0, a1, a1)) = some (r1, r2, r3, r4) := h
 clear h
 simp only [Option.some.injEq, Prod.mk.injEq] at H
 obtain ⟨rfl, rfl, rfl, rfl⟩ := H
 go_enter Try.func56, Try.ntmps56
 go_wp2_with (first | ((with_reducible refine zgd (N := 4) rfl ?_); refine box_event ?hg (N := 4) ?hd (cs := #[.int .i64 0, .int .i64 0, .int .i64 0, .int .i64 0]) (t := 29) ?hr ?_; (case hd => rfl); (case hg => rfl); (case hr => first | (go_simp; done) | (go_simp; rfl)); intro gb101 hg w3 hbox hb; have n0_ := zam (zbt zq1 hb); have n1_ := zam (hbox); have n2_ := zam ((by rw [hg]; exact (zbz zq1) : w.heap.size ≤ gb101)); have n3_ := zam ((by rw [hg]; exact (zbz zq1) : w.heap.size ≤ gb101)); clear HB; have HB := n0_; have BK101 := n1_; have GW101 := n2_; have GE101 := n3_; clear n0_ n1_ n2_ n3_; clear hb hbox hg; have hcz4_0 : w3.cell? ⟨gb101, 0, none⟩ = some (.int .i64 0) := (zkc BK101.out 0).trans rfl; have hcz4_1 : w3.cell? ⟨gb101, 1, none⟩ = some (.int .i64 0) := (zkc BK101.out 1).trans rfl; have hcz4_2 : w3.cell? ⟨gb101, 2, none⟩ = some (.int .i64 0) := (zkc BK101.out 2).trans rfl; have hcz4_3 : w3.cell? ⟨gb101, 3, none⟩ = some (.int .i64 0) := (zkc BK101.out 3).trans rfl; have hfz4_0 := zkz BK101.out 0; have hfz4_1 := zkz BK101.out 1; have hfz4_2 := zkz BK101.out 2; have hfz4_3 := zkz BK101.out 3))
 refine bodyPost_ret (results_cell_row rfl _ _ gb101 29 #[.int .i64 a0, .int .i64 a0, .int .i64 a1, .int .i64 a1] (0, 0) _ rfl (by (with_reducible repeat (first | refine zkn ?_ _ | refine zkd ?_ | refine zka ?_ _)); refine blk_put (cs := #[.int .i64 a0, .int .i64 a0, .int .i64 a1, .int .i64 0]) ?_ 3 _ rfl; (with_reducible repeat (first | refine zkn ?_ _ | refine zkd ?_ | refine zka ?_ _)); refine blk_put (cs := #[.int .i64 a0, .int .i64 a0, .int .i64 0, .int .i64 0]) ?_ 2 _ rfl; (with_reducible repeat (first | refine zkn ?_ _ | refine zkd ?_ | refine zka ?_ _)); refine blk_put (cs := #[.int .i64 a0, .int .i64 0, .int .i64 0, .int .i64 0]) ?_ 1 _ rfl; (with_reducible repeat (first | refine zkn ?_ _ | refine zkd ?_ | refine zka ?_ _)); refine blk_put (cs := #[.int .i64 0, .int .i64 0, .int .i64 0, .int .i64 0]) ?_ 0 _ rfl; (with_reducible repeat (first | refine zkn ?_ _ | refine zkd ?_ | refine zka ?_ _)); exact BK101.out) Try.underlying29 rfl (by kernel_rfl)) rfl ?_
 exact ⟨by first | rfl | (simp [errW_none, errW_some] <;> rfl) | (simp [*, errW_none, errW_some] <;> rfl), by repeat (first | (with_reducible first | exact HB.out | apply zba | apply zbn | apply zb1 | refine zbs ?_ GE101.out) | exact HB.out)⟩
end Go.Proofs.Ytaheamdoldiojaa.P
