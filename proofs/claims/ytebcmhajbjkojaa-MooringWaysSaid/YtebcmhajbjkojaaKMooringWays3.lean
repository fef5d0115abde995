/- wherever an object drifts without being found, the cell where it is after each hour is one of Where, or it has left the area, which is told. (as MooringSearches) Part 4 of 7. -/
-- Put together by wip/tools/shake.py, a program of this work: out of the words that the kit's print tool (print.sh) writes for a claim and what wip/tools/xprint.py prints, those that this claim reaches, and this work's own texts.
import Derived.RangeFuncBox
import Derived.RangeFuncNested
import Derived.RangeFuncBound
import Derived.RangeFuncCalls
import Derived.RangeFuncLeaves
import Derived.Shelf.Abstract
import Derived.Shelf.RegionOpen
import Derived.OwnWalkIn
import Derived.TacticsInMore
import Derived.LoopNIn
import Derived.LoopIn
import Derived.Sort.QuietIn
import Derived.Test.YtebcmhajbjkojaaKMooringWays2
namespace Go.Proofs.Ytebcmhajbjkojaa.P
open Go.RowKit Go.Proofs.YtebcmhajbjkojaaW.PrintWords Go.Proofs.YtebcmhajbjkojaaW.PrintLast Go.Proofs.YtebcmhajbjkojaaW.PrintMore
attribute [local go_sem] max2_int min2_int max_two min_two max_three min_three max_four min_four   -- for this text's walks alone
set_option linter.unusedVariables false
set_option linter.unusedSimpArgs false
mutual
def isobathref02_search.j0 : Nat → List Int → List (S79) → Bool → Int → Int → Option (Int)
 | 0, _, _, _, _, _ => none
 | k + 1, x1, x2, x28, x102000, x102001 => if x28 = true then (some 2) else (isobathref02_search.l0 k x1 x2 0 x102000 x102001)
def isobathref02_search.l0 : Nat → List Int → List (S79) → Int → Int → Int → Option (Int)
 | 0, _, _, _, _, _ => none
 | k + 1, x1, x2, x7, x102000, x102001 => if x7 < (x2.length : Int) then (if 0 ≤ x7 then ((isobathref02_shift.f ((rd_T79 x2 x7).f0.f0) ((rd_T79 x2 x7).f0.f1)).bind fun t104 => (if t104 = true then ((isobathref02_shift.f ((rd_T79 x2 x7).f1.f0) ((rd_T79 x2 x7).f1.f1)).bind fun t106 => (if t106 = true then ((isobathref02_cells.f k x102000 x102001 ((rd_T79 x2 x7).f2)).bind fun t108 => (if t108 = true then (isobathref02_search.l0 k x1 x2 (wrap64 (x7 + 1)) x102000 x102001) else (some 2))) else (some 2))) else (some 2))) else (none)) else ((isobathref02_cells.f k x102000 x102001 x1).bind fun t102 => (if t102 = true then (some 0) else (some 2)))
end
def isobathref02_search.f (k : Nat) (a0_0 : Int) (a0_1 : Int) (l1 : List Int) (l2 : List (S79)) : Option (Int) := if (l2.length : Int) > 48 then (some 6) else (if a0_0 < 1 then (isobathref02_search.j0 k l1 l2 true a0_0 a0_1) else (if a0_0 > 24 then (isobathref02_search.j0 k l1 l2 true a0_0 a0_1) else (if a0_1 < 1 then (isobathref02_search.j0 k l1 l2 true a0_0 a0_1) else (isobathref02_search.j0 k l1 l2 (decide (a0_1 > 24)) a0_0 a0_1))))
def isobathref02_search.T8 : Bool × List (List Nat × List Nat) := (true, [([], []), ([], []), ([0, 1], [0, 1]), ([2], [2]), ([3], [3]), ([4], [4]), ([5], [5]), ([6, 5], [6]), ([7], [7]), ([7], [7]), ([8, 9, 7], [7, 8, 9]), ([10, 7], [7, 10]), ([11, 7], [7, 11]), ([12, 7, 7], [7, 12]), ([13, 7], [7, 13]), ([7, 14], [7, 14]), ([15, 13], [15]), ([16], [16]), ([16], [16]), ([16], [16]), ([18, 19, 16], [16, 18, 19]), ([20, 16], [16, 20]), ([21, 16], [16, 21]), ([17, 22, 16, 16], [16, 17, 22]), ([23, 16], [16, 23]), ([16, 24], [16, 24])])
def isobathref02_search.B8 : List Nat := [0, 0, 3, 7, 15, 31, 63, 127, 255, 255, 1023, 2047, 4095, 8191, 16383, 32767, 65535, 131071, 131071, 131071, 917503, 1966079, 4063231, 8388607, 16777215, 33554431]
theorem isobathref02_search.tab8 : rtab .any (opsOf Try.f79 8) = isobathref02_search.T8 := by kernel_rfl
theorem isobathref02_search.bits8 : waitsOk isobathref02_search.T8.2 isobathref02_search.B8 = true := by kernel_rfl
set_option maxHeartbeats 8000000 in
set_option maxRecDepth 100000 in
theorem isobathref02_search.calls (k : Nat) (a0_0 : Int) (a0_1 : Int) (A1 : Option Addr) (c1 : Nat) (l1 : List Int) (A2 : Option Addr) (c2 : Nat) (l2 : List (S79)) (r : Int) (w : World) (hr1 : Kd.C (Kd.int .i64) w A1 l1.length l1) (hc1 : l1.length ≤ c1) (hr2 : Kd.C k79 w A2 l2.length l2) (hc2 : l2.length ≤ c2) (h : isobathref02_search.f k a0_0 a0_1 l1 l2 = some r) :
  Calls Try.prog 79 #[.agg #[.int .i64 a0_0, .int .i64 a0_1], .slice A1 l1.length c1, .slice A2 l2.length c2] w fun e w' => e = .returned (.int .i64 r) ∧ Below w.heap.size w w' := by
 have hu72 := Try.underlying72
 have hu57 := Try.underlying57
 have HR1 := zam hr1
 have HC1 := zam hc1
 clear hr1 hc1
 have HR2 := zam hr2
 have HC2 := zam hc2
 clear hr2 hc2
 have HB := zam (Below.refl w.heap.size w)
 have H : (if (l2.length : Int) > 48 then (some 6) else (if a0_0 < 1 then (isobathref02_search.j0 k l1 l2 true a0_0 a0_1) else (if a0_0 > 24 then (isobathref02_search.j0 k l1 l2 true a0_0 a0_1) else (if a0_1 < 1 then (isobathref02_search.j0 k l1 l2 true a0_0 a0_1) else (isobathref02_search.j0 k l1 l2 (decide (a0_1 > 24)) a0_0 a0_1))))) = some r := h
 clear h
 by_cases c4 : (l2.length : Int) > 48
 ·rw [if_pos c4] at H
  have c4b0 : decide (48 < (l2.length : Int)) = true := zdt c4
  have c4b1 : decide (48 < l2.length) = true := zdt (by omega)
  clear c4
  obtain rfl := zsi H
  go_enter Try.func79, Try.ntmps79
  go_wp2_with (first | ((with_reducible refine zgd (N := 3) rfl ?_); refine box_event ?hg (N := 3) ?hd (cs := #[.int .i64 a0_0, .int .i64 a0_1]) (t := 72) ?hr ?_; (case hd => rfl); (case hg => rfl); (case hr => first | (go_simp; done) | (go_simp; rfl)); intro gb101 hg w5 hbox hb; have n0_ := zam (zbt (by repeat (first | (with_reducible first | exact HB.out | apply zba | apply zbn | apply zb1) | exact HB.out)) hb); have n1_ := zam (hbox); have n2_ := zam ((by rw [hg]; exact (zbz (by repeat (first | (with_reducible first | exact HB.out | apply zba | apply zbn | apply zb1) | exact HB.out))) : w.heap.size ≤ gb101)); have n3_ := zam ((by rw [hg]; exact (zbz (by repeat (first | (with_reducible first | exact HB.out | apply zba | apply zbn | apply zb1) | exact HB.out))) : w.heap.size ≤ gb101)); clear HB; have HB := n0_; have BK101 := n1_; have GW101 := n2_; have GE101 := n3_; clear n0_ n1_ n2_ n3_; clear hb hbox hg))
  go_ret
  exact ⟨by first | rfl | (simp [errW_none, errW_some] <;> rfl) | (simp [*, errW_none, errW_some] <;> rfl), by repeat (first | (with_reducible first | exact HB.out | apply zba | apply zbn | apply zb1 | refine zbs ?_ GE101.out) | exact HB.out)⟩
 rw [if_neg c4] at H
 have c4b0 : decide (48 < (l2.length : Int)) = false := zdf c4
 have c4b1 : decide (48 < l2.length) = false := zdf (by omega)
 clear c4
 have HC6 := zam H
 clear H
 go_enter Try.func79, Try.ntmps79
 go_upto_region 3 with (first | ((with_reducible refine zgd (N := 3) rfl ?_); refine box_event ?hg (N := 3) ?hd (cs := #[.int .i64 a0_0, .int .i64 a0_1]) (t := 72) ?hr ?_; (case hd => rfl); (case hg => rfl); (case hr => first | (go_simp; done) | (go_simp; rfl)); intro gb101 hg w7 hbox hb; have n0_ := zam (zbt (by repeat (first | (with_reducible first | exact HB.out | apply zba | apply zbn | apply zb1) | exact HB.out)) hb); have n1_ := zam (hbox); have n2_ := zam ((by rw [hg]; exact (zbz (by repeat (first | (with_reducible first | exact HB.out | apply zba | apply zbn | apply zb1) | exact HB.out))) : w.heap.size ≤ gb101)); have n3_ := zam ((by rw [hg]; exact (zbz (by repeat (first | (with_reducible first | exact HB.out | apply zba | apply zbn | apply zb1) | exact HB.out))) : w.heap.size ≤ gb101)); clear HB; have HB := n0_; have BK101 := n1_; have GW101 := n2_; have GE101 := n3_; clear n0_ n1_ n2_ n3_; clear hb hbox hg))
 (try simp only [Act.put, zsa, zsz, zss])
 go_cut [28] (fun v28 wc => ∃ (kq : Nat) (x28_5 : Bool), v28 = .bool x28_5 ∧ Aside0 (isobathref02_search.j0 kq l1 l2 x28_5 a0_0 a0_1 = some r) ∧ Aside0 (kq ≤ k) ∧ Aside0 (wc.heap[gb101]? = some (.cells #[.int .i64 a0_0, .int .i64 a0_1] 72 (0, 0))) ∧ Aside0 (Below w.heap.size w wc))
 case first =>
  have H := HC6.out
  clear HC6
  by_cases c8 : a0_0 < 1
  ·rw [if_pos c8] at H
   have c8b0 : decide (a0_0 < 1) = true := zdt c8
   clear c8
   (first | rw [c8b0] | (simp only [i64_w, i32_w]; rw [c8b0]) | skip)
   have H' := zam H
   clear H
   have hcz9_0 : w7.cell? ⟨gb101, 0, none⟩ = some (.int .i64 a0_0) := (zkc BK101.out 0).trans rfl
   have hcz9_1 : w7.cell? ⟨gb101, 1, none⟩ = some (.int .i64 a0_1) := (zkc BK101.out 1).trans rfl
   have hfz9_0 := zkz BK101.out 0
   have hfz9_1 := zkz BK101.out 1
   go_wp2
   go_meet
   case rel => exact ⟨_, (true), (by first | rfl | (simp; done) | (simp [*]; done)), H', ⟨by first | omega | exact Nat.le_refl _⟩, ⟨by (with_reducible repeat (first | refine zkn ?_ _ | refine zkd ?_ | refine zka ?_ _)); exact BK101.out⟩, ⟨by repeat (first | (with_reducible first | exact HB.out | apply zba | apply zbn | apply zb1 | refine zbs ?_ GE101.out) | exact HB.out)⟩⟩
  rw [if_neg c8] at H
  have c8b0 : decide (a0_0 < 1) = false := zdf c8
  clear c8
  (first | rw [c8b0] | (simp only [i64_w, i32_w]; rw [c8b0]) | skip)
  by_cases c10 : a0_0 > 24
  ·rw [if_pos c10] at H
   have c10b0 : decide (24 < a0_0) = true := zdt c10
   clear c10
   have H' := zam H
   clear H
   have hcz11_0 : w7.cell? ⟨gb101, 0, none⟩ = some (.int .i64 a0_0) := (zkc BK101.out 0).trans rfl
   have hcz11_1 : w7.cell? ⟨gb101, 1, none⟩ = some (.int .i64 a0_1) := (zkc BK101.out 1).trans rfl
   have hfz11_0 := zkz BK101.out 0
   have hfz11_1 := zkz BK101.out 1
   go_wp2
   go_meet
   case rel => exact ⟨_, (true), (by first | rfl | (simp; done) | (simp [*]; done)), H', ⟨by first | omega | exact Nat.le_refl _⟩, ⟨by (with_reducible repeat (first | refine zkn ?_ _ | refine zkd ?_ | refine zka ?_ _)); exact BK101.out⟩, ⟨by repeat (first | (with_reducible first | exact HB.out | apply zba | apply zbn | apply zb1 | refine zbs ?_ GE101.out) | exact HB.out)⟩⟩
  rw [if_neg c10] at H
  have c10b0 : decide (24 < a0_0) = false := zdf c10
  clear c10
  by_cases c12 : a0_1 < 1
  ·rw [if_pos c12] at H
   have c12b0 : decide (a0_1 < 1) = true := zdt c12
   clear c12
   have H' := zam H
   clear H
   have hcz13_0 : w7.cell? ⟨gb101, 0, none⟩ = some (.int .i64 a0_0) := (zkc BK101.out 0).trans rfl
   have hcz13_1 : w7.cell? ⟨gb101, 1, none⟩ = some (.int .i64 a0_1) := (zkc BK101.out 1).trans rfl
   have hfz13_0 := zkz BK101.out 0
   have hfz13_1 := zkz BK101.out 1
   go_wp2
   go_meet
   case rel => exact ⟨_, (true), (by first | rfl | (simp; done) | (simp [*]; done)), H', ⟨by first | omega | exact Nat.le_refl _⟩, ⟨by (with_reducible repeat (first | refine zkn ?_ _ | refine zkd ?_ | refine zka ?_ _)); exact BK101.out⟩, ⟨by repeat (first | (with_reducible first | exact HB.out | apply zba | apply zbn | apply zb1 | refine zbs ?_ GE101.out) | exact HB.out)⟩⟩
  rw [if_neg c12] at H
  have c12b0 : decide (a0_1 < 1) = false := zdf c12
  clear c12
  have H' := zam H
  clear H
  have hcz14_0 : w7.cell? ⟨gb101, 0, none⟩ = some (.int .i64 a0_0) := (zkc BK101.out 0).trans rfl
  have hcz14_1 : w7.cell? ⟨gb101, 1, none⟩ = some (.int .i64 a0_1) := (zkc BK101.out 1).trans rfl
  have hfz14_0 := zkz BK101.out 0
  have hfz14_1 := zkz BK101.out 1
  go_wp2
  go_meet
  case rel => exact ⟨_, (decide (a0_1 > 24)), (by first | rfl | (simp; done) | (simp [*]; done)), H', ⟨by first | omega | exact Nat.le_refl _⟩, ⟨by (with_reducible repeat (first | refine zkn ?_ _ | refine zkd ?_ | refine zka ?_ _)); exact BK101.out⟩, ⟨by repeat (first | (with_reducible first | exact HB.out | apply zba | apply zbn | apply zb1 | refine zbs ?_ GE101.out) | exact HB.out)⟩⟩
 case rest =>
  clear HC6
  try clear c1
  try clear c2
  try clear p2
  try clear c4
  try clear c4b0
  try clear c4b1
  try clear c7
  try clear c8
  try clear c8b0
  try clear c10
  try clear c10b0
  try clear c12
  try clear c12b0
  try clear hcz11_0
  try clear hcz11_1
  try clear hcz13_0
  try clear hcz13_1
  try clear hcz14_0
  try clear hcz14_1
  try clear hcz9_0
  try clear hcz9_1
  try clear hfz11_0
  try clear hfz11_1
  try clear hfz13_0
  try clear hfz13_1
  try clear hfz14_0
  try clear hfz14_1
  try clear hfz9_0
  try clear hfz9_1
  obtain ⟨kq, x28_5, rfl, HA, HJ5, BK101, HB⟩ := hcut
  cases kq with
  | zero => exact absurd HA.out (by simp [isobathref02_search.j0])
  | succ kj5 =>
   have H := HA.out
   clear HA
   simp only [isobathref02_search.j0] at H
   by_cases c15 : x28_5 = true
   ·subst c15
    have H1 : (some 2) = some r := by rw [if_pos rfl] at H; exact H
    clear H
    have H := H1
    clear H1
    obtain rfl := zsi H
    go_wp2
    go_ret
    exact ⟨by first | rfl | (simp [errW_none, errW_some] <;> rfl) | (simp [*, errW_none, errW_some] <;> rfl), by repeat (first | (with_reducible first | exact HB.out | apply zba | apply zbn | apply zb1 | refine zbs ?_ GE101.out) | exact HB.out)⟩
   replace c15 := Bool.eq_false_iff.mpr c15
   subst c15
   have H1 : (isobathref02_search.l0 kj5 l1 l2 0 a0_0 a0_1) = some r := by rw [if_neg (show ¬ (false = true) by decide)] at H; exact H
   clear H
   have H := H1
   clear H1
   have H' := zam H
   clear H
   go_wp2
   go_loopg [7] kj5 (fun kq v7 w' => ∃ (x7_2 : Int), v7 = .int .i64 x7_2 ∧ Aside0 (isobathref02_search.l0 kq l1 l2 x7_2 a0_0 a0_1 = some r) ∧ Aside0 (kq ≤ kj5) ∧ Aside0 (w'.heap[gb101]? = some (.cells #[.int .i64 a0_0, .int .i64 a0_1] 72 (0, 0))) ∧ Aside0 (Below w.heap.size w w'))
   case atStart => exact ⟨(0), (by first | rfl | (simp; done) | (simp [*]; done)), H', ⟨Nat.le_refl _⟩, ⟨by (with_reducible repeat (first | refine zkn ?_ _ | refine zkd ?_ | refine zka ?_ _)); exact BK101.out⟩, ⟨by repeat (first | (with_reducible first | exact HB.out | apply zba | apply zbn | apply zb1 | refine zbs ?_ GE101.out) | exact HB.out)⟩⟩
   case round =>
    clear H'
    try clear c1
    try clear c2
    try clear p2
    try clear c4
    try clear c4b0
    try clear c4b1
    try clear c7
    try clear c8
    try clear c8b0
    try clear c10
    try clear c10b0
    try clear c12
    try clear c12b0
    try clear c15
    try clear hcz11_0
    try clear hcz11_1
    try clear hcz13_0
    try clear hcz13_1
    try clear hcz14_0
    try clear hcz14_1
    try clear hcz9_0
    try clear hcz9_1
    try clear hfz11_0
    try clear hfz11_1
    try clear hfz13_0
    try clear hfz13_1
    try clear hfz14_0
    try clear hfz14_1
    try clear hfz9_0
    try clear hfz9_1
    try clear p2
    obtain ⟨x7_2, rfl, HA, HK2, BK101, HB⟩ := hrel
    cases gk with
    | zero => exact absurd HA.out (by simp [isobathref02_search.l0])
    | succ k2 =>
     have H := HA.out
     clear HA
     simp only [isobathref02_search.l0] at H
     by_cases c16 : x7_2 < (l2.length : Int)
     ·rw [if_pos c16] at H
      have c16b0 : decide (x7_2 < (l2.length : Int)) = true := zdt c16
      clear c16
      by_cases c17 : 0 ≤ x7_2
      ·rw [if_pos c17] at H
       have c17b0 : decide (0 ≤ x7_2) = true := zdt c17
       clear c17
       replace H := Option.bind_eq_some_iff.mp H
       obtain ⟨t104, A180, H⟩ := H
       replace H : (if t104 = true then ((isobathref02_shift.f ((rd_T79 l2 x7_2).f1.f0) ((rd_T79 l2 x7_2).f1.f1)).bind fun t106 => (if t106 = true then ((isobathref02_cells.f k2 a0_0 a0_1 ((rd_T79 l2 x7_2).f2)).bind fun t108 => (if t108 = true then (isobathref02_search.l0 k2 l1 l2 (wrap64 (x7_2 + 1)) a0_0 a0_1) else (some 2))) else (some 2))) else (some 2)) = some r := H
       have A18 := zam A180
       clear A180
       by_cases c19 : t104 = true
       ·subst c19
        have H1 : ((isobathref02_shift.f ((rd_T79 l2 x7_2).f1.f0) ((rd_T79 l2 x7_2).f1.f1)).bind fun t106 => (if t106 = true then ((isobathref02_cells.f k2 a0_0 a0_1 ((rd_T79 l2 x7_2).f2)).bind fun t108 => (if t108 = true then (isobathref02_search.l0 k2 l1 l2 (wrap64 (x7_2 + 1)) a0_0 a0_1) else (some 2))) else (some 2))) = some r := by rw [if_pos rfl] at H; exact H
        clear H
        have H := H1
        clear H1
        replace H := Option.bind_eq_some_iff.mp H
        obtain ⟨t106, A200, H⟩ := H
        replace H : (if t106 = true then ((isobathref02_cells.f k2 a0_0 a0_1 ((rd_T79 l2 x7_2).f2)).bind fun t108 => (if t108 = true then (isobathref02_search.l0 k2 l1 l2 (wrap64 (x7_2 + 1)) a0_0 a0_1) else (some 2))) else (some 2)) = some r := H
        have A20 := zam A200
        clear A200
        by_cases c21 : t106 = true
        ·subst c21
         have H1 : ((isobathref02_cells.f k2 a0_0 a0_1 ((rd_T79 l2 x7_2).f2)).bind fun t108 => (if t108 = true then (isobathref02_search.l0 k2 l1 l2 (wrap64 (x7_2 + 1)) a0_0 a0_1) else (some 2))) = some r := by rw [if_pos rfl] at H; exact H
         clear H
         have H := H1
         clear H1
         replace H := Option.bind_eq_some_iff.mp H
         obtain ⟨t108, A220, H⟩ := H
         replace H : (if t108 = true then (isobathref02_search.l0 k2 l1 l2 (wrap64 (x7_2 + 1)) a0_0 a0_1) else (some 2)) = some r := H
         have A22 := zam A220
         clear A220
         by_cases c23 : t108 = true
         ·subst c23
          have H1 : (isobathref02_search.l0 k2 l1 l2 (wrap64 (x7_2 + 1)) a0_0 a0_1) = some r := by rw [if_pos rfl] at H; exact H
          clear H
          have H := H1
          clear H1
          have H' := zam H
          clear H
          try go_wp2
          have n0_ := zam (zkd BK101.out)
          have n1_ := zam (zb1 HB.out)
          clear BK101
          clear HB
          have BK101 := n0_
          have HB := n1_
          clear n0_ n1_
          have p103 : 0 ≤ (x7_2 : Int) := zod (by first | (with_reducible assumption) | assumption)
          have q103 : x7_2 < (l2.length : Int) := zod (by first | (with_reducible assumption) | assumption)
          obtain ⟨ad103, A103_4, c103_4, e103, hx103_0, hx103_1, hx103_2, hx103_3, hx103_4, hl103_4, hi103_4⟩ := at_T79 HR2.out x7_2 p103 q103
          have hw103_4 := hx103_4
          have hw103_3 := hx103_3
          have hw103_2 := hx103_2
          have hw103_1 := hx103_1
          have hw103_0 := hx103_0
          cases e103
          replace hx103_0 := (HB.out.cell (zwb w _ hx103_0)).trans hx103_0
          replace hx103_1 := (HB.out.cell (zwb w _ hx103_1)).trans hx103_1
          replace hx103_2 := (HB.out.cell (zwb w _ hx103_2)).trans hx103_2
          replace hx103_3 := (HB.out.cell (zwb w _ hx103_3)).trans hx103_3
          replace hx103_4 := (HB.out.cell (zwb w _ hx103_4)).trans hx103_4
          have HR103_4 := zam hi103_4
          have HC103_4 := zam hl103_4
          clear hi103_4 hl103_4
          replace p103 := eq_true p103
          replace q103 := eq_true q103
          have p105 : 0 ≤ (x7_2 : Int) := zod (by first | (with_reducible assumption) | assumption)
          have q105 : x7_2 < (l2.length : Int) := zod (by first | (with_reducible assumption) | assumption)
          obtain ⟨ad105, A105_4, c105_4, e105, hx105_0, hx105_1, hx105_2, hx105_3, hx105_4, hl105_4, hi105_4⟩ := at_T79 HR2.out x7_2 p105 q105
          have hw105_4 := hx105_4
          have hw105_3 := hx105_3
          have hw105_2 := hx105_2
          have hw105_1 := hx105_1
          have hw105_0 := hx105_0
          obtain rfl : ad103 = ad105 := (by injection e105)
          obtain ⟨rfl, rfl⟩ : A103_4 = A105_4 ∧ c103_4 = c105_4 := (by have h_ := zsi (hw103_4.symm.trans hx105_4); injection h_ with a_ b_ c_; exact ⟨a_, c_⟩)
          replace hx105_0 := (HB.out.cell (zwb w _ hx105_0)).trans hx105_0
          replace hx105_1 := (HB.out.cell (zwb w _ hx105_1)).trans hx105_1
          replace hx105_2 := (HB.out.cell (zwb w _ hx105_2)).trans hx105_2
          replace hx105_3 := (HB.out.cell (zwb w _ hx105_3)).trans hx105_3
          replace hx105_4 := (HB.out.cell (zwb w _ hx105_4)).trans hx105_4
          have HR105_4 := zam hi105_4
          have HC105_4 := zam hl105_4
          clear hi105_4 hl105_4
          replace p105 := eq_true p105
          replace q105 := eq_true q105
          have p107 : 0 ≤ (x7_2 : Int) := zod (by first | (with_reducible assumption) | assumption)
          have q107 : x7_2 < (l2.length : Int) := zod (by first | (with_reducible assumption) | assumption)
          obtain ⟨ad107, A107_4, c107_4, e107, hx107_0, hx107_1, hx107_2, hx107_3, hx107_4, hl107_4, hi107_4⟩ := at_T79 HR2.out x7_2 p107 q107
          have hw107_4 := hx107_4
          have hw107_3 := hx107_3
          have hw107_2 := hx107_2
          have hw107_1 := hx107_1
          have hw107_0 := hx107_0
          obtain rfl : ad103 = ad107 := (by injection e107)
          obtain ⟨rfl, rfl⟩ : A103_4 = A107_4 ∧ c103_4 = c107_4 := (by have h_ := zsi (hw103_4.symm.trans hx107_4); injection h_ with a_ b_ c_; exact ⟨a_, c_⟩)
          replace hx107_0 := (HB.out.cell (zwb w _ hx107_0)).trans hx107_0
          replace hx107_1 := (HB.out.cell (zwb w _ hx107_1)).trans hx107_1
          replace hx107_2 := (HB.out.cell (zwb w _ hx107_2)).trans hx107_2
          replace hx107_3 := (HB.out.cell (zwb w _ hx107_3)).trans hx107_3
          replace hx107_4 := (HB.out.cell (zwb w _ hx107_4)).trans hx107_4
          have HR107_4 := zam hi107_4
          have HC107_4 := zam hl107_4
          clear hi107_4 hl107_4
          replace p107 := eq_true p107
          replace q107 := eq_true q107
          refine start_ (n := 26) (S := fun w' => w'.cell? ⟨gb101, 0, none⟩ = some (.int .i64 a0_0) ∧ w'.cell? ⟨gb101, 1, none⟩ = some (.int .i64 a0_1) ∧ w'.cell? (ad103.add ((x7_2).toNat * 5)) = some (.int .i64 ((rd_T79 l2 x7_2).f0.f0)) ∧ w'.cell? ⟨(ad103.add ((x7_2).toNat * 5)).block, (ad103.add ((x7_2).toNat * 5)).off + 1, none⟩ = some (.int .i64 ((rd_T79 l2 x7_2).f0.f1)) ∧ w'.cell? ⟨(ad103.add ((x7_2).toNat * 5)).block, (ad103.add ((x7_2).toNat * 5)).off + 2, none⟩ = some (.int .i64 ((rd_T79 l2 x7_2).f1.f0)) ∧ w'.cell? ⟨(ad103.add ((x7_2).toNat * 5)).block, (ad103.add ((x7_2).toNat * 5)).off + 3, none⟩ = some (.int .i64 ((rd_T79 l2 x7_2).f1.f1)) ∧ w'.cell? ⟨(ad103.add ((x7_2).toNat * 5)).block, (ad103.add ((x7_2).toNat * 5)).off + 4, none⟩ = some (.slice A103_4 ((rd_T79 l2 x7_2).f2).length c103_4) ∧ w'.cell? (ad103.add ((x7_2).toNat * 5)) = some (.int .i64 ((rd_T79 l2 x7_2).f0.f0)) ∧ w'.cell? ⟨(ad103.add ((x7_2).toNat * 5)).block, (ad103.add ((x7_2).toNat * 5)).off + 1, none⟩ = some (.int .i64 ((rd_T79 l2 x7_2).f0.f1)) ∧ w'.cell? ⟨(ad103.add ((x7_2).toNat * 5)).block, (ad103.add ((x7_2).toNat * 5)).off + 2, none⟩ = some (.int .i64 ((rd_T79 l2 x7_2).f1.f0)) ∧ w'.cell? ⟨(ad103.add ((x7_2).toNat * 5)).block, (ad103.add ((x7_2).toNat * 5)).off + 3, none⟩ = some (.int .i64 ((rd_T79 l2 x7_2).f1.f1)) ∧ w'.cell? ⟨(ad103.add ((x7_2).toNat * 5)).block, (ad103.add ((x7_2).toNat * 5)).off + 4, none⟩ = some (.slice A103_4 ((rd_T79 l2 x7_2).f2).length c103_4) ∧ w'.cell? (ad103.add ((x7_2).toNat * 5)) = some (.int .i64 ((rd_T79 l2 x7_2).f0.f0)) ∧ w'.cell? ⟨(ad103.add ((x7_2).toNat * 5)).block, (ad103.add ((x7_2).toNat * 5)).off + 1, none⟩ = some (.int .i64 ((rd_T79 l2 x7_2).f0.f1)) ∧ w'.cell? ⟨(ad103.add ((x7_2).toNat * 5)).block, (ad103.add ((x7_2).toNat * 5)).off + 2, none⟩ = some (.int .i64 ((rd_T79 l2 x7_2).f1.f0)) ∧ w'.cell? ⟨(ad103.add ((x7_2).toNat * 5)).block, (ad103.add ((x7_2).toNat * 5)).off + 3, none⟩ = some (.int .i64 ((rd_T79 l2 x7_2).f1.f1)) ∧ w'.cell? ⟨(ad103.add ((x7_2).toNat * 5)).block, (ad103.add ((x7_2).toNat * 5)).off + 4, none⟩ = some (.slice A103_4 ((rd_T79 l2 x7_2).f2).length c103_4)) (ds := []) #[false, false, false, false, false, false, false, false, false, false, false, false, false, false, false, false, false, false, false, false, false, false, false, false, false, false] (by kernel_rfl) rfl rfl ⟨(zkc BK101.out 0).trans rfl, (zkc BK101.out 1).trans rfl, ((HB.out.cell (zwb w _ hw103_0)).trans hw103_0), ((HB.out.cell (zwb w _ hw103_1)).trans hw103_1), ((HB.out.cell (zwb w _ hw103_2)).trans hw103_2), ((HB.out.cell (zwb w _ hw103_3)).trans hw103_3), ((HB.out.cell (zwb w _ hw103_4)).trans hw103_4), ((HB.out.cell (zwb w _ hw105_0)).trans hw105_0), ((HB.out.cell (zwb w _ hw105_1)).trans hw105_1), ((HB.out.cell (zwb w _ hw105_2)).trans hw105_2), ((HB.out.cell (zwb w _ hw105_3)).trans hw105_3), ((HB.out.cell (zwb w _ hw105_4)).trans hw105_4), ((HB.out.cell (zwb w _ hw107_0)).trans hw107_0), ((HB.out.cell (zwb w _ hw107_1)).trans hw107_1), ((HB.out.cell (zwb w _ hw107_2)).trans hw107_2), ((HB.out.cell (zwb w _ hw107_3)).trans hw107_3), ((HB.out.cell (zwb w _ hw107_4)).trans hw107_4)⟩ (fun hHeld => ?_); refine with_tabW isobathref02_search.tab8 isobathref02_search.bits8 (fun HT_ HW_ => ?_)
          generalize wr.drew = w24 at BK101 HB HR103_4 HR105_4 HR107_4 hx103_0 hx103_1 hx103_2 hx103_3 hx103_4 hx105_0 hx105_1 hx105_2 hx105_3 hx105_4 hx107_0 hx107_1 hx107_2 hx107_3 hx107_4 hHeld ⊢
          refine pure_ (i := 0) (N := some 35) (v := ?_) (a' := ?_) #[true, false, false, false, false, false, false, false, false, false, false, false, false, false, false, false, false, false, false, false, false, false, false, false, false, false] rfl rfl (any_of HT_.out (by kernel_rfl)) (fun _ _ _ h => h) (Or.inl ⟨by rfl, ?_⟩) ?_ ?_
          rotate_left
          ·intro w'
           go_simp
           with_reducible rfl
          rotate_left
          ·simp only [Act.put, zsa, zsz, zss, i64_w, i32_w]
           rfl
          refine pure_ (i := 1) (N := some 36) (v := ?_) (a' := ?_) #[true, true, false, false, false, false, false, false, false, false, false, false, false, false, false, false, false, false, false, false, false, false, false, false, false, false] rfl rfl (any_of HT_.out (by kernel_rfl)) (fun _ _ _ h => h) (Or.inl ⟨by rfl, ?_⟩) ?_ ?_
          rotate_left
          ·intro w'
           go_simp
           with_reducible rfl
          rotate_left
          ·simp only [Act.put, zsa, zsz, zss, i64_w, i32_w]
           rfl
          refine pure_ (i := 2) (N := some 37) (v := ?_) (a' := ?_) #[true, true, true, false, false, false, false, false, false, false, false, false, false, false, false, false, false, false, false, false, false, false, false, false, false, false] rfl rfl (any_of HT_.out (by kernel_rfl)) (fun _ _ _ h => h) (Or.inl ⟨by rfl, ?_⟩) ?_ ?_
          rotate_left
          ·intro w'
           go_simp
           with_reducible rfl
          rotate_left
          ·simp only [Act.put, zsa, zsz, zss, i64_w, i32_w]
           rfl
          refine pure_ (i := 3) (N := some 38) (v := ?_) (a' := ?_) #[true, true, true, true, false, false, false, false, false, false, false, false, false, false, false, false, false, false, false, false, false, false, false, false, false, false] rfl rfl (any_of HT_.out (by kernel_rfl)) (fun _ _ _ h => h) (Or.inl ⟨by rfl, ?_⟩) ?_ ?_
          rotate_left
          ·intro w'
           go_simp
           with_reducible rfl
          rotate_left
          ·simp only [Act.put, zsa, zsz, zss, i64_w, i32_w]
           rfl
          refine take_ (i := 4) (N := some 39) (v := ?_) (a' := ?_) #[true, true, true, true, true, false, false, false, false, false, false, false, false, false, false, false, false, false, false, false, false, false, false, false, false, false] rfl rfl (take_ofW HT_.out HW_.out (by kernel_rfl)) (fun _ _ _ h => h) (Or.inl ⟨by rfl, ?_⟩) hHeld ?_ ?_
          rotate_left
          ·rintro w' ⟨s0, s1, s2, s3, s4, s5, s6, s7, s8, s9, s10, s11, s12, s13, s14, s15, s16⟩
           go_simp
           with_reducible rfl
          rotate_left
          ·simp only [Act.put, zsa, zsz, zss, i64_w, i32_w]
           rfl
          refine one_ (i := 5) (N := some 40) #[true, true, true, true, true, true, false, false, false, false, false, false, false, false, false, false, false, false, false, false, false, false, false, false, false, false] rfl rfl (one_of HT_.out (by kernel_rfl)) (by decide) (fun K hK => ?_)
          refine goes_ Try.func91 (by kernel_rfl) rfl #[.agg #[.int .i64 ((rd_T79 l2 x7_2).f0.f0), .int .i64 ((rd_T79 l2 x7_2).f0.f1)]] (by rfl) rfl rfl (by (try simp only [zmt, List.map_cons, List.map_nil]); first | done | rfl | (simp only [zld, zlt]; rfl)) ?_
          with_reducible refine (isobathref02_shift.calls ((rd_T79 l2 x7_2).f0.f0) ((rd_T79 l2 x7_2).f0.f1) true _ A18.out).mono ?_
          rintro e w25 ⟨rfl, hb⟩
          refine ⟨_, rfl, ?_⟩
          have n0_ := zam (zkb (g := gb101) (o := .cells #[.int .i64 a0_0, .int .i64 a0_1] 72 (0, 0)) (by (with_reducible repeat (first | refine zkn ?_ _ | refine zkd ?_ | refine zka ?_ _)); exact BK101.out) hb)
          have n1_ := zam (zbt (by repeat (first | (with_reducible first | exact HB.out | apply zba | apply zbn | apply zb1 | refine zbs ?_ GE101.out) | exact HB.out)) hb)
          clear BK101
          clear HB
          have BK101 := n0_
          have HB := n1_
          clear n0_ n1_
          (try clear hb)
          (try clear hb2)
          (try clear hk)
          (try clear hi)
          refine hK.out _ _ ⟨(zkc BK101.out 0).trans rfl, (zkc BK101.out 1).trans rfl, ((HB.out.cell (zwb w _ hw103_0)).trans hw103_0), ((HB.out.cell (zwb w _ hw103_1)).trans hw103_1), ((HB.out.cell (zwb w _ hw103_2)).trans hw103_2), ((HB.out.cell (zwb w _ hw103_3)).trans hw103_3), ((HB.out.cell (zwb w _ hw103_4)).trans hw103_4), ((HB.out.cell (zwb w _ hw105_0)).trans hw105_0), ((HB.out.cell (zwb w _ hw105_1)).trans hw105_1), ((HB.out.cell (zwb w _ hw105_2)).trans hw105_2), ((HB.out.cell (zwb w _ hw105_3)).trans hw105_3), ((HB.out.cell (zwb w _ hw105_4)).trans hw105_4), ((HB.out.cell (zwb w _ hw107_0)).trans hw107_0), ((HB.out.cell (zwb w _ hw107_1)).trans hw107_1), ((HB.out.cell (zwb w _ hw107_2)).trans hw107_2), ((HB.out.cell (zwb w _ hw107_3)).trans hw107_3), ((HB.out.cell (zwb w _ hw107_4)).trans hw107_4)⟩ (fun hHeld => ?_)
          clear hK K
          refine norm_ (a' := ?_) ?_ ?_
          rotate_left
          ·show Act.put _ (some 40) _ = _
           simp only [Act.put, zsa, zsz, zss, i64_w, i32_w]
           rfl
          refine pure_ (i := 6) (N := some 41) (v := ?_) (a' := ?_) #[true, true, true, true, true, true, true, false, false, false, false, false, false, false, false, false, false, false, false, false, false, false, false, false, false, false] rfl rfl (any_of HT_.out (by kernel_rfl)) (fun _ _ _ h => h) (Or.inl ⟨by rfl, ?_⟩) ?_ ?_
          rotate_left
          ·intro w'
           go_simp
           with_reducible rfl
          rotate_left
          ·simp only [Act.put, zsa, zsz, zss, i64_w, i32_w]
           rfl
          refine pure_ (i := 7) (N := some 42) (v := ?_) (a' := ?_) #[true, true, true, true, true, true, true, true, false, false, false, false, false, false, false, false, false, false, false, false, false, false, false, false, false, false] rfl rfl (any_of HT_.out (by kernel_rfl)) (fun _ _ _ h => h) (Or.inl ⟨by rfl, ?_⟩) ?_ ?_
          rotate_left
          ·intro w'
           go_simp
           with_reducible rfl
          rotate_left
          ·simp only [Act.put, zsa, zsz, zss, i64_w, i32_w]
           rfl
          refine pure_ (i := 8) (N := some 43) (v := ?_) (a' := ?_) #[true, true, true, true, true, true, true, true, true, false, false, false, false, false, false, false, false, false, false, false, false, false, false, false, false, false] rfl rfl (any_of HT_.out (by kernel_rfl)) (fun _ _ _ h => h) (Or.inl ⟨by rfl, ?_⟩) ?_ ?_
          rotate_left
          ·intro w'
           go_simp
           with_reducible rfl
          rotate_left
          ·simp only [Act.put, zsa, zsz, zss, i64_w, i32_w]
           rfl
          refine pure_ (i := 9) (N := some 44) (v := ?_) (a' := ?_) #[true, true, true, true, true, true, true, true, true, true, false, false, false, false, false, false, false, false, false, false, false, false, false, false, false, false] rfl rfl (any_of HT_.out (by kernel_rfl)) (fun _ _ _ h => h) (Or.inl ⟨by rfl, ?_⟩) ?_ ?_
          rotate_left
          ·intro w'
           go_simp
           with_reducible rfl
          rotate_left
          ·simp only [Act.put, zsa, zsz, zss, i64_w, i32_w]
           rfl
          refine pure_ (i := 10) (N := some 45) (v := ?_) (a' := ?_) #[true, true, true, true, true, true, true, true, true, true, true, false, false, false, false, false, false, false, false, false, false, false, false, false, false, false] rfl rfl (any_of HT_.out (by kernel_rfl)) (fun _ _ _ h => h) (Or.inl ⟨by rfl, ?_⟩) ?_ ?_
          rotate_left
          ·intro w'
           go_simp
           with_reducible rfl
          rotate_left
          ·simp only [Act.put, zsa, zsz, zss, i64_w, i32_w]
           rfl
          refine pure_ (i := 11) (N := some 46) (v := ?_) (a' := ?_) #[true, true, true, true, true, true, true, true, true, true, true, true, false, false, false, false, false, false, false, false, false, false, false, false, false, false] rfl rfl (any_of HT_.out (by kernel_rfl)) (fun _ _ _ h => h) (Or.inl ⟨by rfl, ?_⟩) ?_ ?_
          rotate_left
          ·intro w'
           go_simp
           with_reducible rfl
          rotate_left
          ·simp only [Act.put, zsa, zsz, zss, i64_w, i32_w]
           rfl
          refine take_ (i := 12) (N := some 47) (v := ?_) (a' := ?_) #[true, true, true, true, true, true, true, true, true, true, true, true, true, false, false, false, false, false, false, false, false, false, false, false, false, false] rfl rfl (take_ofW HT_.out HW_.out (by kernel_rfl)) (fun _ _ _ h => h) (Or.inl ⟨by rfl, ?_⟩) hHeld ?_ ?_
          rotate_left
          ·rintro w' ⟨s0, s1, s2, s3, s4, s5, s6, s7, s8, s9, s10, s11, s12, s13, s14, s15, s16⟩
           go_simp
           with_reducible rfl
          rotate_left
          ·simp only [Act.put, zsa, zsz, zss, i64_w, i32_w]
           rfl
          refine one_ (i := 13) (N := some 48) #[true, true, true, true, true, true, true, true, true, true, true, true, true, true, false, false, false, false, false, false, false, false, false, false, false, false] rfl rfl (one_of HT_.out (by kernel_rfl)) (by decide) (fun K hK => ?_)
          refine goes_ Try.func91 (by kernel_rfl) rfl #[.agg #[.int .i64 ((rd_T79 l2 x7_2).f1.f0), .int .i64 ((rd_T79 l2 x7_2).f1.f1)]] (by rfl) rfl rfl (by (try simp only [zmt, List.map_cons, List.map_nil]); first | done | rfl | (simp only [zld, zlt]; rfl)) ?_
          with_reducible refine (isobathref02_shift.calls ((rd_T79 l2 x7_2).f1.f0) ((rd_T79 l2 x7_2).f1.f1) true _ A20.out).mono ?_
          rintro e w26 ⟨rfl, hb⟩
          refine ⟨_, rfl, ?_⟩
          have n0_ := zam (zkb (g := gb101) (o := .cells #[.int .i64 a0_0, .int .i64 a0_1] 72 (0, 0)) (by (with_reducible repeat (first | refine zkn ?_ _ | refine zkd ?_ | refine zka ?_ _)); exact BK101.out) hb)
          have n1_ := zam (zbt (by repeat (first | (with_reducible first | exact HB.out | apply zba | apply zbn | apply zb1 | refine zbs ?_ GE101.out) | exact HB.out)) hb)
          clear BK101
          clear HB
          have BK101 := n0_
          have HB := n1_
          clear n0_ n1_
          (try clear hb)
          (try clear hb2)
          (try clear hk)
          (try clear hi)
          refine hK.out _ _ ⟨(zkc BK101.out 0).trans rfl, (zkc BK101.out 1).trans rfl, ((HB.out.cell (zwb w _ hw103_0)).trans hw103_0), ((HB.out.cell (zwb w _ hw103_1)).trans hw103_1), ((HB.out.cell (zwb w _ hw103_2)).trans hw103_2), ((HB.out.cell (zwb w _ hw103_3)).trans hw103_3), ((HB.out.cell (zwb w _ hw103_4)).trans hw103_4), ((HB.out.cell (zwb w _ hw105_0)).trans hw105_0), ((HB.out.cell (zwb w _ hw105_1)).trans hw105_1), ((HB.out.cell (zwb w _ hw105_2)).trans hw105_2), ((HB.out.cell (zwb w _ hw105_3)).trans hw105_3), ((HB.out.cell (zwb w _ hw105_4)).trans hw105_4), ((HB.out.cell (zwb w _ hw107_0)).trans hw107_0), ((HB.out.cell (zwb w _ hw107_1)).trans hw107_1), ((HB.out.cell (zwb w _ hw107_2)).trans hw107_2), ((HB.out.cell (zwb w _ hw107_3)).trans hw107_3), ((HB.out.cell (zwb w _ hw107_4)).trans hw107_4)⟩ (fun hHeld => ?_)
          clear hK K
          refine norm_ (a' := ?_) ?_ ?_
          rotate_left
          ·show Act.put _ (some 48) _ = _
           simp only [Act.put, zsa, zsz, zss, i64_w, i32_w]
           rfl
          refine pure_ (i := 14) (N := some 49) (v := ?_) (a' := ?_) #[true, true, true, true, true, true, true, true, true, true, true, true, true, true, true, false, false, false, false, false, false, false, false, false, false, false] rfl rfl (any_of HT_.out (by kernel_rfl)) (fun _ _ _ h => h) (Or.inl ⟨by rfl, ?_⟩) ?_ ?_
          rotate_left
          ·intro w'
           go_simp
           with_reducible rfl
          rotate_left
          ·simp only [Act.put, zsa, zsz, zss, i64_w, i32_w]
           rfl
          refine pure_ (i := 15) (N := some 50) (v := ?_) (a' := ?_) #[true, true, true, true, true, true, true, true, true, true, true, true, true, true, true, true, false, false, false, false, false, false, false, false, false, false] rfl rfl (any_of HT_.out (by kernel_rfl)) (fun _ _ _ h => h) (Or.inl ⟨by rfl, ?_⟩) ?_ ?_
          rotate_left
          ·intro w'
           go_simp
           with_reducible rfl
          rotate_left
          ·simp only [Act.put, zsa, zsz, zss, i64_w, i32_w]
           rfl
          refine pure_ (i := 16) (N := some 51) (v := ?_) (a' := ?_) #[true, true, true, true, true, true, true, true, true, true, true, true, true, true, true, true, true, false, false, false, false, false, false, false, false, false] rfl rfl (any_of HT_.out (by kernel_rfl)) (fun _ _ _ h => h) (Or.inl ⟨by rfl, ?_⟩) ?_ ?_
          rotate_left
          ·intro w'
           go_simp
           with_reducible rfl
          rotate_left
          ·simp only [Act.put, zsa, zsz, zss, i64_w, i32_w]
           rfl
          refine pure_ (i := 18) (N := some 53) (v := ?_) (a' := ?_) #[true, true, true, true, true, true, true, true, true, true, true, true, true, true, true, true, true, false, true, false, false, false, false, false, false, false] rfl rfl (any_of HT_.out (by kernel_rfl)) (fun _ _ _ h => h) (Or.inl ⟨by rfl, ?_⟩) ?_ ?_
          rotate_left
          ·intro w'
           go_simp
           with_reducible rfl
          rotate_left
          ·simp only [Act.put, zsa, zsz, zss, i64_w, i32_w]
           rfl
          refine pure_ (i := 19) (N := some 54) (v := ?_) (a' := ?_) #[true, true, true, true, true, true, true, true, true, true, true, true, true, true, true, true, true, false, true, true, false, false, false, false, false, false] rfl rfl (any_of HT_.out (by kernel_rfl)) (fun _ _ _ h => h) (Or.inl ⟨by rfl, ?_⟩) ?_ ?_
          rotate_left
          ·intro w'
           go_simp
           with_reducible rfl
          rotate_left
          ·simp only [Act.put, zsa, zsz, zss, i64_w, i32_w]
           rfl
          refine pure_ (i := 20) (N := some 55) (v := ?_) (a' := ?_) #[true, true, true, true, true, true, true, true, true, true, true, true, true, true, true, true, true, false, true, true, true, false, false, false, false, false] rfl rfl (any_of HT_.out (by kernel_rfl)) (fun _ _ _ h => h) (Or.inl ⟨by rfl, ?_⟩) ?_ ?_
          rotate_left
          ·intro w'
           go_simp
           with_reducible rfl
          rotate_left
          ·simp only [Act.put, zsa, zsz, zss, i64_w, i32_w]
           rfl
          refine pure_ (i := 21) (N := some 56) (v := ?_) (a' := ?_) #[true, true, true, true, true, true, true, true, true, true, true, true, true, true, true, true, true, false, true, true, true, true, false, false, false, false] rfl rfl (any_of HT_.out (by kernel_rfl)) (fun _ _ _ h => h) (Or.inl ⟨by rfl, ?_⟩) ?_ ?_
          rotate_left
          ·intro w'
           go_simp
           with_reducible rfl
          rotate_left
          ·simp only [Act.put, zsa, zsz, zss, i64_w, i32_w]
           rfl
          refine take_ (i := 17) (N := some 52) (v := ?_) (a' := ?_) #[true, true, true, true, true, true, true, true, true, true, true, true, true, true, true, true, true, true, true, true, true, true, false, false, false, false] rfl rfl (take_ofW HT_.out HW_.out (by kernel_rfl)) (fun _ _ _ h => h) (Or.inl ⟨by rfl, ?_⟩) hHeld ?_ ?_
          rotate_left
          ·rintro w' ⟨s0, s1, s2, s3, s4, s5, s6, s7, s8, s9, s10, s11, s12, s13, s14, s15, s16⟩
           go_simp
           with_reducible rfl
          rotate_left
          ·simp only [Act.put, zsa, zsz, zss, i64_w, i32_w]
           rfl
          refine take_ (i := 22) (N := some 57) (v := ?_) (a' := ?_) #[true, true, true, true, true, true, true, true, true, true, true, true, true, true, true, true, true, true, true, true, true, true, true, false, false, false] rfl rfl (take_ofW HT_.out HW_.out (by kernel_rfl)) (fun _ _ _ h => h) (Or.inl ⟨by rfl, ?_⟩) hHeld ?_ ?_
          rotate_left
          ·rintro w' ⟨s0, s1, s2, s3, s4, s5, s6, s7, s8, s9, s10, s11, s12, s13, s14, s15, s16⟩
           go_simp
           with_reducible rfl
          rotate_left
          ·simp only [Act.put, zsa, zsz, zss, i64_w, i32_w]
           rfl
          refine one_ (i := 23) (N := some 58) #[true, true, true, true, true, true, true, true, true, true, true, true, true, true, true, true, true, true, true, true, true, true, true, true, false, false] rfl rfl (one_of HT_.out (by kernel_rfl)) (by decide) (fun K hK => ?_)
          refine goes_ Try.func92 (by kernel_rfl) rfl #[.agg #[.int .i64 a0_0, .int .i64 a0_1], .slice A103_4 ((rd_T79 l2 x7_2).f2).length c103_4] (by rfl) rfl rfl (by (try simp only [zmt, List.map_cons, List.map_nil]); first | done | rfl | (simp only [zld, zlt]; rfl)) ?_
          with_reducible refine (isobathref02_cells.calls k2 a0_0 a0_1 _ _ ((rd_T79 l2 x7_2).f2) true _ ?side1 ?side2 A22.out).mono ?_
          (case side1 => repeat (first | exact (Kd.C_below HR107_4.out HB.out) | (with_reducible refine Kd.C_alloc ?_ _) | (with_reducible refine Kd.C_drewN ?_ _) | (with_reducible refine Kd.C_drew ?_)))
          (case side2 => exact HC107_4.out)
          rintro e w27 ⟨rfl, hb⟩
          refine ⟨_, rfl, ?_⟩
          have n0_ := zam (zkb (g := gb101) (o := .cells #[.int .i64 a0_0, .int .i64 a0_1] 72 (0, 0)) (by (with_reducible repeat (first | refine zkn ?_ _ | refine zkd ?_ | refine zka ?_ _)); exact BK101.out) hb)
          have n1_ := zam (zbt (by repeat (first | (with_reducible first | exact HB.out | apply zba | apply zbn | apply zb1 | refine zbs ?_ GE101.out) | exact HB.out)) hb)
          clear BK101
          clear HB
          have BK101 := n0_
          have HB := n1_
          clear n0_ n1_
          (try clear hb)
          (try clear hb2)
          (try clear hk)
          (try clear hi)
          refine hK.out _ _ ⟨(zkc BK101.out 0).trans rfl, (zkc BK101.out 1).trans rfl, ((HB.out.cell (zwb w _ hw103_0)).trans hw103_0), ((HB.out.cell (zwb w _ hw103_1)).trans hw103_1), ((HB.out.cell (zwb w _ hw103_2)).trans hw103_2), ((HB.out.cell (zwb w _ hw103_3)).trans hw103_3), ((HB.out.cell (zwb w _ hw103_4)).trans hw103_4), ((HB.out.cell (zwb w _ hw105_0)).trans hw105_0), ((HB.out.cell (zwb w _ hw105_1)).trans hw105_1), ((HB.out.cell (zwb w _ hw105_2)).trans hw105_2), ((HB.out.cell (zwb w _ hw105_3)).trans hw105_3), ((HB.out.cell (zwb w _ hw105_4)).trans hw105_4), ((HB.out.cell (zwb w _ hw107_0)).trans hw107_0), ((HB.out.cell (zwb w _ hw107_1)).trans hw107_1), ((HB.out.cell (zwb w _ hw107_2)).trans hw107_2), ((HB.out.cell (zwb w _ hw107_3)).trans hw107_3), ((HB.out.cell (zwb w _ hw107_4)).trans hw107_4)⟩ (fun hHeld => ?_)
          clear hK K
          refine norm_ (a' := ?_) ?_ ?_
          rotate_left
          ·show Act.put _ (some 58) _ = _
           simp only [Act.put, zsa, zsz, zss, i64_w, i32_w]
           rfl
          refine pure_ (i := 24) (N := some 59) (v := ?_) (a' := ?_) #[true, true, true, true, true, true, true, true, true, true, true, true, true, true, true, true, true, true, true, true, true, true, true, true, true, false] rfl rfl (any_of HT_.out (by kernel_rfl)) (fun _ _ _ h => h) (Or.inl ⟨by rfl, ?_⟩) ?_ ?_
          rotate_left
          ·intro w'
           go_simp
           with_reducible rfl
          rotate_left
          ·simp only [Act.put, zsa, zsz, zss, i64_w, i32_w]
           rfl
          refine pure_ (i := 25) (N := some 60) (v := ?_) (a' := ?_) #[true, true, true, true, true, true, true, true, true, true, true, true, true, true, true, true, true, true, true, true, true, true, true, true, true, true] rfl rfl (any_of HT_.out (by kernel_rfl)) (fun _ _ _ h => h) (Or.inl ⟨by rfl, ?_⟩) ?_ ?_
          rotate_left
          ·intro w'
           go_simp
           with_reducible rfl
          rotate_left
          ·simp only [Act.put, zsa, zsz, zss, i64_w, i32_w]
           rfl
          refine done_ (done_of HT_.out (by kernel_rfl)) ?_
          try go_wp2
          go_roundg k2
          case measure => have := HJ5.out; have := HK2.out; omega
          case rel => exact ⟨(wrap64 (x7_2 + 1)), (by first | rfl | (simp; done) | (simp [*]; done)), H', ⟨by have := HJ5.out; have := HK2.out; omega⟩, ⟨by (with_reducible repeat (first | refine zkn ?_ _ | refine zkd ?_ | refine zka ?_ _)); exact BK101.out⟩, ⟨by repeat (first | (with_reducible first | exact HB.out | apply zba | apply zbn | apply zb1 | refine zbs ?_ GE101.out) | exact HB.out)⟩⟩
         replace c23 := Bool.eq_false_iff.mpr c23
         subst c23
         have H1 : (some 2) = some r := by rw [if_neg (show ¬ (false = true) by decide)] at H; exact H
         clear H
         have H := H1
         clear H1
         obtain rfl := zsi H
         try go_wp2
         have n0_ := zam (zkd BK101.out)
         have n1_ := zam (zb1 HB.out)
         clear BK101
         clear HB
         have BK101 := n0_
         have HB := n1_
         clear n0_ n1_
         have p103 : 0 ≤ (x7_2 : Int) := zod (by first | (with_reducible assumption) | assumption)
         have q103 : x7_2 < (l2.length : Int) := zod (by first | (with_reducible assumption) | assumption)
         obtain ⟨ad103, A103_4, c103_4, e103, hx103_0, hx103_1, hx103_2, hx103_3, hx103_4, hl103_4, hi103_4⟩ := at_T79 HR2.out x7_2 p103 q103
         have hw103_4 := hx103_4
         have hw103_3 := hx103_3
         have hw103_2 := hx103_2
         have hw103_1 := hx103_1
         have hw103_0 := hx103_0
         cases e103
         replace hx103_0 := (HB.out.cell (zwb w _ hx103_0)).trans hx103_0
         replace hx103_1 := (HB.out.cell (zwb w _ hx103_1)).trans hx103_1
         replace hx103_2 := (HB.out.cell (zwb w _ hx103_2)).trans hx103_2
         replace hx103_3 := (HB.out.cell (zwb w _ hx103_3)).trans hx103_3
         replace hx103_4 := (HB.out.cell (zwb w _ hx103_4)).trans hx103_4
         have HR103_4 := zam hi103_4
         have HC103_4 := zam hl103_4
         clear hi103_4 hl103_4
         replace p103 := eq_true p103
         replace q103 := eq_true q103
         have p105 : 0 ≤ (x7_2 : Int) := zod (by first | (with_reducible assumption) | assumption)
         have q105 : x7_2 < (l2.length : Int) := zod (by first | (with_reducible assumption) | assumption)
         obtain ⟨ad105, A105_4, c105_4, e105, hx105_0, hx105_1, hx105_2, hx105_3, hx105_4, hl105_4, hi105_4⟩ := at_T79 HR2.out x7_2 p105 q105
         have hw105_4 := hx105_4
         have hw105_3 := hx105_3
         have hw105_2 := hx105_2
         have hw105_1 := hx105_1
         have hw105_0 := hx105_0
         obtain rfl : ad103 = ad105 := (by injection e105)
         obtain ⟨rfl, rfl⟩ : A103_4 = A105_4 ∧ c103_4 = c105_4 := (by have h_ := zsi (hw103_4.symm.trans hx105_4); injection h_ with a_ b_ c_; exact ⟨a_, c_⟩)
         replace hx105_0 := (HB.out.cell (zwb w _ hx105_0)).trans hx105_0
         replace hx105_1 := (HB.out.cell (zwb w _ hx105_1)).trans hx105_1
         replace hx105_2 := (HB.out.cell (zwb w _ hx105_2)).trans hx105_2
         replace hx105_3 := (HB.out.cell (zwb w _ hx105_3)).trans hx105_3
         replace hx105_4 := (HB.out.cell (zwb w _ hx105_4)).trans hx105_4
         have HR105_4 := zam hi105_4
         have HC105_4 := zam hl105_4
         clear hi105_4 hl105_4
         replace p105 := eq_true p105
         replace q105 := eq_true q105
         have p107 : 0 ≤ (x7_2 : Int) := zod (by first | (with_reducible assumption) | assumption)
         have q107 : x7_2 < (l2.length : Int) := zod (by first | (with_reducible assumption) | assumption)
         obtain ⟨ad107, A107_4, c107_4, e107, hx107_0, hx107_1, hx107_2, hx107_3, hx107_4, hl107_4, hi107_4⟩ := at_T79 HR2.out x7_2 p107 q107
         have hw107_4 := hx107_4
         have hw107_3 := hx107_3
         have hw107_2 := hx107_2
         have hw107_1 := hx107_1
         have hw107_0 := hx107_0
         obtain rfl : ad103 = ad107 := (by injection e107)
         obtain ⟨rfl, rfl⟩ : A103_4 = A107_4 ∧ c103_4 = c107_4 := (by have h_ := zsi (hw103_4.symm.trans hx107_4); injection h_ with a_ b_ c_; exact ⟨a_, c_⟩)
         replace hx107_0 := (HB.out.cell (zwb w _ hx107_0)).trans hx107_0
         replace hx107_1 := (HB.out.cell (zwb w _ hx107_1)).trans hx107_1
         replace hx107_2 := (HB.out.cell (zwb w _ hx107_2)).trans hx107_2
         replace hx107_3 := (HB.out.cell (zwb w _ hx107_3)).trans hx107_3
         replace hx107_4 := (HB.out.cell (zwb w _ hx107_4)).trans hx107_4
         have HR107_4 := zam hi107_4
         have HC107_4 := zam hl107_4
         clear hi107_4 hl107_4
         replace p107 := eq_true p107
         replace q107 := eq_true q107
         refine start_ (n := 26) (S := fun w' => w'.cell? ⟨gb101, 0, none⟩ = some (.int .i64 a0_0) ∧ w'.cell? ⟨gb101, 1, none⟩ = some (.int .i64 a0_1) ∧ w'.cell? (ad103.add ((x7_2).toNat * 5)) = some (.int .i64 ((rd_T79 l2 x7_2).f0.f0)) ∧ w'.cell? ⟨(ad103.add ((x7_2).toNat * 5)).block, (ad103.add ((x7_2).toNat * 5)).off + 1, none⟩ = some (.int .i64 ((rd_T79 l2 x7_2).f0.f1)) ∧ w'.cell? ⟨(ad103.add ((x7_2).toNat * 5)).block, (ad103.add ((x7_2).toNat * 5)).off + 2, none⟩ = some (.int .i64 ((rd_T79 l2 x7_2).f1.f0)) ∧ w'.cell? ⟨(ad103.add ((x7_2).toNat * 5)).block, (ad103.add ((x7_2).toNat * 5)).off + 3, none⟩ = some (.int .i64 ((rd_T79 l2 x7_2).f1.f1)) ∧ w'.cell? ⟨(ad103.add ((x7_2).toNat * 5)).block, (ad103.add ((x7_2).toNat * 5)).off + 4, none⟩ = some (.slice A103_4 ((rd_T79 l2 x7_2).f2).length c103_4) ∧ w'.cell? (ad103.add ((x7_2).toNat * 5)) = some (.int .i64 ((rd_T79 l2 x7_2).f0.f0)) ∧ w'.cell? ⟨(ad103.add ((x7_2).toNat * 5)).block, (ad103.add ((x7_2).toNat * 5)).off + 1, none⟩ = some (.int .i64 ((rd_T79 l2 x7_2).f0.f1)) ∧ w'.cell? ⟨(ad103.add ((x7_2).toNat * 5)).block, (ad103.add ((x7_2).toNat * 5)).off + 2, none⟩ = some (.int .i64 ((rd_T79 l2 x7_2).f1.f0)) ∧ w'.cell? ⟨(ad103.add ((x7_2).toNat * 5)).block, (ad103.add ((x7_2).toNat * 5)).off + 3, none⟩ = some (.int .i64 ((rd_T79 l2 x7_2).f1.f1)) ∧ w'.cell? ⟨(ad103.add ((x7_2).toNat * 5)).block, (ad103.add ((x7_2).toNat * 5)).off + 4, none⟩ = some (.slice A103_4 ((rd_T79 l2 x7_2).f2).length c103_4) ∧ w'.cell? (ad103.add ((x7_2).toNat * 5)) = some (.int .i64 ((rd_T79 l2 x7_2).f0.f0)) ∧ w'.cell? ⟨(ad103.add ((x7_2).toNat * 5)).block, (ad103.add ((x7_2).toNat * 5)).off + 1, none⟩ = some (.int .i64 ((rd_T79 l2 x7_2).f0.f1)) ∧ w'.cell? ⟨(ad103.add ((x7_2).toNat * 5)).block, (ad103.add ((x7_2).toNat * 5)).off + 2, none⟩ = some (.int .i64 ((rd_T79 l2 x7_2).f1.f0)) ∧ w'.cell? ⟨(ad103.add ((x7_2).toNat * 5)).block, (ad103.add ((x7_2).toNat * 5)).off + 3, none⟩ = some (.int .i64 ((rd_T79 l2 x7_2).f1.f1)) ∧ w'.cell? ⟨(ad103.add ((x7_2).toNat * 5)).block, (ad103.add ((x7_2).toNat * 5)).off + 4, none⟩ = some (.slice A103_4 ((rd_T79 l2 x7_2).f2).length c103_4)) (ds := []) #[false, false, false, false, false, false, false, false, false, false, false, false, false, false, false, false, false, false, false, false, false, false, false, false, false, false] (by kernel_rfl) rfl rfl ⟨(zkc BK101.out 0).trans rfl, (zkc BK101.out 1).trans rfl, ((HB.out.cell (zwb w _ hw103_0)).trans hw103_0), ((HB.out.cell (zwb w _ hw103_1)).trans hw103_1), ((HB.out.cell (zwb w _ hw103_2)).trans hw103_2), ((HB.out.cell (zwb w _ hw103_3)).trans hw103_3), ((HB.out.cell (zwb w _ hw103_4)).trans hw103_4), ((HB.out.cell (zwb w _ hw105_0)).trans hw105_0), ((HB.out.cell (zwb w _ hw105_1)).trans hw105_1), ((HB.out.cell (zwb w _ hw105_2)).trans hw105_2), ((HB.out.cell (zwb w _ hw105_3)).trans hw105_3), ((HB.out.cell (zwb w _ hw105_4)).trans hw105_4), ((HB.out.cell (zwb w _ hw107_0)).trans hw107_0), ((HB.out.cell (zwb w _ hw107_1)).trans hw107_1), ((HB.out.cell (zwb w _ hw107_2)).trans hw107_2), ((HB.out.cell (zwb w _ hw107_3)).trans hw107_3), ((HB.out.cell (zwb w _ hw107_4)).trans hw107_4)⟩ (fun hHeld => ?_); refine with_tabW isobathref02_search.tab8 isobathref02_search.bits8 (fun HT_ HW_ => ?_)
         generalize wr.drew = w28 at BK101 HB HR103_4 HR105_4 HR107_4 hx103_0 hx103_1 hx103_2 hx103_3 hx103_4 hx105_0 hx105_1 hx105_2 hx105_3 hx105_4 hx107_0 hx107_1 hx107_2 hx107_3 hx107_4 hHeld ⊢
         refine pure_ (i := 0) (N := some 35) (v := ?_) (a' := ?_) #[true, false, false, false, false, false, false, false, false, false, false, false, false, false, false, false, false, false, false, false, false, false, false, false, false, false] rfl rfl (any_of HT_.out (by kernel_rfl)) (fun _ _ _ h => h) (Or.inl ⟨by rfl, ?_⟩) ?_ ?_
         rotate_left
         ·intro w'
          go_simp
          with_reducible rfl
         rotate_left
         ·simp only [Act.put, zsa, zsz, zss, i64_w, i32_w]
          rfl
         refine pure_ (i := 1) (N := some 36) (v := ?_) (a' := ?_) #[true, true, false, false, false, false, false, false, false, false, false, false, false, false, false, false, false, false, false, false, false, false, false, false, false, false] rfl rfl (any_of HT_.out (by kernel_rfl)) (fun _ _ _ h => h) (Or.inl ⟨by rfl, ?_⟩) ?_ ?_
         rotate_left
         ·intro w'
          go_simp
          with_reducible rfl
         rotate_left
         ·simp only [Act.put, zsa, zsz, zss, i64_w, i32_w]
          rfl
         refine pure_ (i := 2) (N := some 37) (v := ?_) (a' := ?_) #[true, true, true, false, false, false, false, false, false, false, false, false, false, false, false, false, false, false, false, false, false, false, false, false, false, false] rfl rfl (any_of HT_.out (by kernel_rfl)) (fun _ _ _ h => h) (Or.inl ⟨by rfl, ?_⟩) ?_ ?_
         rotate_left
         ·intro w'
          go_simp
          with_reducible rfl
         rotate_left
         ·simp only [Act.put, zsa, zsz, zss, i64_w, i32_w]
          rfl
         refine pure_ (i := 3) (N := some 38) (v := ?_) (a' := ?_) #[true, true, true, true, false, false, false, false, false, false, false, false, false, false, false, false, false, false, false, false, false, false, false, false, false, false] rfl rfl (any_of HT_.out (by kernel_rfl)) (fun _ _ _ h => h) (Or.inl ⟨by rfl, ?_⟩) ?_ ?_
         rotate_left
         ·intro w'
          go_simp
          with_reducible rfl
         rotate_left
         ·simp only [Act.put, zsa, zsz, zss, i64_w, i32_w]
          rfl
         refine take_ (i := 4) (N := some 39) (v := ?_) (a' := ?_) #[true, true, true, true, true, false, false, false, false, false, false, false, false, false, false, false, false, false, false, false, false, false, false, false, false, false] rfl rfl (take_ofW HT_.out HW_.out (by kernel_rfl)) (fun _ _ _ h => h) (Or.inl ⟨by rfl, ?_⟩) hHeld ?_ ?_
         rotate_left
         ·rintro w' ⟨s0, s1, s2, s3, s4, s5, s6, s7, s8, s9, s10, s11, s12, s13, s14, s15, s16⟩
          go_simp
          with_reducible rfl
         rotate_left
         ·simp only [Act.put, zsa, zsz, zss, i64_w, i32_w]
          rfl
         refine one_ (i := 5) (N := some 40) #[true, true, true, true, true, true, false, false, false, false, false, false, false, false, false, false, false, false, false, false, false, false, false, false, false, false] rfl rfl (one_of HT_.out (by kernel_rfl)) (by decide) (fun K hK => ?_)
         refine goes_ Try.func91 (by kernel_rfl) rfl #[.agg #[.int .i64 ((rd_T79 l2 x7_2).f0.f0), .int .i64 ((rd_T79 l2 x7_2).f0.f1)]] (by rfl) rfl rfl (by (try simp only [zmt, List.map_cons, List.map_nil]); first | done | rfl | (simp only [zld, zlt]; rfl)) ?_
         with_reducible refine (isobathref02_shift.calls ((rd_T79 l2 x7_2).f0.f0) ((rd_T79 l2 x7_2).f0.f1) true _ A18.out).mono ?_
         rintro e w29 ⟨rfl, hb⟩
         refine ⟨_, rfl, ?_⟩
         have n0_ := zam (zkb (g := gb101) (o := .cells #[.int .i64 a0_0, .int .i64 a0_1] 72 (0, 0)) (by (with_reducible repeat (first | refine zkn ?_ _ | refine zkd ?_ | refine zka ?_ _)); exact BK101.out) hb)
         have n1_ := zam (zbt (by repeat (first | (with_reducible first | exact HB.out | apply zba | apply zbn | apply zb1 | refine zbs ?_ GE101.out) | exact HB.out)) hb)
         clear BK101
         clear HB
         have BK101 := n0_
         have HB := n1_
         clear n0_ n1_
         (try clear hb)
         (try clear hb2)
         (try clear hk)
         (try clear hi)
         refine hK.out _ _ ⟨(zkc BK101.out 0).trans rfl, (zkc BK101.out 1).trans rfl, ((HB.out.cell (zwb w _ hw103_0)).trans hw103_0), ((HB.out.cell (zwb w _ hw103_1)).trans hw103_1), ((HB.out.cell (zwb w _ hw103_2)).trans hw103_2), ((HB.out.cell (zwb w _ hw103_3)).trans hw103_3), ((HB.out.cell (zwb w _ hw103_4)).trans hw103_4), ((HB.out.cell (zwb w _ hw105_0)).trans hw105_0), ((HB.out.cell (zwb w _ hw105_1)).trans hw105_1), ((HB.out.cell (zwb w _ hw105_2)).trans hw105_2), ((HB.out.cell (zwb w _ hw105_3)).trans hw105_3), ((HB.out.cell (zwb w _ hw105_4)).trans hw105_4), ((HB.out.cell (zwb w _ hw107_0)).trans hw107_0), ((HB.out.cell (zwb w _ hw107_1)).trans hw107_1), ((HB.out.cell (zwb w _ hw107_2)).trans hw107_2), ((HB.out.cell (zwb w _ hw107_3)).trans hw107_3), ((HB.out.cell (zwb w _ hw107_4)).trans hw107_4)⟩ (fun hHeld => ?_)
         clear hK K
         refine norm_ (a' := ?_) ?_ ?_
         rotate_left
         ·show Act.put _ (some 40) _ = _
          simp only [Act.put, zsa, zsz, zss, i64_w, i32_w]
          rfl
         refine pure_ (i := 6) (N := some 41) (v := ?_) (a' := ?_) #[true, true, true, true, true, true, true, false, false, false, false, false, false, false, false, false, false, false, false, false, false, false, false, false, false, false] rfl rfl (any_of HT_.out (by kernel_rfl)) (fun _ _ _ h => h) (Or.inl ⟨by rfl, ?_⟩) ?_ ?_
         rotate_left
         ·intro w'
          go_simp
          with_reducible rfl
         rotate_left
         ·simp only [Act.put, zsa, zsz, zss, i64_w, i32_w]
          rfl
         refine pure_ (i := 7) (N := some 42) (v := ?_) (a' := ?_) #[true, true, true, true, true, true, true, true, false, false, false, false, false, false, false, false, false, false, false, false, false, false, false, false, false, false] rfl rfl (any_of HT_.out (by kernel_rfl)) (fun _ _ _ h => h) (Or.inl ⟨by rfl, ?_⟩) ?_ ?_
         rotate_left
         ·intro w'
          go_simp
          with_reducible rfl
         rotate_left
         ·simp only [Act.put, zsa, zsz, zss, i64_w, i32_w]
          rfl
         refine pure_ (i := 8) (N := some 43) (v := ?_) (a' := ?_) #[true, true, true, true, true, true, true, true, true, false, false, false, false, false, false, false, false, false, false, false, false, false, false, false, false, false] rfl rfl (any_of HT_.out (by kernel_rfl)) (fun _ _ _ h => h) (Or.inl ⟨by rfl, ?_⟩) ?_ ?_
         rotate_left
         ·intro w'
          go_simp
          with_reducible rfl
         rotate_left
         ·simp only [Act.put, zsa, zsz, zss, i64_w, i32_w]
          rfl
         refine pure_ (i := 9) (N := some 44) (v := ?_) (a' := ?_) #[true, true, true, true, true, true, true, true, true, true, false, false, false, false, false, false, false, false, false, false, false, false, false, false, false, false] rfl rfl (any_of HT_.out (by kernel_rfl)) (fun _ _ _ h => h) (Or.inl ⟨by rfl, ?_⟩) ?_ ?_
         rotate_left
         ·intro w'
          go_simp
          with_reducible rfl
         rotate_left
         ·simp only [Act.put, zsa, zsz, zss, i64_w, i32_w]
          rfl
         refine pure_ (i := 10) (N := some 45) (v := ?_) (a' := ?_) #[true, true, true, true, true, true, true, true, true, true, true, false, false, false, false, false, false, false, false, false, false, false, false, false, false, false] rfl rfl (any_of HT_.out (by kernel_rfl)) (fun _ _ _ h => h) (Or.inl ⟨by rfl, ?_⟩) ?_ ?_
         rotate_left
         ·intro w'
          go_simp
          with_reducible rfl
         rotate_left
         ·simp only [Act.put, zsa, zsz, zss, i64_w, i32_w]
          rfl
         refine pure_ (i := 11) (N := some 46) (v := ?_) (a' := ?_) #[true, true, true, true, true, true, true, true, true, true, true, true, false, false, false, false, false, false, false, false, false, false, false, false, false, false] rfl rfl (any_of HT_.out (by kernel_rfl)) (fun _ _ _ h => h) (Or.inl ⟨by rfl, ?_⟩) ?_ ?_
         rotate_left
         ·intro w'
          go_simp
          with_reducible rfl
         rotate_left
         ·simp only [Act.put, zsa, zsz, zss, i64_w, i32_w]
          rfl
         refine take_ (i := 12) (N := some 47) (v := ?_) (a' := ?_) #[true, true, true, true, true, true, true, true, true, true, true, true, true, false, false, false, false, false, false, false, false, false, false, false, false, false] rfl rfl (take_ofW HT_.out HW_.out (by kernel_rfl)) (fun _ _ _ h => h) (Or.inl ⟨by rfl, ?_⟩) hHeld ?_ ?_
         rotate_left
         ·rintro w' ⟨s0, s1, s2, s3, s4, s5, s6, s7, s8, s9, s10, s11, s12, s13, s14, s15, s16⟩
          go_simp
          with_reducible rfl
         rotate_left
         ·simp only [Act.put, zsa, zsz, zss, i64_w, i32_w]
          rfl
         refine one_ (i := 13) (N := some 48) #[true, true, true, true, true, true, true, true, true, true, true, true, true, true, false, false, false, false, false, false, false, false, false, false, false, false] rfl rfl (one_of HT_.out (by kernel_rfl)) (by decide) (fun K hK => ?_)
         refine goes_ Try.func91 (by kernel_rfl) rfl #[.agg #[.int .i64 ((rd_T79 l2 x7_2).f1.f0), .int .i64 ((rd_T79 l2 x7_2).f1.f1)]] (by rfl) rfl rfl (by (try simp only [zmt, List.map_cons, List.map_nil]); first | done | rfl | (simp only [zld, zlt]; rfl)) ?_
         with_reducible refine (isobathref02_shift.calls ((rd_T79 l2 x7_2).f1.f0) ((rd_T79 l2 x7_2).f1.f1) true _ A20.out).mono ?_
         rintro e w30 ⟨rfl, hb⟩
         refine ⟨_, rfl, ?_⟩
         have n0_ := zam (zkb (g := gb101) (o := .cells #[.int .i64 a0_0, .int .i64 a0_1] 72 (0, 0)) (by (with_reducible repeat (first | refine zkn ?_ _ | refine zkd ?_ | refine zka ?_ _)); exact BK101.out) hb)
         have n1_ := zam (zbt (by repeat (first | (with_reducible first | exact HB.out | apply zba | apply zbn | apply zb1 | refine zbs ?_ GE101.out) | exact HB.out)) hb)
         clear BK101
         clear HB
         have BK101 := n0_
         have HB := n1_
         clear n0_ n1_
         (try clear hb)
         (try clear hb2)
         (try clear hk)
         (try clear hi)
         refine hK.out _ _ ⟨(zkc BK101.out 0).trans rfl, (zkc BK101.out 1).trans rfl, ((HB.out.cell (zwb w _ hw103_0)).trans hw103_0), ((HB.out.cell (zwb w _ hw103_1)).trans hw103_1), ((HB.out.cell (zwb w _ hw103_2)).trans hw103_2), ((HB.out.cell (zwb w _ hw103_3)).trans hw103_3), ((HB.out.cell (zwb w _ hw103_4)).trans hw103_4), ((HB.out.cell (zwb w _ hw105_0)).trans hw105_0), ((HB.out.cell (zwb w _ hw105_1)).trans hw105_1), ((HB.out.cell (zwb w _ hw105_2)).trans hw105_2), ((HB.out.cell (zwb w _ hw105_3)).trans hw105_3), ((HB.out.cell (zwb w _ hw105_4)).trans hw105_4), ((HB.out.cell (zwb w _ hw107_0)).trans hw107_0), ((HB.out.cell (zwb w _ hw107_1)).trans hw107_1), ((HB.out.cell (zwb w _ hw107_2)).trans hw107_2), ((HB.out.cell (zwb w _ hw107_3)).trans hw107_3), ((HB.out.cell (zwb w _ hw107_4)).trans hw107_4)⟩ (fun hHeld => ?_)
         clear hK K
         refine norm_ (a' := ?_) ?_ ?_
         rotate_left
         ·show Act.put _ (some 48) _ = _
          simp only [Act.put, zsa, zsz, zss, i64_w, i32_w]
          rfl
         refine pure_ (i := 14) (N := some 49) (v := ?_) (a' := ?_) #[true, true, true, true, true, true, true, true, true, true, true, true, true, true, true, false, false, false, false, false, false, false, false, false, false, false] rfl rfl (any_of HT_.out (by kernel_rfl)) (fun _ _ _ h => h) (Or.inl ⟨by rfl, ?_⟩) ?_ ?_
         rotate_left
         ·intro w'
          go_simp
          with_reducible rfl
         rotate_left
         ·simp only [Act.put, zsa, zsz, zss, i64_w, i32_w]
          rfl
         refine pure_ (i := 15) (N := some 50) (v := ?_) (a' := ?_) #[true, true, true, true, true, true, true, true, true, true, true, true, true, true, true, true, false, false, false, false, false, false, false, false, false, false] rfl rfl (any_of HT_.out (by kernel_rfl)) (fun _ _ _ h => h) (Or.inl ⟨by rfl, ?_⟩) ?_ ?_
         rotate_left
         ·intro w'
          go_simp
          with_reducible rfl
         rotate_left
         ·simp only [Act.put, zsa, zsz, zss, i64_w, i32_w]
          rfl
         refine pure_ (i := 16) (N := some 51) (v := ?_) (a' := ?_) #[true, true, true, true, true, true, true, true, true, true, true, true, true, true, true, true, true, false, false, false, false, false, false, false, false, false] rfl rfl (any_of HT_.out (by kernel_rfl)) (fun _ _ _ h => h) (Or.inl ⟨by rfl, ?_⟩) ?_ ?_
         rotate_left
         ·intro w'
          go_simp
          with_reducible rfl
         rotate_left
         ·simp only [Act.put, zsa, zsz, zss, i64_w, i32_w]
          rfl
         refine pure_ (i := 18) (N := some 53) (v := ?_) (a' := ?_) #[true, true, true, true, true, true, true, true, true, true, true, true, true, true, true, true, true, false, true, false, false, false, false, false, false, false] rfl rfl (any_of HT_.out (by kernel_rfl)) (fun _ _ _ h => h) (Or.inl ⟨by rfl, ?_⟩) ?_ ?_
         rotate_left
         ·intro w'
          go_simp
          with_reducible rfl
         rotate_left
         ·simp only [Act.put, zsa, zsz, zss, i64_w, i32_w]
          rfl
         refine pure_ (i := 19) (N := some 54) (v := ?_) (a' := ?_) #[true, true, true, true, true, true, true, true, true, true, true, true, true, true, true, true, true, false, true, true, false, false, false, false, false, false] rfl rfl (any_of HT_.out (by kernel_rfl)) (fun _ _ _ h => h) (Or.inl ⟨by rfl, ?_⟩) ?_ ?_
         rotate_left
         ·intro w'
          go_simp
          with_reducible rfl
         rotate_left
         ·simp only [Act.put, zsa, zsz, zss, i64_w, i32_w]
          rfl
         refine pure_ (i := 20) (N := some 55) (v := ?_) (a' := ?_) #[true, true, true, true, true, true, true, true, true, true, true, true, true, true, true, true, true, false, true, true, true, false, false, false, false, false] rfl rfl (any_of HT_.out (by kernel_rfl)) (fun _ _ _ h => h) (Or.inl ⟨by rfl, ?_⟩) ?_ ?_
         rotate_left
         ·intro w'
          go_simp
          with_reducible rfl
         rotate_left
         ·simp only [Act.put, zsa, zsz, zss, i64_w, i32_w]
          rfl
         refine pure_ (i := 21) (N := some 56) (v := ?_) (a' := ?_) #[true, true, true, true, true, true, true, true, true, true, true, true, true, true, true, true, true, false, true, true, true, true, false, false, false, false] rfl rfl (any_of HT_.out (by kernel_rfl)) (fun _ _ _ h => h) (Or.inl ⟨by rfl, ?_⟩) ?_ ?_
         rotate_left
         ·intro w'
          go_simp
          with_reducible rfl
         rotate_left
         ·simp only [Act.put, zsa, zsz, zss, i64_w, i32_w]
          rfl
         refine take_ (i := 17) (N := some 52) (v := ?_) (a' := ?_) #[true, true, true, true, true, true, true, true, true, true, true, true, true, true, true, true, true, true, true, true, true, true, false, false, false, false] rfl rfl (take_ofW HT_.out HW_.out (by kernel_rfl)) (fun _ _ _ h => h) (Or.inl ⟨by rfl, ?_⟩) hHeld ?_ ?_
         rotate_left
         ·rintro w' ⟨s0, s1, s2, s3, s4, s5, s6, s7, s8, s9, s10, s11, s12, s13, s14, s15, s16⟩
          go_simp
          with_reducible rfl
         rotate_left
         ·simp only [Act.put, zsa, zsz, zss, i64_w, i32_w]
          rfl
         refine take_ (i := 22) (N := some 57) (v := ?_) (a' := ?_) #[true, true, true, true, true, true, true, true, true, true, true, true, true, true, true, true, true, true, true, true, true, true, true, false, false, false] rfl rfl (take_ofW HT_.out HW_.out (by kernel_rfl)) (fun _ _ _ h => h) (Or.inl ⟨by rfl, ?_⟩) hHeld ?_ ?_
         rotate_left
         ·rintro w' ⟨s0, s1, s2, s3, s4, s5, s6, s7, s8, s9, s10, s11, s12, s13, s14, s15, s16⟩
          go_simp
          with_reducible rfl
         rotate_left
         ·simp only [Act.put, zsa, zsz, zss, i64_w, i32_w]
          rfl
         refine one_ (i := 23) (N := some 58) #[true, true, true, true, true, true, true, true, true, true, true, true, true, true, true, true, true, true, true, true, true, true, true, true, false, false] rfl rfl (one_of HT_.out (by kernel_rfl)) (by decide) (fun K hK => ?_)
         refine goes_ Try.func92 (by kernel_rfl) rfl #[.agg #[.int .i64 a0_0, .int .i64 a0_1], .slice A103_4 ((rd_T79 l2 x7_2).f2).length c103_4] (by rfl) rfl rfl (by (try simp only [zmt, List.map_cons, List.map_nil]); first | done | rfl | (simp only [zld, zlt]; rfl)) ?_
         with_reducible refine (isobathref02_cells.calls k2 a0_0 a0_1 _ _ ((rd_T79 l2 x7_2).f2) false _ ?side1 ?side2 A22.out).mono ?_
         (case side1 => repeat (first | exact (Kd.C_below HR107_4.out HB.out) | (with_reducible refine Kd.C_alloc ?_ _) | (with_reducible refine Kd.C_drewN ?_ _) | (with_reducible refine Kd.C_drew ?_)))
         (case side2 => exact HC107_4.out)
         rintro e w31 ⟨rfl, hb⟩
         refine ⟨_, rfl, ?_⟩
         have n0_ := zam (zkb (g := gb101) (o := .cells #[.int .i64 a0_0, .int .i64 a0_1] 72 (0, 0)) (by (with_reducible repeat (first | refine zkn ?_ _ | refine zkd ?_ | refine zka ?_ _)); exact BK101.out) hb)
         have n1_ := zam (zbt (by repeat (first | (with_reducible first | exact HB.out | apply zba | apply zbn | apply zb1 | refine zbs ?_ GE101.out) | exact HB.out)) hb)
         clear BK101
         clear HB
         have BK101 := n0_
         have HB := n1_
         clear n0_ n1_
         (try clear hb)
         (try clear hb2)
         (try clear hk)
         (try clear hi)
         refine hK.out _ _ ⟨(zkc BK101.out 0).trans rfl, (zkc BK101.out 1).trans rfl, ((HB.out.cell (zwb w _ hw103_0)).trans hw103_0), ((HB.out.cell (zwb w _ hw103_1)).trans hw103_1), ((HB.out.cell (zwb w _ hw103_2)).trans hw103_2), ((HB.out.cell (zwb w _ hw103_3)).trans hw103_3), ((HB.out.cell (zwb w _ hw103_4)).trans hw103_4), ((HB.out.cell (zwb w _ hw105_0)).trans hw105_0), ((HB.out.cell (zwb w _ hw105_1)).trans hw105_1), ((HB.out.cell (zwb w _ hw105_2)).trans hw105_2), ((HB.out.cell (zwb w _ hw105_3)).trans hw105_3), ((HB.out.cell (zwb w _ hw105_4)).trans hw105_4), ((HB.out.cell (zwb w _ hw107_0)).trans hw107_0), ((HB.out.cell (zwb w _ hw107_1)).trans hw107_1), ((HB.out.cell (zwb w _ hw107_2)).trans hw107_2), ((HB.out.cell (zwb w _ hw107_3)).trans hw107_3), ((HB.out.cell (zwb w _ hw107_4)).trans hw107_4)⟩ (fun hHeld => ?_)
         clear hK K
         refine norm_ (a' := ?_) ?_ ?_
         rotate_left
         ·show Act.put _ (some 58) _ = _
          simp only [Act.put, zsa, zsz, zss, i64_w, i32_w]
          rfl
         refine pure_ (i := 24) (N := some 59) (v := ?_) (a' := ?_) #[true, true, true, true, true, true, true, true, true, true, true, true, true, true, true, true, true, true, true, true, true, true, true, true, true, false] rfl rfl (any_of HT_.out (by kernel_rfl)) (fun _ _ _ h => h) (Or.inl ⟨by rfl, ?_⟩) ?_ ?_
         rotate_left
         ·intro w'
          go_simp
          with_reducible rfl
         rotate_left
         ·simp only [Act.put, zsa, zsz, zss, i64_w, i32_w]
          rfl
         refine pure_ (i := 25) (N := some 60) (v := ?_) (a' := ?_) #[true, true, true, true, true, true, true, true, true, true, true, true, true, true, true, true, true, true, true, true, true, true, true, true, true, true] rfl rfl (any_of HT_.out (by kernel_rfl)) (fun _ _ _ h => h) (Or.inl ⟨by rfl, ?_⟩) ?_ ?_
         rotate_left
         ·intro w'
          go_simp
          with_reducible rfl
         rotate_left
         ·simp only [Act.put, zsa, zsz, zss, i64_w, i32_w]
          rfl
         refine done_ (done_of HT_.out (by kernel_rfl)) ?_
         try go_wp2
         go_ret
         exact ⟨by first | rfl | (simp [errW_none, errW_some] <;> rfl) | (simp [*, errW_none, errW_some] <;> rfl), by repeat (first | (with_reducible first | exact HB.out | apply zba | apply zbn | apply zb1 | refine zbs ?_ GE101.out) | exact HB.out)⟩
        replace c21 := Bool.eq_false_iff.mpr c21
        subst c21
        have H1 : (some 2) = some r := by rw [if_neg (show ¬ (false = true) by decide)] at H; exact H
        clear H
        have H := H1
        clear H1
        obtain rfl := zsi H
        try go_wp2
        have n0_ := zam (zkd BK101.out)
        have n1_ := zam (zb1 HB.out)
        clear BK101
        clear HB
        have BK101 := n0_
        have HB := n1_
        clear n0_ n1_
        have p103 : 0 ≤ (x7_2 : Int) := zod (by first | (with_reducible assumption) | assumption)
        have q103 : x7_2 < (l2.length : Int) := zod (by first | (with_reducible assumption) | assumption)
        obtain ⟨ad103, A103_4, c103_4, e103, hx103_0, hx103_1, hx103_2, hx103_3, hx103_4, hl103_4, hi103_4⟩ := at_T79 HR2.out x7_2 p103 q103
        have hw103_4 := hx103_4
        have hw103_3 := hx103_3
        have hw103_2 := hx103_2
        have hw103_1 := hx103_1
        have hw103_0 := hx103_0
        cases e103
        replace hx103_0 := (HB.out.cell (zwb w _ hx103_0)).trans hx103_0
        replace hx103_1 := (HB.out.cell (zwb w _ hx103_1)).trans hx103_1
        replace hx103_2 := (HB.out.cell (zwb w _ hx103_2)).trans hx103_2
        replace hx103_3 := (HB.out.cell (zwb w _ hx103_3)).trans hx103_3
        replace hx103_4 := (HB.out.cell (zwb w _ hx103_4)).trans hx103_4
        have HR103_4 := zam hi103_4
        have HC103_4 := zam hl103_4
        clear hi103_4 hl103_4
        replace p103 := eq_true p103
        replace q103 := eq_true q103
        have p105 : 0 ≤ (x7_2 : Int) := zod (by first | (with_reducible assumption) | assumption)
        have q105 : x7_2 < (l2.length : Int) := zod (by first | (with_reducible assumption) | assumption)
        obtain ⟨ad105, A105_4, c105_4, e105, hx105_0, hx105_1, hx105_2, hx105_3, hx105_4, hl105_4, hi105_4⟩ := at_T79 HR2.out x7_2 p105 q105
        have hw105_4 := hx105_4
        have hw105_3 := hx105_3
        have hw105_2 := hx105_2
        have hw105_1 := hx105_1
        have hw105_0 := hx105_0
        obtain rfl : ad103 = ad105 := (by injection e105)
        obtain ⟨rfl, rfl⟩ : A103_4 = A105_4 ∧ c103_4 = c105_4 := (by have h_ := zsi (hw103_4.symm.trans hx105_4); injection h_ with a_ b_ c_; exact ⟨a_, c_⟩)
        replace hx105_0 := (HB.out.cell (zwb w _ hx105_0)).trans hx105_0
        replace hx105_1 := (HB.out.cell (zwb w _ hx105_1)).trans hx105_1
        replace hx105_2 := (HB.out.cell (zwb w _ hx105_2)).trans hx105_2
        replace hx105_3 := (HB.out.cell (zwb w _ hx105_3)).trans hx105_3
        replace hx105_4 := (HB.out.cell (zwb w _ hx105_4)).trans hx105_4
        have HR105_4 := zam hi105_4
        have HC105_4 := zam hl105_4
        clear hi105_4 hl105_4
        replace p105 := eq_true p105
        replace q105 := eq_true q105
        refine start_ (n := 26) (S := fun w' => w'.cell? (ad103.add ((x7_2).toNat * 5)) = some (.int .i64 ((rd_T79 l2 x7_2).f0.f0)) ∧ w'.cell? ⟨(ad103.add ((x7_2).toNat * 5)).block, (ad103.add ((x7_2).toNat * 5)).off + 1, none⟩ = some (.int .i64 ((rd_T79 l2 x7_2).f0.f1)) ∧ w'.cell? ⟨(ad103.add ((x7_2).toNat * 5)).block, (ad103.add ((x7_2).toNat * 5)).off + 2, none⟩ = some (.int .i64 ((rd_T79 l2 x7_2).f1.f0)) ∧ w'.cell? ⟨(ad103.add ((x7_2).toNat * 5)).block, (ad103.add ((x7_2).toNat * 5)).off + 3, none⟩ = some (.int .i64 ((rd_T79 l2 x7_2).f1.f1)) ∧ w'.cell? ⟨(ad103.add ((x7_2).toNat * 5)).block, (ad103.add ((x7_2).toNat * 5)).off + 4, none⟩ = some (.slice A103_4 ((rd_T79 l2 x7_2).f2).length c103_4) ∧ w'.cell? (ad103.add ((x7_2).toNat * 5)) = some (.int .i64 ((rd_T79 l2 x7_2).f0.f0)) ∧ w'.cell? ⟨(ad103.add ((x7_2).toNat * 5)).block, (ad103.add ((x7_2).toNat * 5)).off + 1, none⟩ = some (.int .i64 ((rd_T79 l2 x7_2).f0.f1)) ∧ w'.cell? ⟨(ad103.add ((x7_2).toNat * 5)).block, (ad103.add ((x7_2).toNat * 5)).off + 2, none⟩ = some (.int .i64 ((rd_T79 l2 x7_2).f1.f0)) ∧ w'.cell? ⟨(ad103.add ((x7_2).toNat * 5)).block, (ad103.add ((x7_2).toNat * 5)).off + 3, none⟩ = some (.int .i64 ((rd_T79 l2 x7_2).f1.f1)) ∧ w'.cell? ⟨(ad103.add ((x7_2).toNat * 5)).block, (ad103.add ((x7_2).toNat * 5)).off + 4, none⟩ = some (.slice A103_4 ((rd_T79 l2 x7_2).f2).length c103_4)) (ds := []) #[false, false, false, false, false, false, false, false, false, false, false, false, false, false, false, false, false, false, false, false, false, false, false, false, false, false] (by kernel_rfl) rfl rfl ⟨((HB.out.cell (zwb w _ hw103_0)).trans hw103_0), ((HB.out.cell (zwb w _ hw103_1)).trans hw103_1), ((HB.out.cell (zwb w _ hw103_2)).trans hw103_2), ((HB.out.cell (zwb w _ hw103_3)).trans hw103_3), ((HB.out.cell (zwb w _ hw103_4)).trans hw103_4), ((HB.out.cell (zwb w _ hw105_0)).trans hw105_0), ((HB.out.cell (zwb w _ hw105_1)).trans hw105_1), ((HB.out.cell (zwb w _ hw105_2)).trans hw105_2), ((HB.out.cell (zwb w _ hw105_3)).trans hw105_3), ((HB.out.cell (zwb w _ hw105_4)).trans hw105_4)⟩ (fun hHeld => ?_); refine with_tabW isobathref02_search.tab8 isobathref02_search.bits8 (fun HT_ HW_ => ?_)
        generalize wr.drew = w32 at BK101 HB HR103_4 HR105_4 hx103_0 hx103_1 hx103_2 hx103_3 hx103_4 hx105_0 hx105_1 hx105_2 hx105_3 hx105_4 hHeld ⊢
        refine pure_ (i := 0) (N := some 35) (v := ?_) (a' := ?_) #[true, false, false, false, false, false, false, false, false, false, false, false, false, false, false, false, false, false, false, false, false, false, false, false, false, false] rfl rfl (any_of HT_.out (by kernel_rfl)) (fun _ _ _ h => h) (Or.inl ⟨by rfl, ?_⟩) ?_ ?_
        rotate_left
        ·intro w'
         go_simp
         with_reducible rfl
        rotate_left
        ·simp only [Act.put, zsa, zsz, zss, i64_w, i32_w]
         rfl
        refine pure_ (i := 1) (N := some 36) (v := ?_) (a' := ?_) #[true, true, false, false, false, false, false, false, false, false, false, false, false, false, false, false, false, false, false, false, false, false, false, false, false, false] rfl rfl (any_of HT_.out (by kernel_rfl)) (fun _ _ _ h => h) (Or.inl ⟨by rfl, ?_⟩) ?_ ?_
        rotate_left
        ·intro w'
         go_simp
         with_reducible rfl
        rotate_left
        ·simp only [Act.put, zsa, zsz, zss, i64_w, i32_w]
         rfl
        refine pure_ (i := 2) (N := some 37) (v := ?_) (a' := ?_) #[true, true, true, false, false, false, false, false, false, false, false, false, false, false, false, false, false, false, false, false, false, false, false, false, false, false] rfl rfl (any_of HT_.out (by kernel_rfl)) (fun _ _ _ h => h) (Or.inl ⟨by rfl, ?_⟩) ?_ ?_
        rotate_left
        ·intro w'
         go_simp
         with_reducible rfl
        rotate_left
        ·simp only [Act.put, zsa, zsz, zss, i64_w, i32_w]
         rfl
        refine pure_ (i := 3) (N := some 38) (v := ?_) (a' := ?_) #[true, true, true, true, false, false, false, false, false, false, false, false, false, false, false, false, false, false, false, false, false, false, false, false, false, false] rfl rfl (any_of HT_.out (by kernel_rfl)) (fun _ _ _ h => h) (Or.inl ⟨by rfl, ?_⟩) ?_ ?_
        rotate_left
        ·intro w'
         go_simp
         with_reducible rfl
        rotate_left
        ·simp only [Act.put, zsa, zsz, zss, i64_w, i32_w]
         rfl
        refine take_ (i := 4) (N := some 39) (v := ?_) (a' := ?_) #[true, true, true, true, true, false, false, false, false, false, false, false, false, false, false, false, false, false, false, false, false, false, false, false, false, false] rfl rfl (take_ofW HT_.out HW_.out (by kernel_rfl)) (fun _ _ _ h => h) (Or.inl ⟨by rfl, ?_⟩) hHeld ?_ ?_
        rotate_left
        ·rintro w' ⟨s0, s1, s2, s3, s4, s5, s6, s7, s8, s9⟩
         go_simp
         with_reducible rfl
        rotate_left
        ·simp only [Act.put, zsa, zsz, zss, i64_w, i32_w]
         rfl
        refine one_ (i := 5) (N := some 40) #[true, true, true, true, true, true, false, false, false, false, false, false, false, false, false, false, false, false, false, false, false, false, false, false, false, false] rfl rfl (one_of HT_.out (by kernel_rfl)) (by decide) (fun K hK => ?_)
        refine goes_ Try.func91 (by kernel_rfl) rfl #[.agg #[.int .i64 ((rd_T79 l2 x7_2).f0.f0), .int .i64 ((rd_T79 l2 x7_2).f0.f1)]] (by rfl) rfl rfl (by (try simp only [zmt, List.map_cons, List.map_nil]); first | done | rfl | (simp only [zld, zlt]; rfl)) ?_
        with_reducible refine (isobathref02_shift.calls ((rd_T79 l2 x7_2).f0.f0) ((rd_T79 l2 x7_2).f0.f1) true _ A18.out).mono ?_
        rintro e w33 ⟨rfl, hb⟩
        refine ⟨_, rfl, ?_⟩
        have n0_ := zam (zkb (g := gb101) (o := .cells #[.int .i64 a0_0, .int .i64 a0_1] 72 (0, 0)) (by (with_reducible repeat (first | refine zkn ?_ _ | refine zkd ?_ | refine zka ?_ _)); exact BK101.out) hb)
        have n1_ := zam (zbt (by repeat (first | (with_reducible first | exact HB.out | apply zba | apply zbn | apply zb1 | refine zbs ?_ GE101.out) | exact HB.out)) hb)
        clear BK101
        clear HB
        have BK101 := n0_
        have HB := n1_
        clear n0_ n1_
        (try clear hb)
        (try clear hb2)
        (try clear hk)
        (try clear hi)
        refine hK.out _ _ ⟨((HB.out.cell (zwb w _ hw103_0)).trans hw103_0), ((HB.out.cell (zwb w _ hw103_1)).trans hw103_1), ((HB.out.cell (zwb w _ hw103_2)).trans hw103_2), ((HB.out.cell (zwb w _ hw103_3)).trans hw103_3), ((HB.out.cell (zwb w _ hw103_4)).trans hw103_4), ((HB.out.cell (zwb w _ hw105_0)).trans hw105_0), ((HB.out.cell (zwb w _ hw105_1)).trans hw105_1), ((HB.out.cell (zwb w _ hw105_2)).trans hw105_2), ((HB.out.cell (zwb w _ hw105_3)).trans hw105_3), ((HB.out.cell (zwb w _ hw105_4)).trans hw105_4)⟩ (fun hHeld => ?_)
        clear hK K
        refine norm_ (a' := ?_) ?_ ?_
        rotate_left
        ·show Act.put _ (some 40) _ = _
         simp only [Act.put, zsa, zsz, zss, i64_w, i32_w]
         rfl
        refine pure_ (i := 6) (N := some 41) (v := ?_) (a' := ?_) #[true, true, true, true, true, true, true, false, false, false, false, false, false, false, false, false, false, false, false, false, false, false, false, false, false, false] rfl rfl (any_of HT_.out (by kernel_rfl)) (fun _ _ _ h => h) (Or.inl ⟨by rfl, ?_⟩) ?_ ?_
        rotate_left
        ·intro w'
         go_simp
         with_reducible rfl
        rotate_left
        ·simp only [Act.put, zsa, zsz, zss, i64_w, i32_w]
         rfl
        refine pure_ (i := 7) (N := some 42) (v := ?_) (a' := ?_) #[true, true, true, true, true, true, true, true, false, false, false, false, false, false, false, false, false, false, false, false, false, false, false, false, false, false] rfl rfl (any_of HT_.out (by kernel_rfl)) (fun _ _ _ h => h) (Or.inl ⟨by rfl, ?_⟩) ?_ ?_
        rotate_left
        ·intro w'
         go_simp
         with_reducible rfl
        rotate_left
        ·simp only [Act.put, zsa, zsz, zss, i64_w, i32_w]
         rfl
        refine pure_ (i := 8) (N := some 43) (v := ?_) (a' := ?_) #[true, true, true, true, true, true, true, true, true, false, false, false, false, false, false, false, false, false, false, false, false, false, false, false, false, false] rfl rfl (any_of HT_.out (by kernel_rfl)) (fun _ _ _ h => h) (Or.inl ⟨by rfl, ?_⟩) ?_ ?_
        rotate_left
        ·intro w'
         go_simp
         with_reducible rfl
        rotate_left
        ·simp only [Act.put, zsa, zsz, zss, i64_w, i32_w]
         rfl
        refine pure_ (i := 9) (N := some 44) (v := ?_) (a' := ?_) #[true, true, true, true, true, true, true, true, true, true, false, false, false, false, false, false, false, false, false, false, false, false, false, false, false, false] rfl rfl (any_of HT_.out (by kernel_rfl)) (fun _ _ _ h => h) (Or.inl ⟨by rfl, ?_⟩) ?_ ?_
        rotate_left
        ·intro w'
         go_simp
         with_reducible rfl
        rotate_left
        ·simp only [Act.put, zsa, zsz, zss, i64_w, i32_w]
         rfl
        refine pure_ (i := 10) (N := some 45) (v := ?_) (a' := ?_) #[true, true, true, true, true, true, true, true, true, true, true, false, false, false, false, false, false, false, false, false, false, false, false, false, false, false] rfl rfl (any_of HT_.out (by kernel_rfl)) (fun _ _ _ h => h) (Or.inl ⟨by rfl, ?_⟩) ?_ ?_
        rotate_left
        ·intro w'
         go_simp
         with_reducible rfl
        rotate_left
        ·simp only [Act.put, zsa, zsz, zss, i64_w, i32_w]
         rfl
        refine pure_ (i := 11) (N := some 46) (v := ?_) (a' := ?_) #[true, true, true, true, true, true, true, true, true, true, true, true, false, false, false, false, false, false, false, false, false, false, false, false, false, false] rfl rfl (any_of HT_.out (by kernel_rfl)) (fun _ _ _ h => h) (Or.inl ⟨by rfl, ?_⟩) ?_ ?_
        rotate_left
        ·intro w'
         go_simp
         with_reducible rfl
        rotate_left
        ·simp only [Act.put, zsa, zsz, zss, i64_w, i32_w]
         rfl
        refine take_ (i := 12) (N := some 47) (v := ?_) (a' := ?_) #[true, true, true, true, true, true, true, true, true, true, true, true, true, false, false, false, false, false, false, false, false, false, false, false, false, false] rfl rfl (take_ofW HT_.out HW_.out (by kernel_rfl)) (fun _ _ _ h => h) (Or.inl ⟨by rfl, ?_⟩) hHeld ?_ ?_
        rotate_left
        ·rintro w' ⟨s0, s1, s2, s3, s4, s5, s6, s7, s8, s9⟩
         go_simp
         with_reducible rfl
        rotate_left
        ·simp only [Act.put, zsa, zsz, zss, i64_w, i32_w]
         rfl
        refine one_ (i := 13) (N := some 48) #[true, true, true, true, true, true, true, true, true, true, true, true, true, true, false, false, false, false, false, false, false, false, false, false, false, false] rfl rfl (one_of HT_.out (by kernel_rfl)) (by decide) (fun K hK => ?_)
        refine goes_ Try.func91 (by kernel_rfl) rfl #[.agg #[.int .i64 ((rd_T79 l2 x7_2).f1.f0), .int .i64 ((rd_T79 l2 x7_2).f1.f1)]] (by rfl) rfl rfl (by (try simp only [zmt, List.map_cons, List.map_nil]); first | done | rfl | (simp only [zld, zlt]; rfl)) ?_
        with_reducible refine (isobathref02_shift.calls ((rd_T79 l2 x7_2).f1.f0) ((rd_T79 l2 x7_2).f1.f1) false _ A20.out).mono ?_
        rintro e w34 ⟨rfl, hb⟩
        refine ⟨_, rfl, ?_⟩
        have n0_ := zam (zkb (g := gb101) (o := .cells #[.int .i64 a0_0, .int .i64 a0_1] 72 (0, 0)) (by (with_reducible repeat (first | refine zkn ?_ _ | refine zkd ?_ | refine zka ?_ _)); exact BK101.out) hb)
        have n1_ := zam (zbt (by repeat (first | (with_reducible first | exact HB.out | apply zba | apply zbn | apply zb1 | refine zbs ?_ GE101.out) | exact HB.out)) hb)
        clear BK101
        clear HB
        have BK101 := n0_
        have HB := n1_
        clear n0_ n1_
        (try clear hb)
        (try clear hb2)
        (try clear hk)
        (try clear hi)
        refine hK.out _ _ ⟨((HB.out.cell (zwb w _ hw103_0)).trans hw103_0), ((HB.out.cell (zwb w _ hw103_1)).trans hw103_1), ((HB.out.cell (zwb w _ hw103_2)).trans hw103_2), ((HB.out.cell (zwb w _ hw103_3)).trans hw103_3), ((HB.out.cell (zwb w _ hw103_4)).trans hw103_4), ((HB.out.cell (zwb w _ hw105_0)).trans hw105_0), ((HB.out.cell (zwb w _ hw105_1)).trans hw105_1), ((HB.out.cell (zwb w _ hw105_2)).trans hw105_2), ((HB.out.cell (zwb w _ hw105_3)).trans hw105_3), ((HB.out.cell (zwb w _ hw105_4)).trans hw105_4)⟩ (fun hHeld => ?_)
        clear hK K
        refine norm_ (a' := ?_) ?_ ?_
        rotate_left
        ·show Act.put _ (some 48) _ = _
         simp only [Act.put, zsa, zsz, zss, i64_w, i32_w]
         rfl
        refine pure_ (i := 14) (N := some 49) (v := ?_) (a' := ?_) #[true, true, true, true, true, true, true, true, true, true, true, true, true, true, true, false, false, false, false, false, false, false, false, false, false, false] rfl rfl (any_of HT_.out (by kernel_rfl)) (fun _ _ _ h => h) (Or.inl ⟨by rfl, ?_⟩) ?_ ?_
        rotate_left
        ·intro w'
         go_simp
         with_reducible rfl
        rotate_left
        ·simp only [Act.put, zsa, zsz, zss, i64_w, i32_w]
         rfl
        refine pure_ (i := 15) (N := some 50) (v := ?_) (a' := ?_) #[true, true, true, true, true, true, true, true, true, true, true, true, true, true, true, true, false, false, false, false, false, false, false, false, false, false] rfl rfl (any_of HT_.out (by kernel_rfl)) (fun _ _ _ h => h) (Or.inl ⟨by rfl, ?_⟩) ?_ ?_
        rotate_left
        ·intro w'
         go_simp
         with_reducible rfl
        rotate_left
        ·simp only [Act.put, zsa, zsz, zss, i64_w, i32_w]
         rfl
        refine pure_ (i := 16) (N := some 51) (v := ?_) (a' := ?_) #[true, true, true, true, true, true, true, true, true, true, true, true, true, true, true, true, true, false, false, false, false, false, false, false, false, false] rfl rfl (any_of HT_.out (by kernel_rfl)) (fun _ _ _ h => h) (Or.inl ⟨by rfl, ?_⟩) ?_ ?_
        rotate_left
        ·intro w'
         go_simp
         with_reducible rfl
        rotate_left
        ·simp only [Act.put, zsa, zsz, zss, i64_w, i32_w]
         rfl
        refine pure_ (i := 17) (N := some 52) (v := undef) (a' := ?_) #[true, true, true, true, true, true, true, true, true, true, true, true, true, true, true, true, true, true, false, false, false, false, false, false, false, false] rfl rfl (any_of HT_.out (by kernel_rfl)) (fun _ _ _ h => h) (Or.inr ⟨by rfl, rfl⟩) ?_ ?_
        rotate_left
        ·simp only [Act.put, zsa, zsz, zss, i64_w, i32_w]
         rfl
        refine pure_ (i := 18) (N := some 53) (v := undef) (a' := ?_) #[true, true, true, true, true, true, true, true, true, true, true, true, true, true, true, true, true, true, true, false, false, false, false, false, false, false] rfl rfl (any_of HT_.out (by kernel_rfl)) (fun _ _ _ h => h) (Or.inr ⟨by rfl, rfl⟩) ?_ ?_
        rotate_left
        ·simp only [Act.put, zsa, zsz, zss, i64_w, i32_w]
         rfl
        refine pure_ (i := 19) (N := some 54) (v := undef) (a' := ?_) #[true, true, true, true, true, true, true, true, true, true, true, true, true, true, true, true, true, true, true, true, false, false, false, false, false, false] rfl rfl (any_of HT_.out (by kernel_rfl)) (fun _ _ _ h => h) (Or.inr ⟨by rfl, rfl⟩) ?_ ?_
        rotate_left
        ·simp only [Act.put, zsa, zsz, zss, i64_w, i32_w]
         rfl
        refine pure_ (i := 20) (N := some 55) (v := undef) (a' := ?_) #[true, true, true, true, true, true, true, true, true, true, true, true, true, true, true, true, true, true, true, true, true, false, false, false, false, false] rfl rfl (any_of HT_.out (by kernel_rfl)) (fun _ _ _ h => h) (Or.inr ⟨by rfl, rfl⟩) ?_ ?_
        rotate_left
        ·simp only [Act.put, zsa, zsz, zss, i64_w, i32_w]
         rfl
        refine pure_ (i := 21) (N := some 56) (v := undef) (a' := ?_) #[true, true, true, true, true, true, true, true, true, true, true, true, true, true, true, true, true, true, true, true, true, true, false, false, false, false] rfl rfl (any_of HT_.out (by kernel_rfl)) (fun _ _ _ h => h) (Or.inr ⟨by rfl, rfl⟩) ?_ ?_
        rotate_left
        ·simp only [Act.put, zsa, zsz, zss, i64_w, i32_w]
         rfl
        refine pure_ (i := 22) (N := some 57) (v := undef) (a' := ?_) #[true, true, true, true, true, true, true, true, true, true, true, true, true, true, true, true, true, true, true, true, true, true, true, false, false, false] rfl rfl (any_of HT_.out (by kernel_rfl)) (fun _ _ _ h => h) (Or.inr ⟨by rfl, rfl⟩) ?_ ?_
        rotate_left
        ·simp only [Act.put, zsa, zsz, zss, i64_w, i32_w]
         rfl
        refine pure_ (i := 23) (N := some 58) (v := undef) (a' := ?_) #[true, true, true, true, true, true, true, true, true, true, true, true, true, true, true, true, true, true, true, true, true, true, true, true, false, false] rfl rfl (any_of HT_.out (by kernel_rfl)) (fun _ _ _ h => h) (Or.inr ⟨by rfl, rfl⟩) ?_ ?_
        rotate_left
        ·simp only [Act.put, zsa, zsz, zss, i64_w, i32_w]
         rfl
        refine pure_ (i := 24) (N := some 59) (v := undef) (a' := ?_) #[true, true, true, true, true, true, true, true, true, true, true, true, true, true, true, true, true, true, true, true, true, true, true, true, true, false] rfl rfl (any_of HT_.out (by kernel_rfl)) (fun _ _ _ h => h) (Or.inr ⟨by rfl, rfl⟩) ?_ ?_
        rotate_left
        ·simp only [Act.put, zsa, zsz, zss, i64_w, i32_w]
         rfl
        refine pure_ (i := 25) (N := some 60) (v := ?_) (a' := ?_) #[true, true, true, true, true, true, true, true, true, true, true, true, true, true, true, true, true, true, true, true, true, true, true, true, true, true] rfl rfl (any_of HT_.out (by kernel_rfl)) (fun _ _ _ h => h) (Or.inl ⟨by rfl, ?_⟩) ?_ ?_
        rotate_left
        ·intro w'
         go_simp
         with_reducible rfl
        rotate_left
        ·simp only [Act.put, zsa, zsz, zss, i64_w, i32_w]
         rfl
        refine done_ (done_of HT_.out (by kernel_rfl)) ?_
        try go_wp2
        go_ret
        exact ⟨by first | rfl | (simp [errW_none, errW_some] <;> rfl) | (simp [*, errW_none, errW_some] <;> rfl), by repeat (first | (with_reducible first | exact HB.out | apply zba | apply zbn | apply zb1 | refine zbs ?_ GE101.out) | exact HB.out)⟩
       replace c19 := Bool.eq_false_iff.mpr c19
       subst c19
       have H1 : (some 2) = some r := by rw [if_neg (show ¬ (false = true) by decide)] at H; exact H
       clear H
       have H := H1
       clear H1
       obtain rfl := zsi H
       try go_wp2
       have n0_ := zam (zkd BK101.out)
       have n1_ := zam (zb1 HB.out)
       clear BK101
       clear HB
       have BK101 := n0_
       have HB := n1_
       clear n0_ n1_
       have p103 : 0 ≤ (x7_2 : Int) := zod (by first | (with_reducible assumption) | assumption)
       have q103 : x7_2 < (l2.length : Int) := zod (by first | (with_reducible assumption) | assumption)
       obtain ⟨ad103, A103_4, c103_4, e103, hx103_0, hx103_1, hx103_2, hx103_3, hx103_4, hl103_4, hi103_4⟩ := at_T79 HR2.out x7_2 p103 q103
       have hw103_4 := hx103_4
       have hw103_3 := hx103_3
       have hw103_2 := hx103_2
       have hw103_1 := hx103_1
       have hw103_0 := hx103_0
       cases e103
       replace hx103_0 := (HB.out.cell (zwb w _ hx103_0)).trans hx103_0
       replace hx103_1 := (HB.out.cell (zwb w _ hx103_1)).trans hx103_1
       replace hx103_2 := (HB.out.cell (zwb w _ hx103_2)).trans hx103_2
       replace hx103_3 := (HB.out.cell (zwb w _ hx103_3)).trans hx103_3
       replace hx103_4 := (HB.out.cell (zwb w _ hx103_4)).trans hx103_4
       have HR103_4 := zam hi103_4
       have HC103_4 := zam hl103_4
       clear hi103_4 hl103_4
       replace p103 := eq_true p103
       replace q103 := eq_true q103
       refine start_ (n := 26) (S := fun w' => w'.cell? (ad103.add ((x7_2).toNat * 5)) = some (.int .i64 ((rd_T79 l2 x7_2).f0.f0)) ∧ w'.cell? ⟨(ad103.add ((x7_2).toNat * 5)).block, (ad103.add ((x7_2).toNat * 5)).off + 1, none⟩ = some (.int .i64 ((rd_T79 l2 x7_2).f0.f1)) ∧ w'.cell? ⟨(ad103.add ((x7_2).toNat * 5)).block, (ad103.add ((x7_2).toNat * 5)).off + 2, none⟩ = some (.int .i64 ((rd_T79 l2 x7_2).f1.f0)) ∧ w'.cell? ⟨(ad103.add ((x7_2).toNat * 5)).block, (ad103.add ((x7_2).toNat * 5)).off + 3, none⟩ = some (.int .i64 ((rd_T79 l2 x7_2).f1.f1)) ∧ w'.cell? ⟨(ad103.add ((x7_2).toNat * 5)).block, (ad103.add ((x7_2).toNat * 5)).off + 4, none⟩ = some (.slice A103_4 ((rd_T79 l2 x7_2).f2).length c103_4)) (ds := []) #[false, false, false, false, false, false, false, false, false, false, false, false, false, false, false, false, false, false, false, false, false, false, false, false, false, false] (by kernel_rfl) rfl rfl ⟨((HB.out.cell (zwb w _ hw103_0)).trans hw103_0), ((HB.out.cell (zwb w _ hw103_1)).trans hw103_1), ((HB.out.cell (zwb w _ hw103_2)).trans hw103_2), ((HB.out.cell (zwb w _ hw103_3)).trans hw103_3), ((HB.out.cell (zwb w _ hw103_4)).trans hw103_4)⟩ (fun hHeld => ?_); refine with_tabW isobathref02_search.tab8 isobathref02_search.bits8 (fun HT_ HW_ => ?_)
       generalize wr.drew = w35 at BK101 HB HR103_4 hx103_0 hx103_1 hx103_2 hx103_3 hx103_4 hHeld ⊢
       refine pure_ (i := 0) (N := some 35) (v := ?_) (a' := ?_) #[true, false, false, false, false, false, false, false, false, false, false, false, false, false, false, false, false, false, false, false, false, false, false, false, false, false] rfl rfl (any_of HT_.out (by kernel_rfl)) (fun _ _ _ h => h) (Or.inl ⟨by rfl, ?_⟩) ?_ ?_
       rotate_left
       ·intro w'
        go_simp
        with_reducible rfl
       rotate_left
       ·simp only [Act.put, zsa, zsz, zss, i64_w, i32_w]
        rfl
       refine pure_ (i := 1) (N := some 36) (v := ?_) (a' := ?_) #[true, true, false, false, false, false, false, false, false, false, false, false, false, false, false, false, false, false, false, false, false, false, false, false, false, false] rfl rfl (any_of HT_.out (by kernel_rfl)) (fun _ _ _ h => h) (Or.inl ⟨by rfl, ?_⟩) ?_ ?_
       rotate_left
       ·intro w'
        go_simp
        with_reducible rfl
       rotate_left
       ·simp only [Act.put, zsa, zsz, zss, i64_w, i32_w]
        rfl
       refine pure_ (i := 2) (N := some 37) (v := ?_) (a' := ?_) #[true, true, true, false, false, false, false, false, false, false, false, false, false, false, false, false, false, false, false, false, false, false, false, false, false, false] rfl rfl (any_of HT_.out (by kernel_rfl)) (fun _ _ _ h => h) (Or.inl ⟨by rfl, ?_⟩) ?_ ?_
       rotate_left
       ·intro w'
        go_simp
        with_reducible rfl
       rotate_left
       ·simp only [Act.put, zsa, zsz, zss, i64_w, i32_w]
        rfl
       refine pure_ (i := 3) (N := some 38) (v := ?_) (a' := ?_) #[true, true, true, true, false, false, false, false, false, false, false, false, false, false, false, false, false, false, false, false, false, false, false, false, false, false] rfl rfl (any_of HT_.out (by kernel_rfl)) (fun _ _ _ h => h) (Or.inl ⟨by rfl, ?_⟩) ?_ ?_
       rotate_left
       ·intro w'
        go_simp
        with_reducible rfl
       rotate_left
       ·simp only [Act.put, zsa, zsz, zss, i64_w, i32_w]
        rfl
       refine take_ (i := 4) (N := some 39) (v := ?_) (a' := ?_) #[true, true, true, true, true, false, false, false, false, false, false, false, false, false, false, false, false, false, false, false, false, false, false, false, false, false] rfl rfl (take_ofW HT_.out HW_.out (by kernel_rfl)) (fun _ _ _ h => h) (Or.inl ⟨by rfl, ?_⟩) hHeld ?_ ?_
       rotate_left
       ·rintro w' ⟨s0, s1, s2, s3, s4⟩
        go_simp
        with_reducible rfl
       rotate_left
       ·simp only [Act.put, zsa, zsz, zss, i64_w, i32_w]
        rfl
       refine one_ (i := 5) (N := some 40) #[true, true, true, true, true, true, false, false, false, false, false, false, false, false, false, false, false, false, false, false, false, false, false, false, false, false] rfl rfl (one_of HT_.out (by kernel_rfl)) (by decide) (fun K hK => ?_)
       refine goes_ Try.func91 (by kernel_rfl) rfl #[.agg #[.int .i64 ((rd_T79 l2 x7_2).f0.f0), .int .i64 ((rd_T79 l2 x7_2).f0.f1)]] (by rfl) rfl rfl (by (try simp only [zmt, List.map_cons, List.map_nil]); first | done | rfl | (simp only [zld, zlt]; rfl)) ?_
       with_reducible refine (isobathref02_shift.calls ((rd_T79 l2 x7_2).f0.f0) ((rd_T79 l2 x7_2).f0.f1) false _ A18.out).mono ?_
       rintro e w36 ⟨rfl, hb⟩
       refine ⟨_, rfl, ?_⟩
       have n0_ := zam (zkb (g := gb101) (o := .cells #[.int .i64 a0_0, .int .i64 a0_1] 72 (0, 0)) (by (with_reducible repeat (first | refine zkn ?_ _ | refine zkd ?_ | refine zka ?_ _)); exact BK101.out) hb)
       have n1_ := zam (zbt (by repeat (first | (with_reducible first | exact HB.out | apply zba | apply zbn | apply zb1 | refine zbs ?_ GE101.out) | exact HB.out)) hb)
       clear BK101
       clear HB
       have BK101 := n0_
       have HB := n1_
       clear n0_ n1_
       (try clear hb)
       (try clear hb2)
       (try clear hk)
       (try clear hi)
       refine hK.out _ _ ⟨((HB.out.cell (zwb w _ hw103_0)).trans hw103_0), ((HB.out.cell (zwb w _ hw103_1)).trans hw103_1), ((HB.out.cell (zwb w _ hw103_2)).trans hw103_2), ((HB.out.cell (zwb w _ hw103_3)).trans hw103_3), ((HB.out.cell (zwb w _ hw103_4)).trans hw103_4)⟩ (fun hHeld => ?_)
       clear hK K
       refine norm_ (a' := ?_) ?_ ?_
       rotate_left
       ·show Act.put _ (some 40) _ = _
        simp only [Act.put, zsa, zsz, zss, i64_w, i32_w]
        rfl
       refine pure_ (i := 6) (N := some 41) (v := ?_) (a' := ?_) #[true, true, true, true, true, true, true, false, false, false, false, false, false, false, false, false, false, false, false, false, false, false, false, false, false, false] rfl rfl (any_of HT_.out (by kernel_rfl)) (fun _ _ _ h => h) (Or.inl ⟨by rfl, ?_⟩) ?_ ?_
       rotate_left
       ·intro w'
        go_simp
        with_reducible rfl
       rotate_left
       ·simp only [Act.put, zsa, zsz, zss, i64_w, i32_w]
        rfl
       refine pure_ (i := 7) (N := some 42) (v := ?_) (a' := ?_) #[true, true, true, true, true, true, true, true, false, false, false, false, false, false, false, false, false, false, false, false, false, false, false, false, false, false] rfl rfl (any_of HT_.out (by kernel_rfl)) (fun _ _ _ h => h) (Or.inl ⟨by rfl, ?_⟩) ?_ ?_
       rotate_left
       ·intro w'
        go_simp
        with_reducible rfl
       rotate_left
       ·simp only [Act.put, zsa, zsz, zss, i64_w, i32_w]
        rfl
       refine pure_ (i := 8) (N := some 43) (v := undef) (a' := ?_) #[true, true, true, true, true, true, true, true, true, false, false, false, false, false, false, false, false, false, false, false, false, false, false, false, false, false] rfl rfl (any_of HT_.out (by kernel_rfl)) (fun _ _ _ h => h) (Or.inr ⟨by rfl, rfl⟩) ?_ ?_
       rotate_left
       ·simp only [Act.put, zsa, zsz, zss, i64_w, i32_w]
        rfl
       refine pure_ (i := 9) (N := some 44) (v := undef) (a' := ?_) #[true, true, true, true, true, true, true, true, true, true, false, false, false, false, false, false, false, false, false, false, false, false, false, false, false, false] rfl rfl (any_of HT_.out (by kernel_rfl)) (fun _ _ _ h => h) (Or.inr ⟨by rfl, rfl⟩) ?_ ?_
       rotate_left
       ·simp only [Act.put, zsa, zsz, zss, i64_w, i32_w]
        rfl
       refine pure_ (i := 10) (N := some 45) (v := undef) (a' := ?_) #[true, true, true, true, true, true, true, true, true, true, true, false, false, false, false, false, false, false, false, false, false, false, false, false, false, false] rfl rfl (any_of HT_.out (by kernel_rfl)) (fun _ _ _ h => h) (Or.inr ⟨by rfl, rfl⟩) ?_ ?_
       rotate_left
       ·simp only [Act.put, zsa, zsz, zss, i64_w, i32_w]
        rfl
       refine pure_ (i := 11) (N := some 46) (v := undef) (a' := ?_) #[true, true, true, true, true, true, true, true, true, true, true, true, false, false, false, false, false, false, false, false, false, false, false, false, false, false] rfl rfl (any_of HT_.out (by kernel_rfl)) (fun _ _ _ h => h) (Or.inr ⟨by rfl, rfl⟩) ?_ ?_
       rotate_left
       ·simp only [Act.put, zsa, zsz, zss, i64_w, i32_w]
        rfl
       refine pure_ (i := 12) (N := some 47) (v := undef) (a' := ?_) #[true, true, true, true, true, true, true, true, true, true, true, true, true, false, false, false, false, false, false, false, false, false, false, false, false, false] rfl rfl (any_of HT_.out (by kernel_rfl)) (fun _ _ _ h => h) (Or.inr ⟨by rfl, rfl⟩) ?_ ?_
       rotate_left
       ·simp only [Act.put, zsa, zsz, zss, i64_w, i32_w]
        rfl
       refine pure_ (i := 13) (N := some 48) (v := undef) (a' := ?_) #[true, true, true, true, true, true, true, true, true, true, true, true, true, true, false, false, false, false, false, false, false, false, false, false, false, false] rfl rfl (any_of HT_.out (by kernel_rfl)) (fun _ _ _ h => h) (Or.inr ⟨by rfl, rfl⟩) ?_ ?_
       rotate_left
       ·simp only [Act.put, zsa, zsz, zss, i64_w, i32_w]
        rfl
       refine pure_ (i := 14) (N := some 49) (v := undef) (a' := ?_) #[true, true, true, true, true, true, true, true, true, true, true, true, true, true, true, false, false, false, false, false, false, false, false, false, false, false] rfl rfl (any_of HT_.out (by kernel_rfl)) (fun _ _ _ h => h) (Or.inr ⟨by rfl, rfl⟩) ?_ ?_
       rotate_left
       ·simp only [Act.put, zsa, zsz, zss, i64_w, i32_w]
        rfl
       refine pure_ (i := 15) (N := some 50) (v := ?_) (a' := ?_) #[true, true, true, true, true, true, true, true, true, true, true, true, true, true, true, true, false, false, false, false, false, false, false, false, false, false] rfl rfl (any_of HT_.out (by kernel_rfl)) (fun _ _ _ h => h) (Or.inl ⟨by rfl, ?_⟩) ?_ ?_
       rotate_left
       ·intro w'
        go_simp
        with_reducible rfl
       rotate_left
       ·simp only [Act.put, zsa, zsz, zss, i64_w, i32_w]
        rfl
       refine pure_ (i := 16) (N := some 51) (v := ?_) (a' := ?_) #[true, true, true, true, true, true, true, true, true, true, true, true, true, true, true, true, true, false, false, false, false, false, false, false, false, false] rfl rfl (any_of HT_.out (by kernel_rfl)) (fun _ _ _ h => h) (Or.inl ⟨by rfl, ?_⟩) ?_ ?_
       rotate_left
       ·intro w'
        go_simp
        with_reducible rfl
       rotate_left
       ·simp only [Act.put, zsa, zsz, zss, i64_w, i32_w]
        rfl
       refine pure_ (i := 17) (N := some 52) (v := undef) (a' := ?_) #[true, true, true, true, true, true, true, true, true, true, true, true, true, true, true, true, true, true, false, false, false, false, false, false, false, false] rfl rfl (any_of HT_.out (by kernel_rfl)) (fun _ _ _ h => h) (Or.inr ⟨by rfl, rfl⟩) ?_ ?_
       rotate_left
       ·simp only [Act.put, zsa, zsz, zss, i64_w, i32_w]
        rfl
       refine pure_ (i := 18) (N := some 53) (v := undef) (a' := ?_) #[true, true, true, true, true, true, true, true, true, true, true, true, true, true, true, true, true, true, true, false, false, false, false, false, false, false] rfl rfl (any_of HT_.out (by kernel_rfl)) (fun _ _ _ h => h) (Or.inr ⟨by rfl, rfl⟩) ?_ ?_
       rotate_left
       ·simp only [Act.put, zsa, zsz, zss, i64_w, i32_w]
        rfl
       refine pure_ (i := 19) (N := some 54) (v := undef) (a' := ?_) #[true, true, true, true, true, true, true, true, true, true, true, true, true, true, true, true, true, true, true, true, false, false, false, false, false, false] rfl rfl (any_of HT_.out (by kernel_rfl)) (fun _ _ _ h => h) (Or.inr ⟨by rfl, rfl⟩) ?_ ?_
       rotate_left
       ·simp only [Act.put, zsa, zsz, zss, i64_w, i32_w]
        rfl
       refine pure_ (i := 20) (N := some 55) (v := undef) (a' := ?_) #[true, true, true, true, true, true, true, true, true, true, true, true, true, true, true, true, true, true, true, true, true, false, false, false, false, false] rfl rfl (any_of HT_.out (by kernel_rfl)) (fun _ _ _ h => h) (Or.inr ⟨by rfl, rfl⟩) ?_ ?_
       rotate_left
       ·simp only [Act.put, zsa, zsz, zss, i64_w, i32_w]
        rfl
       refine pure_ (i := 21) (N := some 56) (v := undef) (a' := ?_) #[true, true, true, true, true, true, true, true, true, true, true, true, true, true, true, true, true, true, true, true, true, true, false, false, false, false] rfl rfl (any_of HT_.out (by kernel_rfl)) (fun _ _ _ h => h) (Or.inr ⟨by rfl, rfl⟩) ?_ ?_
       rotate_left
       ·simp only [Act.put, zsa, zsz, zss, i64_w, i32_w]
        rfl
       refine pure_ (i := 22) (N := some 57) (v := undef) (a' := ?_) #[true, true, true, true, true, true, true, true, true, true, true, true, true, true, true, true, true, true, true, true, true, true, true, false, false, false] rfl rfl (any_of HT_.out (by kernel_rfl)) (fun _ _ _ h => h) (Or.inr ⟨by rfl, rfl⟩) ?_ ?_
       rotate_left
       ·simp only [Act.put, zsa, zsz, zss, i64_w, i32_w]
        rfl
       refine pure_ (i := 23) (N := some 58) (v := undef) (a' := ?_) #[true, true, true, true, true, true, true, true, true, true, true, true, true, true, true, true, true, true, true, true, true, true, true, true, false, false] rfl rfl (any_of HT_.out (by kernel_rfl)) (fun _ _ _ h => h) (Or.inr ⟨by rfl, rfl⟩) ?_ ?_
       rotate_left
       ·simp only [Act.put, zsa, zsz, zss, i64_w, i32_w]
        rfl
       refine pure_ (i := 24) (N := some 59) (v := undef) (a' := ?_) #[true, true, true, true, true, true, true, true, true, true, true, true, true, true, true, true, true, true, true, true, true, true, true, true, true, false] rfl rfl (any_of HT_.out (by kernel_rfl)) (fun _ _ _ h => h) (Or.inr ⟨by rfl, rfl⟩) ?_ ?_
       rotate_left
       ·simp only [Act.put, zsa, zsz, zss, i64_w, i32_w]
        rfl
       refine pure_ (i := 25) (N := some 60) (v := ?_) (a' := ?_) #[true, true, true, true, true, true, true, true, true, true, true, true, true, true, true, true, true, true, true, true, true, true, true, true, true, true] rfl rfl (any_of HT_.out (by kernel_rfl)) (fun _ _ _ h => h) (Or.inl ⟨by rfl, ?_⟩) ?_ ?_
       rotate_left
       ·intro w'
        go_simp
        with_reducible rfl
       rotate_left
       ·simp only [Act.put, zsa, zsz, zss, i64_w, i32_w]
        rfl
       refine done_ (done_of HT_.out (by kernel_rfl)) ?_
       try go_wp2
       go_ret
       exact ⟨by first | rfl | (simp [errW_none, errW_some] <;> rfl) | (simp [*, errW_none, errW_some] <;> rfl), by repeat (first | (with_reducible first | exact HB.out | apply zba | apply zbn | apply zb1 | refine zbs ?_ GE101.out) | exact HB.out)⟩
      rw [if_neg c17] at H
      exact absurd H (by simp)
     rw [if_neg c16] at H
     have c16b0 : decide (x7_2 < (l2.length : Int)) = false := zdf c16
     clear c16
     replace H := Option.bind_eq_some_iff.mp H
     obtain ⟨t102, A370, H⟩ := H
     replace H : (if t102 = true then (some 0) else (some 2)) = some r := H
     have A37 := zam A370
     clear A370
     by_cases c38 : t102 = true
     ·subst c38
      have H1 : (some 0) = some r := by rw [if_pos rfl] at H; exact H
      clear H
      have H := H1
      clear H1
      obtain rfl := zsi H
      have hcz39_0 : wr.cell? ⟨gb101, 0, none⟩ = some (.int .i64 a0_0) := (zkc BK101.out 0).trans rfl
      have hcz39_1 : wr.cell? ⟨gb101, 1, none⟩ = some (.int .i64 a0_1) := (zkc BK101.out 1).trans rfl
      have hfz39_0 := zkz BK101.out 0
      have hfz39_1 := zkz BK101.out 1
      go_wp2_with (first | ((with_reducible refine zgc (f := 92) rfl ?_); refine goesL_ (some 63) rfl rfl Try.func92 (by kernel_rfl) rfl #[.agg #[.int .i64 a0_0, .int .i64 a0_1], .slice A1 l1.length c1] rfl (by (try simp only [zmt, List.map_cons, List.map_nil]); first | done | rfl | (simp only [zld, zlt]; rfl)) ?_; (with_reducible refine (isobathref02_cells.calls k2 a0_0 a0_1 _ _ l1 true _ ?side1 ?side2 A37.out).mono ?_); (case side1 => repeat (first | exact (Kd.C_below HR1.out HB.out) | (with_reducible refine Kd.C_alloc ?_ _) | (with_reducible refine Kd.C_drewN ?_ _) | (with_reducible refine Kd.C_drew ?_))); (case side2 => exact HC1.out); rintro e w40 ⟨rfl, hb⟩; refine ⟨_, rfl, ?_⟩; have n0_ := zam (zkb (g := gb101) (o := .cells #[.int .i64 a0_0, .int .i64 a0_1] 72 (0, 0)) (by (with_reducible repeat (first | refine zkn ?_ _ | refine zkd ?_ | refine zka ?_ _)); exact BK101.out) hb); have n1_ := zam (zbt (by repeat (first | (with_reducible first | exact HB.out | apply zba | apply zbn | apply zb1 | refine zbs ?_ GE101.out) | exact HB.out)) hb); clear BK101; clear HB; have BK101 := n0_; have HB := n1_; clear n0_ n1_; (try clear hb); (try clear hb2); (try clear hk); (try clear hi)))
      go_ret
      exact ⟨by first | rfl | (simp [errW_none, errW_some] <;> rfl) | (simp [*, errW_none, errW_some] <;> rfl), by repeat (first | (with_reducible first | exact HB.out | apply zba | apply zbn | apply zb1 | refine zbs ?_ GE101.out) | exact HB.out)⟩
     replace c38 := Bool.eq_false_iff.mpr c38
     subst c38
     have H1 : (some 2) = some r := by rw [if_neg (show ¬ (false = true) by decide)] at H; exact H
     clear H
     have H := H1
     clear H1
     obtain rfl := zsi H
     have hcz41_0 : wr.cell? ⟨gb101, 0, none⟩ = some (.int .i64 a0_0) := (zkc BK101.out 0).trans rfl
     have hcz41_1 : wr.cell? ⟨gb101, 1, none⟩ = some (.int .i64 a0_1) := (zkc BK101.out 1).trans rfl
     have hfz41_0 := zkz BK101.out 0
     have hfz41_1 := zkz BK101.out 1
     go_wp2_with (first | ((with_reducible refine zgc (f := 92) rfl ?_); refine goesL_ (some 63) rfl rfl Try.func92 (by kernel_rfl) rfl #[.agg #[.int .i64 a0_0, .int .i64 a0_1], .slice A1 l1.length c1] rfl (by (try simp only [zmt, List.map_cons, List.map_nil]); first | done | rfl | (simp only [zld, zlt]; rfl)) ?_; (with_reducible refine (isobathref02_cells.calls k2 a0_0 a0_1 _ _ l1 false _ ?side1 ?side2 A37.out).mono ?_); (case side1 => repeat (first | exact (Kd.C_below HR1.out HB.out) | (with_reducible refine Kd.C_alloc ?_ _) | (with_reducible refine Kd.C_drewN ?_ _) | (with_reducible refine Kd.C_drew ?_))); (case side2 => exact HC1.out); rintro e w42 ⟨rfl, hb⟩; refine ⟨_, rfl, ?_⟩; have n0_ := zam (zkb (g := gb101) (o := .cells #[.int .i64 a0_0, .int .i64 a0_1] 72 (0, 0)) (by (with_reducible repeat (first | refine zkn ?_ _ | refine zkd ?_ | refine zka ?_ _)); exact BK101.out) hb); have n1_ := zam (zbt (by repeat (first | (with_reducible first | exact HB.out | apply zba | apply zbn | apply zb1 | refine zbs ?_ GE101.out) | exact HB.out)) hb); clear BK101; clear HB; have BK101 := n0_; have HB := n1_; clear n0_ n1_; (try clear hb); (try clear hb2); (try clear hk); (try clear hi)))
     go_ret
     exact ⟨by first | rfl | (simp [errW_none, errW_some] <;> rfl) | (simp [*, errW_none, errW_some] <;> rfl), by repeat (first | (with_reducible first | exact HB.out | apply zba | apply zbn | apply zb1 | refine zbs ?_ GE101.out) | exact HB.out)⟩
def isobathref02_Where.l0 : Nat → List (S79) → List Bool → Bool → Int → Int → Int → Option (List Int × Bool × Int)
 | 0, _, _, _, _, _, _ => none
 | k + 1, x2, x10, x11, x12, x102000, x102001 => if x12 < (x2.length : Int) then (if 0 ≤ x12 then ((isobathref02_Drift.f k x102000 x102001 x10 ((rd_T79 x2 x12).f0.f0) ((rd_T79 x2 x12).f0.f1) ((rd_T79 x2 x12).f1.f0) ((rd_T79 x2 x12).f1.f1) ((rd_T79 x2 x12).f2)).bind fun bt107 => (if x11 = true then (isobathref02_Where.l0 k x2 bt107.1 true (wrap64 (x12 + 1)) x102000 x102001) else (isobathref02_Where.l0 k x2 bt107.1 bt107.2 (wrap64 (x12 + 1)) x102000 x102001))) else (none)) else ((isobathref02_numbers.f k x10).bind fun t111 => (some (t111, x11, 0)))
def isobathref02_Where.f (k : Nat) (a0_0 : Int) (a0_1 : Int) (l1 : List Int) (l2 : List (S79)) : Option (List Int × Bool × Int) := (isobathref02_search.f k a0_0 a0_1 l1 l2).bind fun t102 => (if t102 = 0 then ((isobathref02_marked.f k a0_0 a0_1 l1).bind fun t103 => (isobathref02_Where.l0 k l2 t103 false 0 a0_0 a0_1)) else (some (([] : List Int), false, t102)))
def isobathref02_Where.T9 : Bool × List (List Nat × List Nat) := (true, [([], []), ([], []), ([], []), ([], []), ([2, 3], [2, 3]), ([4], [4]), ([0, 1, 5], [0, 1, 5]), ([6], [6]), ([7], [7]), ([7], [7]), ([8, 6, 0, 1, 2, 3, 4, 5, 6, 7, 8], [8]), ([9, 10, 0, 1, 2, 3, 4, 5, 6, 7, 8, 9, 10], [9])])
def isobathref02_Where.B9 : List Nat := [0, 0, 0, 0, 12, 28, 63, 127, 255, 255, 511, 2047]
theorem isobathref02_Where.tab9 : rtab .any (opsOf Try.f47 9) = isobathref02_Where.T9 := by kernel_rfl
theorem isobathref02_Where.bits9 : waitsOk isobathref02_Where.T9.2 isobathref02_Where.B9 = true := by kernel_rfl
set_option maxHeartbeats 8000000 in
set_option maxRecDepth 100000 in
theorem isobathref02_Where.calls (k : Nat) (a0_0 : Int) (a0_1 : Int) (A1 : Option Addr) (c1 : Nat) (l1 : List Int) (A2 : Option Addr) (c2 : Nat) (l2 : List (S79)) (r1 : List Int) (r2 : Bool) (r3 : Int) (w : World) (hr1 : Kd.C (Kd.int .i64) w A1 l1.length l1) (hc1 : l1.length ≤ c1) (hr2 : Kd.C k79 w A2 l2.length l2) (hc2 : l2.length ≤ c2) (h : isobathref02_Where.f k a0_0 a0_1 l1 l2 = some (r1, r2, r3)) :
  Calls Try.prog 47 #[.agg #[.int .i64 a0_0, .int .i64 a0_1], .slice A1 l1.length c1, .slice A2 l2.length c2] w fun e w' => ∃ v0_ : Value, e = .returned (.tuple #[v0_, .bool r2, .int .i64 r3]) ∧ Kd.R (Kd.int .i64) 3 w' w.heap.size (fun _ => True) v0_ r1 ∧ Below w.heap.size w w' := by
 have hu72 := Try.underlying72
 have hu79 := Try.underlying79
 have HR1 := zam hr1
 have HC1 := zam hc1
 clear hr1 hc1
 have HR2 := zam hr2
 have HC2 := zam hc2
 clear hr2 hc2
 have HB := zam (Below.refl w.heap.size w)
 have H : ((isobathref02_search.f k a0_0 a0_1 l1 l2).bind fun t102 => (if t102 = 0 then ((isobathref02_marked.f k a0_0 a0_1 l1).bind fun t103 => (isobathref02_Where.l0 k l2 t103 false 0 a0_0 a0_1)) else (some (([] : List Int), false, t102)))) = some (r1, r2, r3) := h
 clear h
 replace H := Option.bind_eq_some_iff.mp H
 obtain ⟨t102, A40, H⟩ := H
 replace H : (if t102 = 0 then ((isobathref02_marked.f k a0_0 a0_1 l1).bind fun t103 => (isobathref02_Where.l0 k l2 t103 false 0 a0_0 a0_1)) else (some (([] : List Int), false, t102))) = some (r1, r2, r3) := H
 have A4 := zam A40
 clear A40
 by_cases c5 : t102 = 0
 ·rw [if_pos c5] at H
  have c5b0 : (t102 == 0) = true := beq_iff_eq.mpr c5
  have c5b1 : (t102 != 0) = false := bne_eq_false_iff_eq.mpr c5
  clear c5
  replace H := Option.bind_eq_some_iff.mp H
  obtain ⟨t103, A60, H⟩ := H
  replace H : (isobathref02_Where.l0 k l2 t103 false 0 a0_0 a0_1) = some (r1, r2, r3) := H
  have A6 := zam A60
  clear A60
  have H' := zam H
  clear H
  go_enter Try.func47, Try.ntmps47
  go_wp2_with (first | ((with_reducible refine zgd (N := 3) rfl ?_); refine box_event ?hg (N := 3) ?hd (cs := #[.int .i64 a0_0, .int .i64 a0_1]) (t := 72) ?hr ?_; (case hd => rfl); (case hg => rfl); (case hr => first | (go_simp; done) | (go_simp; rfl)); intro gb101 hg w7 hbox hb; have n0_ := zam (zbt (by repeat (first | (with_reducible first | exact HB.out | apply zba | apply zbn | apply zb1) | exact HB.out)) hb); have n1_ := zam (hbox); have n2_ := zam ((by rw [hg]; exact (zbz (by repeat (first | (with_reducible first | exact HB.out | apply zba | apply zbn | apply zb1) | exact HB.out))) : w.heap.size ≤ gb101)); have n3_ := zam ((by rw [hg]; exact (zbz (by repeat (first | (with_reducible first | exact HB.out | apply zba | apply zbn | apply zb1) | exact HB.out))) : w.heap.size ≤ gb101)); clear HB; have HB := n0_; have BK101 := n1_; have GW101 := n2_; have GE101 := n3_; clear n0_ n1_ n2_ n3_; clear hb hbox hg; have hcz8_0 : w7.cell? ⟨gb101, 0, none⟩ = some (.int .i64 a0_0) := (zkc BK101.out 0).trans rfl; have hcz8_1 : w7.cell? ⟨gb101, 1, none⟩ = some (.int .i64 a0_1) := (zkc BK101.out 1).trans rfl; have hfz8_0 := zkz BK101.out 0; have hfz8_1 := zkz BK101.out 1) | ((with_reducible refine zgc (f := 79) rfl ?_); refine goesL_ (some 18) rfl rfl Try.func79 (by kernel_rfl) rfl #[.agg #[.int .i64 a0_0, .int .i64 a0_1], .slice A1 l1.length c1, .slice A2 l2.length c2] rfl (by (try simp only [zmt, List.map_cons, List.map_nil]); first | done | rfl | (simp only [zld, zlt]; rfl)) ?_; (with_reducible refine (isobathref02_search.calls k a0_0 a0_1 _ _ l1 _ _ l2 t102 _ ?side1 ?side2 ?side3 ?side4 A4.out).mono ?_); (case side1 => repeat (first | exact (Kd.C_below HR1.out HB.out) | (with_reducible refine Kd.C_alloc ?_ _) | (with_reducible refine Kd.C_drewN ?_ _) | (with_reducible refine Kd.C_drew ?_))); (case side2 => exact HC1.out); (case side3 => repeat (first | exact (Kd.C_below HR2.out HB.out) | (with_reducible refine Kd.C_alloc ?_ _) | (with_reducible refine Kd.C_drewN ?_ _) | (with_reducible refine Kd.C_drew ?_))); (case side4 => exact HC2.out); rintro e w9 ⟨rfl, hb⟩; refine ⟨_, rfl, ?_⟩; have n0_ := zam (zkb (g := gb101) (o := .cells #[.int .i64 a0_0, .int .i64 a0_1] 72 (0, 0)) (by (with_reducible repeat (first | refine zkn ?_ _ | refine zkd ?_ | refine zka ?_ _)); exact BK101.out) hb); have n1_ := zam (zbt (by repeat (first | (with_reducible first | exact HB.out | apply zba | apply zbn | apply zb1 | refine zbs ?_ GE101.out) | exact HB.out)) hb); clear BK101; clear HB; have BK101 := n0_; have HB := n1_; clear n0_ n1_; (try clear hb); (try clear hb2); (try clear hk); (try clear hi); have hcz10_0 : w9.cell? ⟨gb101, 0, none⟩ = some (.int .i64 a0_0) := (zkc BK101.out 0).trans rfl; have hcz10_1 : w9.cell? ⟨gb101, 1, none⟩ = some (.int .i64 a0_1) := (zkc BK101.out 1).trans rfl; have hfz10_0 := zkz BK101.out 0; have hfz10_1 := zkz BK101.out 1) | ((with_reducible refine zgc (f := 80) rfl ?_); refine goesL_ (some 24) rfl rfl Try.func80 (by kernel_rfl) rfl #[.agg #[.int .i64 a0_0, .int .i64 a0_1], .slice A1 l1.length c1] rfl (by (try simp only [zmt, List.map_cons, List.map_nil]); first | done | rfl | (simp only [zld, zlt]; rfl)) ?_; (with_reducible refine (isobathref02_marked.calls k a0_0 a0_1 _ _ l1 t103 _ ?side1 ?side2 A6.out).mono ?_); (case side1 => repeat (first | exact (Kd.C_below HR1.out HB.out) | (with_reducible refine Kd.C_alloc ?_ _) | (with_reducible refine Kd.C_drewN ?_ _) | (with_reducible refine Kd.C_drew ?_))); (case side2 => exact HC1.out); rintro e w11 ⟨v104, rfl, ho0, hb⟩; refine ⟨_, rfl, ?_⟩; have n0_ := zam (Kd.R_lower ho0 (zbz (by repeat (first | (with_reducible first | exact HB.out | apply zba | apply zbn | apply zb1 | refine zbs ?_ GE101.out) | exact HB.out)))); have n1_ := zam (zkb (g := gb101) (o := .cells #[.int .i64 a0_0, .int .i64 a0_1] 72 (0, 0)) (by (with_reducible repeat (first | refine zkn ?_ _ | refine zkd ?_ | refine zka ?_ _)); exact BK101.out) hb); have n2_ := zam (zbt (by repeat (first | (with_reducible first | exact HB.out | apply zba | apply zbn | apply zb1 | refine zbs ?_ GE101.out) | exact HB.out)) hb); clear BK101; clear HB; have HO105 := n0_; have BK101 := n1_; have HB := n2_; clear n0_ n1_ n2_; (try clear hb); (try clear hb2); (try clear hk); (try clear hi); (try clear ho0)))
  go_loopg [10, 11, 12] k (fun kq v10 v11 v12 w' => ∃ (x10_1 : List Bool) (x11_1 : Bool) (x12_1 : Int), v11 = .bool x11_1 ∧ v12 = .int .i64 x12_1 ∧ Aside0 (isobathref02_Where.l0 kq l2 x10_1 x11_1 x12_1 a0_0 a0_1 = some (r1, r2, r3)) ∧ Aside0 (kq ≤ k) ∧ Aside0 (Kd.R Kd.bool 4 w' w.heap.size (fun _ => True) v10 x10_1) ∧ Aside0 (w'.heap[gb101]? = some (.cells #[.int .i64 a0_0, .int .i64 a0_1] 72 (0, 0))) ∧ Aside0 (Below w.heap.size w w'))
  case atStart => exact ⟨(t103), (false), (0), (by first | rfl | (simp; done) | (simp [*]; done)), (by first | rfl | (simp; done) | (simp [*]; done)), H', ⟨Nat.le_refl _⟩, ⟨by (with_reducible repeat (first | apply zRa | apply zRn | apply zRd)); exact HO105.out⟩, ⟨by (with_reducible repeat (first | refine zkn ?_ _ | refine zkd ?_ | refine zka ?_ _)); exact BK101.out⟩, ⟨by repeat (first | (with_reducible first | exact HB.out | apply zba | apply zbn | apply zb1 | refine zbs ?_ GE101.out) | exact HB.out)⟩⟩
  case round =>
   clear H'
   try clear c1
   try clear c2
   try clear p2
   try clear c4
   try clear c5
   try clear c5b0
   try clear c5b1
   try clear c7
   try clear c8
   try clear hcz10_0
   try clear hcz10_1
   try clear hcz8_0
   try clear hcz8_1
   try clear hfz10_0
   try clear hfz10_1
   try clear hfz8_0
   try clear hfz8_1
   obtain ⟨x10_1, x11_1, x12_1, rfl, rfl, HA, HK1, HO_10, BK101, HB⟩ := hrel
   cases gk with
   | zero => exact absurd HA.out (by simp [isobathref02_Where.l0])
   | succ k1 =>
    have H := HA.out
    clear HA
    simp only [isobathref02_Where.l0] at H
    by_cases c12 : x12_1 < (l2.length : Int)
    ·rw [if_pos c12] at H
     have c12b0 : decide (x12_1 < (l2.length : Int)) = true := zdt c12
     clear c12
     by_cases c13 : 0 ≤ x12_1
     ·rw [if_pos c13] at H
      have c13b0 : decide (0 ≤ x12_1) = true := zdt c13
      clear c13
      replace H := Option.bind_eq_some_iff.mp H
      obtain ⟨⟨t107, t110⟩, A140, H⟩ := H
      replace H : (if x11_1 = true then (isobathref02_Where.l0 k1 l2 t107 true (wrap64 (x12_1 + 1)) a0_0 a0_1) else (isobathref02_Where.l0 k1 l2 t107 t110 (wrap64 (x12_1 + 1)) a0_0 a0_1)) = some (r1, r2, r3) := H
      have A14 := zam A140
      clear A140
      by_cases c15 : x11_1 = true
      ·subst c15
       have H1 : (isobathref02_Where.l0 k1 l2 t107 true (wrap64 (x12_1 + 1)) a0_0 a0_1) = some (r1, r2, r3) := by rw [if_pos rfl] at H; exact H
       clear H
       have H := H1
       clear H1
       have H' := zam H
       clear H
       try go_wp2
       have n0_ := zam (zRd HO_10.out)
       have n1_ := zam (zkd BK101.out)
       have n2_ := zam (zb1 HB.out)
       clear HO_10
       clear BK101
       clear HB
       have HO_10 := n0_
       have BK101 := n1_
       have HB := n2_
       clear n0_ n1_ n2_
       have p106 : 0 ≤ (x12_1 : Int) := zod (by first | (with_reducible assumption) | assumption)
       have q106 : x12_1 < (l2.length : Int) := zod (by first | (with_reducible assumption) | assumption)
       obtain ⟨ad106, A106_4, c106_4, e106, hx106_0, hx106_1, hx106_2, hx106_3, hx106_4, hl106_4, hi106_4⟩ := at_T79 HR2.out x12_1 p106 q106
       have hw106_4 := hx106_4
       have hw106_3 := hx106_3
       have hw106_2 := hx106_2
       have hw106_1 := hx106_1
       have hw106_0 := hx106_0
       cases e106
       replace hx106_0 := (HB.out.cell (zwb w _ hx106_0)).trans hx106_0
       replace hx106_1 := (HB.out.cell (zwb w _ hx106_1)).trans hx106_1
       replace hx106_2 := (HB.out.cell (zwb w _ hx106_2)).trans hx106_2
       replace hx106_3 := (HB.out.cell (zwb w _ hx106_3)).trans hx106_3
       replace hx106_4 := (HB.out.cell (zwb w _ hx106_4)).trans hx106_4
       have HR106_4 := zam hi106_4
       have HC106_4 := zam hl106_4
       clear hi106_4 hl106_4
       replace p106 := eq_true p106
       replace q106 := eq_true q106
       obtain ⟨Ao17, co17, eo17⟩ := Kd.R_slice HO_10.out
       (first | subst eo17 | (injection eo17 with f1_ f2_ f3_; have f4_ := f1_.symm; have f5_ := f3_.symm; clear f1_ f2_ f3_; subst f4_; subst f5_))
       refine start_ (n := 12) (S := fun w' => w'.cell? ⟨gb101, 0, none⟩ = some (.int .i64 a0_0) ∧ w'.cell? ⟨gb101, 1, none⟩ = some (.int .i64 a0_1) ∧ w'.cell? (ad106.add ((x12_1).toNat * 5)) = some (.int .i64 ((rd_T79 l2 x12_1).f0.f0)) ∧ w'.cell? ⟨(ad106.add ((x12_1).toNat * 5)).block, (ad106.add ((x12_1).toNat * 5)).off + 1, none⟩ = some (.int .i64 ((rd_T79 l2 x12_1).f0.f1)) ∧ w'.cell? ⟨(ad106.add ((x12_1).toNat * 5)).block, (ad106.add ((x12_1).toNat * 5)).off + 2, none⟩ = some (.int .i64 ((rd_T79 l2 x12_1).f1.f0)) ∧ w'.cell? ⟨(ad106.add ((x12_1).toNat * 5)).block, (ad106.add ((x12_1).toNat * 5)).off + 3, none⟩ = some (.int .i64 ((rd_T79 l2 x12_1).f1.f1)) ∧ w'.cell? ⟨(ad106.add ((x12_1).toNat * 5)).block, (ad106.add ((x12_1).toNat * 5)).off + 4, none⟩ = some (.slice A106_4 ((rd_T79 l2 x12_1).f2).length c106_4)) (ds := []) #[false, false, false, false, false, false, false, false, false, false, false, false] (by kernel_rfl) rfl rfl ⟨(zkc BK101.out 0).trans rfl, (zkc BK101.out 1).trans rfl, ((HB.out.cell (zwb w _ hw106_0)).trans hw106_0), ((HB.out.cell (zwb w _ hw106_1)).trans hw106_1), ((HB.out.cell (zwb w _ hw106_2)).trans hw106_2), ((HB.out.cell (zwb w _ hw106_3)).trans hw106_3), ((HB.out.cell (zwb w _ hw106_4)).trans hw106_4)⟩ (fun hHeld => ?_); refine with_tabW isobathref02_Where.tab9 isobathref02_Where.bits9 (fun HT_ HW_ => ?_)
       generalize wr.drew = w16 at HO_10 BK101 HB HR106_4 hx106_0 hx106_1 hx106_2 hx106_3 hx106_4 hHeld ⊢
       refine pure_ (i := 1) (N := some 33) (v := ?_) (a' := ?_) #[false, true, false, false, false, false, false, false, false, false, false, false] rfl rfl (any_of HT_.out (by kernel_rfl)) (fun _ _ _ h => h) (Or.inl ⟨by rfl, ?_⟩) ?_ ?_
       rotate_left
       ·intro w'
        go_simp
        with_reducible rfl
       rotate_left
       ·simp only [Act.put, zsa, zsz, zss, i64_w, i32_w]
        rfl
       refine pure_ (i := 2) (N := some 34) (v := ?_) (a' := ?_) #[false, true, true, false, false, false, false, false, false, false, false, false] rfl rfl (any_of HT_.out (by kernel_rfl)) (fun _ _ _ h => h) (Or.inl ⟨by rfl, ?_⟩) ?_ ?_
       rotate_left
       ·intro w'
        go_simp
        with_reducible rfl
       rotate_left
       ·simp only [Act.put, zsa, zsz, zss, i64_w, i32_w]
        rfl
       refine pure_ (i := 3) (N := some 35) (v := ?_) (a' := ?_) #[false, true, true, true, false, false, false, false, false, false, false, false] rfl rfl (any_of HT_.out (by kernel_rfl)) (fun _ _ _ h => h) (Or.inl ⟨by rfl, ?_⟩) ?_ ?_
       rotate_left
       ·intro w'
        go_simp
        with_reducible rfl
       rotate_left
       ·simp only [Act.put, zsa, zsz, zss, i64_w, i32_w]
        rfl
       refine pure_ (i := 4) (N := some 36) (v := ?_) (a' := ?_) #[false, true, true, true, true, false, false, false, false, false, false, false] rfl rfl (any_of HT_.out (by kernel_rfl)) (fun _ _ _ h => h) (Or.inl ⟨by rfl, ?_⟩) ?_ ?_
       rotate_left
       ·intro w'
        go_simp
        with_reducible rfl
       rotate_left
       ·simp only [Act.put, zsa, zsz, zss, i64_w, i32_w]
        rfl
       refine take_ (i := 0) (N := some 32) (v := ?_) (a' := ?_) #[true, true, true, true, true, false, false, false, false, false, false, false] rfl rfl (take_ofW HT_.out HW_.out (by kernel_rfl)) (fun _ _ _ h => h) (Or.inl ⟨by rfl, ?_⟩) hHeld ?_ ?_
       rotate_left
       ·rintro w' ⟨s0, s1, s2, s3, s4, s5, s6⟩
        go_simp
        with_reducible rfl
       rotate_left
       ·simp only [Act.put, zsa, zsz, zss, i64_w, i32_w]
        rfl
       refine take_ (i := 5) (N := some 37) (v := ?_) (a' := ?_) #[true, true, true, true, true, true, false, false, false, false, false, false] rfl rfl (take_ofW HT_.out HW_.out (by kernel_rfl)) (fun _ _ _ h => h) (Or.inl ⟨by rfl, ?_⟩) hHeld ?_ ?_
       rotate_left
       ·rintro w' ⟨s0, s1, s2, s3, s4, s5, s6⟩
        go_simp
        with_reducible rfl
       rotate_left
       ·simp only [Act.put, zsa, zsz, zss, i64_w, i32_w]
        rfl
       refine one_ (i := 6) (N := some 38) #[true, true, true, true, true, true, true, false, false, false, false, false] rfl rfl (one_of HT_.out (by kernel_rfl)) (by decide) (fun K hK => ?_)
       refine goes_ Try.func81 (by kernel_rfl) rfl #[.agg #[.int .i64 a0_0, .int .i64 a0_1], .slice Ao17 x10_1.length co17, .agg #[.int .i64 ((rd_T79 l2 x12_1).f0.f0), .int .i64 ((rd_T79 l2 x12_1).f0.f1), .int .i64 ((rd_T79 l2 x12_1).f1.f0), .int .i64 ((rd_T79 l2 x12_1).f1.f1), .slice A106_4 ((rd_T79 l2 x12_1).f2).length c106_4]] (by rfl) rfl rfl (by (try simp only [zmt, List.map_cons, List.map_nil]); first | done | rfl | (simp only [zld, zlt]; rfl)) ?_
       with_reducible refine (isobathref02_Drift.calls k1 a0_0 a0_1 _ _ x10_1 ((rd_T79 l2 x12_1).f0.f0) ((rd_T79 l2 x12_1).f0.f1) ((rd_T79 l2 x12_1).f1.f0) ((rd_T79 l2 x12_1).f1.f1) _ _ ((rd_T79 l2 x12_1).f2) t107 t110 _ ?side1 ?side2 ?side3 ?side4 A14.out).mono ?_
       (case side1 => repeat (first | exact (Kd.R_reads' HO_10.out).2.2 | (with_reducible refine Kd.C_alloc ?_ _) | (with_reducible refine Kd.C_drewN ?_ _) | (with_reducible refine Kd.C_drew ?_)))
       (case side2 => exact (Kd.R_reads' HO_10.out).2.1)
       (case side3 => repeat (first | exact (Kd.C_below HR106_4.out HB.out) | (with_reducible refine Kd.C_alloc ?_ _) | (with_reducible refine Kd.C_drewN ?_ _) | (with_reducible refine Kd.C_drew ?_)))
       (case side4 => exact HC106_4.out)
       rintro e w18 ⟨v108, rfl, ho0, hb⟩
       refine ⟨_, rfl, ?_⟩
       have n0_ := zam (Kd.R_elder' (by (with_reducible repeat (first | apply zRa | apply zRn | apply zRd)); exact HO_10.out) (Kd.R_base ho0) hb)
       have n1_ := zam (Kd.R_lower (Kd.R_new' ho0 (Kd.R_lt (by (with_reducible repeat (first | apply zRa | apply zRn | apply zRd)); exact HO_10.out))) (zbz (by repeat (first | (with_reducible first | exact HB.out | apply zba | apply zbn | apply zb1 | refine zbs ?_ GE101.out) | exact HB.out))))
       have n2_ := zam (zkb (g := gb101) (o := .cells #[.int .i64 a0_0, .int .i64 a0_1] 72 (0, 0)) (by (with_reducible repeat (first | refine zkn ?_ _ | refine zkd ?_ | refine zka ?_ _)); exact BK101.out) hb)
       have n3_ := zam (zbt (by repeat (first | (with_reducible first | exact HB.out | apply zba | apply zbn | apply zb1 | refine zbs ?_ GE101.out) | exact HB.out)) hb)
       clear HO_10
       clear BK101
       clear HB
       have HO_10 := n0_
       have HO109 := n1_
       have BK101 := n2_
       have HB := n3_
       clear n0_ n1_ n2_ n3_
       (try clear hb)
       (try clear hb2)
       (try clear hk)
       (try clear hi)
       (try clear ho0)
       refine hK.out _ _ ⟨(zkc BK101.out 0).trans rfl, (zkc BK101.out 1).trans rfl, ((HB.out.cell (zwb w _ hw106_0)).trans hw106_0), ((HB.out.cell (zwb w _ hw106_1)).trans hw106_1), ((HB.out.cell (zwb w _ hw106_2)).trans hw106_2), ((HB.out.cell (zwb w _ hw106_3)).trans hw106_3), ((HB.out.cell (zwb w _ hw106_4)).trans hw106_4)⟩ (fun hHeld => ?_)
       clear hK K
       refine norm_ (a' := ?_) ?_ ?_
       rotate_left
       ·show Act.put _ (some 38) _ = _
        simp only [Act.put, zsa, zsz, zss, i64_w, i32_w]
        rfl
       refine pure_ (i := 7) (N := some 31) (v := ?_) (a' := ?_) #[true, true, true, true, true, true, true, true, false, false, false, false] rfl rfl (any_of HT_.out (by kernel_rfl)) (fun _ _ _ h => h) (Or.inl ⟨by rfl, ?_⟩) ?_ ?_
       rotate_left
       ·intro w'
        go_simp
        with_reducible rfl
       rotate_left
       ·simp only [Act.put, zsa, zsz, zss, i64_w, i32_w]
        rfl
       refine pure_ (i := 8) (N := some 39) (v := ?_) (a' := ?_) #[true, true, true, true, true, true, true, true, true, false, false, false] rfl rfl (any_of HT_.out (by kernel_rfl)) (fun _ _ _ h => h) (Or.inl ⟨by rfl, ?_⟩) ?_ ?_
       rotate_left
       ·intro w'
        go_simp
        with_reducible rfl
       rotate_left
       ·simp only [Act.put, zsa, zsz, zss, i64_w, i32_w]
        rfl
       refine pure_ (i := 9) (N := some 40) (v := ?_) (a' := ?_) #[true, true, true, true, true, true, true, true, true, true, false, false] rfl rfl (any_of HT_.out (by kernel_rfl)) (fun _ _ _ h => h) (Or.inl ⟨by rfl, ?_⟩) ?_ ?_
       rotate_left
       ·intro w'
        go_simp
        with_reducible rfl
       rotate_left
       ·simp only [Act.put, zsa, zsz, zss, i64_w, i32_w]
        rfl
       refine pure_ (i := 10) (N := some 13) (v := ?_) (a' := ?_) #[true, true, true, true, true, true, true, true, true, true, true, false] rfl rfl (any_of HT_.out (by kernel_rfl)) (fun _ _ _ h => h) (Or.inl ⟨by rfl, ?_⟩) ?_ ?_
       rotate_left
       ·intro w'
        go_simp
        with_reducible rfl
       rotate_left
       ·simp only [Act.put, zsa, zsz, zss, i64_w, i32_w]
        rfl
       refine pure_ (i := 11) (N := some 14) (v := ?_) (a' := ?_) #[true, true, true, true, true, true, true, true, true, true, true, true] rfl rfl (any_of HT_.out (by kernel_rfl)) (fun _ _ _ h => h) (Or.inl ⟨by rfl, ?_⟩) ?_ ?_
       rotate_left
       ·intro w'
        go_simp
        with_reducible rfl
       rotate_left
       ·simp only [Act.put, zsa, zsz, zss, i64_w, i32_w]
        rfl
       refine done_ (done_of HT_.out (by kernel_rfl)) ?_
       try go_wp2
       go_roundg k1
       case measure => have := HK1.out; omega
       case rel => exact ⟨(t107), (true), (wrap64 (x12_1 + 1)), (by first | rfl | (simp; done) | (simp [*]; done)), (by first | rfl | (simp; done) | (simp [*]; done)), H', ⟨by have := HK1.out; omega⟩, ⟨by (with_reducible repeat (first | apply zRa | apply zRn | apply zRd)); exact Kd.R_mono HO109.out (fun _ hk => trivial)⟩, ⟨by (with_reducible repeat (first | refine zkn ?_ _ | refine zkd ?_ | refine zka ?_ _)); exact BK101.out⟩, ⟨by repeat (first | (with_reducible first | exact HB.out | apply zba | apply zbn | apply zb1 | refine zbs ?_ GE101.out) | exact HB.out)⟩⟩
      replace c15 := Bool.eq_false_iff.mpr c15
      subst c15
      have H1 : (isobathref02_Where.l0 k1 l2 t107 t110 (wrap64 (x12_1 + 1)) a0_0 a0_1) = some (r1, r2, r3) := by rw [if_neg (show ¬ (false = true) by decide)] at H; exact H
      clear H
      have H := H1
      clear H1
      have H' := zam H
      clear H
      try go_wp2
      have n0_ := zam (zRd HO_10.out)
      have n1_ := zam (zkd BK101.out)
      have n2_ := zam (zb1 HB.out)
      clear HO_10
      clear BK101
      clear HB
      have HO_10 := n0_
      have BK101 := n1_
      have HB := n2_
      clear n0_ n1_ n2_
      have p106 : 0 ≤ (x12_1 : Int) := zod (by first | (with_reducible assumption) | assumption)
      have q106 : x12_1 < (l2.length : Int) := zod (by first | (with_reducible assumption) | assumption)
      obtain ⟨ad106, A106_4, c106_4, e106, hx106_0, hx106_1, hx106_2, hx106_3, hx106_4, hl106_4, hi106_4⟩ := at_T79 HR2.out x12_1 p106 q106
      have hw106_4 := hx106_4
      have hw106_3 := hx106_3
      have hw106_2 := hx106_2
      have hw106_1 := hx106_1
      have hw106_0 := hx106_0
      cases e106
      replace hx106_0 := (HB.out.cell (zwb w _ hx106_0)).trans hx106_0
      replace hx106_1 := (HB.out.cell (zwb w _ hx106_1)).trans hx106_1
      replace hx106_2 := (HB.out.cell (zwb w _ hx106_2)).trans hx106_2
      replace hx106_3 := (HB.out.cell (zwb w _ hx106_3)).trans hx106_3
      replace hx106_4 := (HB.out.cell (zwb w _ hx106_4)).trans hx106_4
      have HR106_4 := zam hi106_4
      have HC106_4 := zam hl106_4
      clear hi106_4 hl106_4
      replace p106 := eq_true p106
      replace q106 := eq_true q106
      obtain ⟨Ao20, co20, eo20⟩ := Kd.R_slice HO_10.out
      (first | subst eo20 | (injection eo20 with f1_ f2_ f3_; have f4_ := f1_.symm; have f5_ := f3_.symm; clear f1_ f2_ f3_; subst f4_; subst f5_))
      refine start_ (n := 12) (S := fun w' => w'.cell? ⟨gb101, 0, none⟩ = some (.int .i64 a0_0) ∧ w'.cell? ⟨gb101, 1, none⟩ = some (.int .i64 a0_1) ∧ w'.cell? (ad106.add ((x12_1).toNat * 5)) = some (.int .i64 ((rd_T79 l2 x12_1).f0.f0)) ∧ w'.cell? ⟨(ad106.add ((x12_1).toNat * 5)).block, (ad106.add ((x12_1).toNat * 5)).off + 1, none⟩ = some (.int .i64 ((rd_T79 l2 x12_1).f0.f1)) ∧ w'.cell? ⟨(ad106.add ((x12_1).toNat * 5)).block, (ad106.add ((x12_1).toNat * 5)).off + 2, none⟩ = some (.int .i64 ((rd_T79 l2 x12_1).f1.f0)) ∧ w'.cell? ⟨(ad106.add ((x12_1).toNat * 5)).block, (ad106.add ((x12_1).toNat * 5)).off + 3, none⟩ = some (.int .i64 ((rd_T79 l2 x12_1).f1.f1)) ∧ w'.cell? ⟨(ad106.add ((x12_1).toNat * 5)).block, (ad106.add ((x12_1).toNat * 5)).off + 4, none⟩ = some (.slice A106_4 ((rd_T79 l2 x12_1).f2).length c106_4)) (ds := []) #[false, false, false, false, false, false, false, false, false, false, false, false] (by kernel_rfl) rfl rfl ⟨(zkc BK101.out 0).trans rfl, (zkc BK101.out 1).trans rfl, ((HB.out.cell (zwb w _ hw106_0)).trans hw106_0), ((HB.out.cell (zwb w _ hw106_1)).trans hw106_1), ((HB.out.cell (zwb w _ hw106_2)).trans hw106_2), ((HB.out.cell (zwb w _ hw106_3)).trans hw106_3), ((HB.out.cell (zwb w _ hw106_4)).trans hw106_4)⟩ (fun hHeld => ?_); refine with_tabW isobathref02_Where.tab9 isobathref02_Where.bits9 (fun HT_ HW_ => ?_)
      generalize wr.drew = w19 at HO_10 BK101 HB HR106_4 hx106_0 hx106_1 hx106_2 hx106_3 hx106_4 hHeld ⊢
      refine pure_ (i := 1) (N := some 33) (v := ?_) (a' := ?_) #[false, true, false, false, false, false, false, false, false, false, false, false] rfl rfl (any_of HT_.out (by kernel_rfl)) (fun _ _ _ h => h) (Or.inl ⟨by rfl, ?_⟩) ?_ ?_
      rotate_left
      ·intro w'
       go_simp
       with_reducible rfl
      rotate_left
      ·simp only [Act.put, zsa, zsz, zss, i64_w, i32_w]
       rfl
      refine pure_ (i := 2) (N := some 34) (v := ?_) (a' := ?_) #[false, true, true, false, false, false, false, false, false, false, false, false] rfl rfl (any_of HT_.out (by kernel_rfl)) (fun _ _ _ h => h) (Or.inl ⟨by rfl, ?_⟩) ?_ ?_
      rotate_left
      ·intro w'
       go_simp
       with_reducible rfl
      rotate_left
      ·simp only [Act.put, zsa, zsz, zss, i64_w, i32_w]
       rfl
      refine pure_ (i := 3) (N := some 35) (v := ?_) (a' := ?_) #[false, true, true, true, false, false, false, false, false, false, false, false] rfl rfl (any_of HT_.out (by kernel_rfl)) (fun _ _ _ h => h) (Or.inl ⟨by rfl, ?_⟩) ?_ ?_
      rotate_left
      ·intro w'
       go_simp
       with_reducible rfl
      rotate_left
      ·simp only [Act.put, zsa, zsz, zss, i64_w, i32_w]
       rfl
      refine pure_ (i := 4) (N := some 36) (v := ?_) (a' := ?_) #[false, true, true, true, true, false, false, false, false, false, false, false] rfl rfl (any_of HT_.out (by kernel_rfl)) (fun _ _ _ h => h) (Or.inl ⟨by rfl, ?_⟩) ?_ ?_
      rotate_left
      ·intro w'
       go_simp
       with_reducible rfl
      rotate_left
      ·simp only [Act.put, zsa, zsz, zss, i64_w, i32_w]
       rfl
      refine take_ (i := 0) (N := some 32) (v := ?_) (a' := ?_) #[true, true, true, true, true, false, false, false, false, false, false, false] rfl rfl (take_ofW HT_.out HW_.out (by kernel_rfl)) (fun _ _ _ h => h) (Or.inl ⟨by rfl, ?_⟩) hHeld ?_ ?_
      rotate_left
      ·rintro w' ⟨s0, s1, s2, s3, s4, s5, s6⟩
       go_simp
       with_reducible rfl
      rotate_left
      ·simp only [Act.put, zsa, zsz, zss, i64_w, i32_w]
       rfl
      refine take_ (i := 5) (N := some 37) (v := ?_) (a' := ?_) #[true, true, true, true, true, true, false, false, false, false, false, false] rfl rfl (take_ofW HT_.out HW_.out (by kernel_rfl)) (fun _ _ _ h => h) (Or.inl ⟨by rfl, ?_⟩) hHeld ?_ ?_
      rotate_left
      ·rintro w' ⟨s0, s1, s2, s3, s4, s5, s6⟩
       go_simp
       with_reducible rfl
      rotate_left
      ·simp only [Act.put, zsa, zsz, zss, i64_w, i32_w]
       rfl
      refine one_ (i := 6) (N := some 38) #[true, true, true, true, true, true, true, false, false, false, false, false] rfl rfl (one_of HT_.out (by kernel_rfl)) (by decide) (fun K hK => ?_)
      refine goes_ Try.func81 (by kernel_rfl) rfl #[.agg #[.int .i64 a0_0, .int .i64 a0_1], .slice Ao20 x10_1.length co20, .agg #[.int .i64 ((rd_T79 l2 x12_1).f0.f0), .int .i64 ((rd_T79 l2 x12_1).f0.f1), .int .i64 ((rd_T79 l2 x12_1).f1.f0), .int .i64 ((rd_T79 l2 x12_1).f1.f1), .slice A106_4 ((rd_T79 l2 x12_1).f2).length c106_4]] (by rfl) rfl rfl (by (try simp only [zmt, List.map_cons, List.map_nil]); first | done | rfl | (simp only [zld, zlt]; rfl)) ?_
      with_reducible refine (isobathref02_Drift.calls k1 a0_0 a0_1 _ _ x10_1 ((rd_T79 l2 x12_1).f0.f0) ((rd_T79 l2 x12_1).f0.f1) ((rd_T79 l2 x12_1).f1.f0) ((rd_T79 l2 x12_1).f1.f1) _ _ ((rd_T79 l2 x12_1).f2) t107 t110 _ ?side1 ?side2 ?side3 ?side4 A14.out).mono ?_
      (case side1 => repeat (first | exact (Kd.R_reads' HO_10.out).2.2 | (with_reducible refine Kd.C_alloc ?_ _) | (with_reducible refine Kd.C_drewN ?_ _) | (with_reducible refine Kd.C_drew ?_)))
      (case side2 => exact (Kd.R_reads' HO_10.out).2.1)
      (case side3 => repeat (first | exact (Kd.C_below HR106_4.out HB.out) | (with_reducible refine Kd.C_alloc ?_ _) | (with_reducible refine Kd.C_drewN ?_ _) | (with_reducible refine Kd.C_drew ?_)))
      (case side4 => exact HC106_4.out)
      rintro e w21 ⟨v108, rfl, ho0, hb⟩
      refine ⟨_, rfl, ?_⟩
      have n0_ := zam (Kd.R_elder' (by (with_reducible repeat (first | apply zRa | apply zRn | apply zRd)); exact HO_10.out) (Kd.R_base ho0) hb)
      have n1_ := zam (Kd.R_lower (Kd.R_new' ho0 (Kd.R_lt (by (with_reducible repeat (first | apply zRa | apply zRn | apply zRd)); exact HO_10.out))) (zbz (by repeat (first | (with_reducible first | exact HB.out | apply zba | apply zbn | apply zb1 | refine zbs ?_ GE101.out) | exact HB.out))))
      have n2_ := zam (zkb (g := gb101) (o := .cells #[.int .i64 a0_0, .int .i64 a0_1] 72 (0, 0)) (by (with_reducible repeat (first | refine zkn ?_ _ | refine zkd ?_ | refine zka ?_ _)); exact BK101.out) hb)
      have n3_ := zam (zbt (by repeat (first | (with_reducible first | exact HB.out | apply zba | apply zbn | apply zb1 | refine zbs ?_ GE101.out) | exact HB.out)) hb)
      clear HO_10
      clear BK101
      clear HB
      have HO_10 := n0_
      have HO109 := n1_
      have BK101 := n2_
      have HB := n3_
      clear n0_ n1_ n2_ n3_
      (try clear hb)
      (try clear hb2)
      (try clear hk)
      (try clear hi)
      (try clear ho0)
      refine hK.out _ _ ⟨(zkc BK101.out 0).trans rfl, (zkc BK101.out 1).trans rfl, ((HB.out.cell (zwb w _ hw106_0)).trans hw106_0), ((HB.out.cell (zwb w _ hw106_1)).trans hw106_1), ((HB.out.cell (zwb w _ hw106_2)).trans hw106_2), ((HB.out.cell (zwb w _ hw106_3)).trans hw106_3), ((HB.out.cell (zwb w _ hw106_4)).trans hw106_4)⟩ (fun hHeld => ?_)
      clear hK K
      refine norm_ (a' := ?_) ?_ ?_
      rotate_left
      ·show Act.put _ (some 38) _ = _
       simp only [Act.put, zsa, zsz, zss, i64_w, i32_w]
       rfl
      refine pure_ (i := 7) (N := some 31) (v := ?_) (a' := ?_) #[true, true, true, true, true, true, true, true, false, false, false, false] rfl rfl (any_of HT_.out (by kernel_rfl)) (fun _ _ _ h => h) (Or.inl ⟨by rfl, ?_⟩) ?_ ?_
      rotate_left
      ·intro w'
       go_simp
       with_reducible rfl
      rotate_left
      ·simp only [Act.put, zsa, zsz, zss, i64_w, i32_w]
       rfl
      refine pure_ (i := 8) (N := some 39) (v := ?_) (a' := ?_) #[true, true, true, true, true, true, true, true, true, false, false, false] rfl rfl (any_of HT_.out (by kernel_rfl)) (fun _ _ _ h => h) (Or.inl ⟨by rfl, ?_⟩) ?_ ?_
      rotate_left
      ·intro w'
       go_simp
       with_reducible rfl
      rotate_left
      ·simp only [Act.put, zsa, zsz, zss, i64_w, i32_w]
       rfl
      refine pure_ (i := 9) (N := some 40) (v := ?_) (a' := ?_) #[true, true, true, true, true, true, true, true, true, true, false, false] rfl rfl (any_of HT_.out (by kernel_rfl)) (fun _ _ _ h => h) (Or.inl ⟨by rfl, ?_⟩) ?_ ?_
      rotate_left
      ·intro w'
       go_simp
       with_reducible rfl
      rotate_left
      ·simp only [Act.put, zsa, zsz, zss, i64_w, i32_w]
       rfl
      refine pure_ (i := 10) (N := some 13) (v := ?_) (a' := ?_) #[true, true, true, true, true, true, true, true, true, true, true, false] rfl rfl (any_of HT_.out (by kernel_rfl)) (fun _ _ _ h => h) (Or.inl ⟨by rfl, ?_⟩) ?_ ?_
      rotate_left
      ·intro w'
       go_simp
       with_reducible rfl
      rotate_left
      ·simp only [Act.put, zsa, zsz, zss, i64_w, i32_w]
       rfl
      refine pure_ (i := 11) (N := some 14) (v := ?_) (a' := ?_) #[true, true, true, true, true, true, true, true, true, true, true, true] rfl rfl (any_of HT_.out (by kernel_rfl)) (fun _ _ _ h => h) (Or.inl ⟨by rfl, ?_⟩) ?_ ?_
      rotate_left
      ·intro w'
       go_simp
       with_reducible rfl
      rotate_left
      ·simp only [Act.put, zsa, zsz, zss, i64_w, i32_w]
       rfl
      refine done_ (done_of HT_.out (by kernel_rfl)) ?_
      try go_wp2
      go_roundg k1
      case measure => have := HK1.out; omega
      case rel => exact ⟨(t107), (t110), (wrap64 (x12_1 + 1)), (by first | rfl | (simp; done) | (simp [*]; done)), (by first | rfl | (simp; done) | (simp [*]; done)), H', ⟨by have := HK1.out; omega⟩, ⟨by (with_reducible repeat (first | apply zRa | apply zRn | apply zRd)); exact Kd.R_mono HO109.out (fun _ hk => trivial)⟩, ⟨by (with_reducible repeat (first | refine zkn ?_ _ | refine zkd ?_ | refine zka ?_ _)); exact BK101.out⟩, ⟨by repeat (first | (with_reducible first | exact HB.out | apply zba | apply zbn | apply zb1 | refine zbs ?_ GE101.out) | exact HB.out)⟩⟩
     rw [if_neg c13] at H
     exact absurd H (by simp)
    rw [if_neg c12] at H
    have c12b0 : decide (x12_1 < (l2.length : Int)) = false := zdf c12
    clear c12
    replace H := Option.bind_eq_some_iff.mp H
    obtain ⟨t111, A220, H⟩ := H
    replace H : (some (t111, x11_1, 0)) = some (r1, r2, r3) := H
    have A22 := zam A220
    clear A220
    simp only [Option.some.injEq, Prod.mk.injEq] at H
    obtain ⟨rfl, rfl, rfl⟩ := H
    obtain ⟨Ao23, co23, eo23⟩ := Kd.R_slice HO_10.out
    subst eo23
    go_wp2_with (first | ((with_reducible refine zgc (f := 82) rfl ?_); refine goesL_ (some 47) rfl rfl Try.func82 (by kernel_rfl) rfl #[.slice Ao23 x10_1.length co23] rfl (by (try simp only [zmt, List.map_cons, List.map_nil]); first | done | rfl | (simp only [zld, zlt]; rfl)) ?_; (with_reducible refine (isobathref02_numbers.calls k1 _ _ x10_1 t111 _ ?side1 ?side2 A22.out).mono ?_); (case side1 => repeat (first | exact (Kd.R_reads' HO_10.out).2.2 | (with_reducible refine Kd.C_alloc ?_ _) | (with_reducible refine Kd.C_drewN ?_ _) | (with_reducible refine Kd.C_drew ?_))); (case side2 => exact (Kd.R_reads' HO_10.out).2.1); rintro e w24 ⟨v112, rfl, ho0, hb⟩; refine ⟨_, rfl, ?_⟩; have n0_ := zam (Kd.R_below (by (with_reducible repeat (first | apply zRa | apply zRn | apply zRd)); exact HO_10.out) hb); have n1_ := zam (Kd.R_lower ho0 (zbz (by repeat (first | (with_reducible first | exact HB.out | apply zba | apply zbn | apply zb1 | refine zbs ?_ GE101.out) | exact HB.out)))); have n2_ := zam (zkb (g := gb101) (o := .cells #[.int .i64 a0_0, .int .i64 a0_1] 72 (0, 0)) (by (with_reducible repeat (first | refine zkn ?_ _ | refine zkd ?_ | refine zka ?_ _)); exact BK101.out) hb); have n3_ := zam (zbt (by repeat (first | (with_reducible first | exact HB.out | apply zba | apply zbn | apply zb1 | refine zbs ?_ GE101.out) | exact HB.out)) hb); clear HO_10; clear BK101; clear HB; have HO_10 := n0_; have HO113 := n1_; have BK101 := n2_; have HB := n3_; clear n0_ n1_ n2_ n3_; (try clear hb); (try clear hb2); (try clear hk); (try clear hi); (try clear ho0)))
    go_ret3
    exact ⟨_, by first | rfl | (simp [errW_none, errW_some] <;> rfl) | (simp [*, errW_none, errW_some] <;> rfl), by (with_reducible repeat (first | apply zRa | apply zRn | apply zRd)); exact HO113.out, by repeat (first | (with_reducible first | exact HB.out | apply zba | apply zbn | apply zb1 | refine zbs ?_ GE101.out) | exact HB.out)⟩
 rw [if_neg c5] at H
 have c5b0 : (t102 == 0) = false := beq_eq_false_iff_ne.mpr c5
 have c5b1 : (t102 != 0) = true := bne_iff_ne.mpr c5
 simp only [Option.some.injEq, Prod.mk.injEq] at H
 obtain ⟨rfl, rfl, rfl⟩ := H
 go_enter Try.func47, Try.ntmps47
 go_wp2_with (first | ((with_reducible refine zgd (N := 3) rfl ?_); refine box_event ?hg (N := 3) ?hd (cs := #[.int .i64 a0_0, .int .i64 a0_1]) (t := 72) ?hr ?_; (case hd => rfl); (case hg => rfl); (case hr => first | (go_simp; done) | (go_simp; rfl)); intro gb101 hg w25 hbox hb; have n0_ := zam (zbt (by repeat (first | (with_reducible first | exact HB.out | apply zba | apply zbn | apply zb1) | exact HB.out)) hb); have n1_ := zam (hbox); have n2_ := zam ((by rw [hg]; exact (zbz (by repeat (first | (with_reducible first | exact HB.out | apply zba | apply zbn | apply zb1) | exact HB.out))) : w.heap.size ≤ gb101)); have n3_ := zam ((by rw [hg]; exact (zbz (by repeat (first | (with_reducible first | exact HB.out | apply zba | apply zbn | apply zb1) | exact HB.out))) : w.heap.size ≤ gb101)); clear HB; have HB := n0_; have BK101 := n1_; have GW101 := n2_; have GE101 := n3_; clear n0_ n1_ n2_ n3_; clear hb hbox hg; have hcz26_0 : w25.cell? ⟨gb101, 0, none⟩ = some (.int .i64 a0_0) := (zkc BK101.out 0).trans rfl; have hcz26_1 : w25.cell? ⟨gb101, 1, none⟩ = some (.int .i64 a0_1) := (zkc BK101.out 1).trans rfl; have hfz26_0 := zkz BK101.out 0; have hfz26_1 := zkz BK101.out 1) | ((with_reducible refine zgc (f := 79) rfl ?_); refine goesL_ (some 18) rfl rfl Try.func79 (by kernel_rfl) rfl #[.agg #[.int .i64 a0_0, .int .i64 a0_1], .slice A1 l1.length c1, .slice A2 l2.length c2] rfl (by (try simp only [zmt, List.map_cons, List.map_nil]); first | done | rfl | (simp only [zld, zlt]; rfl)) ?_; (with_reducible refine (isobathref02_search.calls k a0_0 a0_1 _ _ l1 _ _ l2 t102 _ ?side1 ?side2 ?side3 ?side4 A4.out).mono ?_); (case side1 => repeat (first | exact (Kd.C_below HR1.out HB.out) | (with_reducible refine Kd.C_alloc ?_ _) | (with_reducible refine Kd.C_drewN ?_ _) | (with_reducible refine Kd.C_drew ?_))); (case side2 => exact HC1.out); (case side3 => repeat (first | exact (Kd.C_below HR2.out HB.out) | (with_reducible refine Kd.C_alloc ?_ _) | (with_reducible refine Kd.C_drewN ?_ _) | (with_reducible refine Kd.C_drew ?_))); (case side4 => exact HC2.out); rintro e w27 ⟨rfl, hb⟩; refine ⟨_, rfl, ?_⟩; have n0_ := zam (zkb (g := gb101) (o := .cells #[.int .i64 a0_0, .int .i64 a0_1] 72 (0, 0)) (by (with_reducible repeat (first | refine zkn ?_ _ | refine zkd ?_ | refine zka ?_ _)); exact BK101.out) hb); have n1_ := zam (zbt (by repeat (first | (with_reducible first | exact HB.out | apply zba | apply zbn | apply zb1 | refine zbs ?_ GE101.out) | exact HB.out)) hb); clear BK101; clear HB; have BK101 := n0_; have HB := n1_; clear n0_ n1_; (try clear hb); (try clear hb2); (try clear hk); (try clear hi)))
 go_ret3
 exact ⟨_, by first | rfl | (simp [errW_none, errW_some] <;> rfl) | (simp [*, errW_none, errW_some] <;> rfl), by first | exact Kd.R_nil _ _ _ _ _ | exact Kd.N_nil _ _ _ _ _ | exact Kd.V_nil _ _ _ _ _ | exact Kd.Q_nil _ _ _ _ _ | exact Kd.S_nil _ _ _ _ _, by repeat (first | (with_reducible first | exact HB.out | apply zba | apply zbn | apply zb1 | refine zbs ?_ GE101.out) | exact HB.out)⟩
def mooring_area_check_1.f (a0_0 : Int) (a0_1 : Int) : Option (Bool) := if a0_0 > a0_1 then (some true) else (if a0_0 < (-4) then (some true) else (some (decide (a0_1 > 4))))
set_option maxHeartbeats 8000000 in
set_option maxRecDepth 100000 in
theorem mooring_area_check_1.calls (a0_0 : Int) (a0_1 : Int) (r : Bool) (w : World) (h : mooring_area_check_1.f a0_0 a0_1 = some r) :
  Calls Try.prog 94 #[.agg #[.int .i64 a0_0, .int .i64 a0_1]] w fun e w' => e = .returned (.bool r) ∧ Below w.heap.size w w' := by
 have hu57 := Try.underlying57
 have HB := zam (Below.refl w.heap.size w)
 have H : (if a0_0 > a0_1 then (some true) else (if a0_0 < (-4) then (some true) else (some (decide (a0_1 > 4))))) = some r := h
 clear h
 by_cases c2 : a0_0 > a0_1
 ·rw [if_pos c2] at H
  have c2b0 : decide (a0_1 < a0_0) = true := zdt c2
  clear c2
  obtain rfl := zsi H
  go_enter Try.func94, Try.ntmps94
  go_wp2_with (first | ((with_reducible refine zgd (N := 1) rfl ?_); refine box_event ?hg (N := 1) ?hd (cs := #[.int .i64 a0_0, .int .i64 a0_1]) (t := 57) ?hr ?_; (case hd => rfl); (case hg => rfl); (case hr => first | (go_simp; done) | (go_simp; rfl)); intro gb101 hg w3 hbox hb; have n0_ := zam (zbt (by repeat (first | (with_reducible first | exact HB.out | apply zba | apply zbn | apply zb1) | exact HB.out)) hb); have n1_ := zam (hbox); have n2_ := zam ((by rw [hg]; exact (zbz (by repeat (first | (with_reducible first | exact HB.out | apply zba | apply zbn | apply zb1) | exact HB.out))) : w.heap.size ≤ gb101)); have n3_ := zam ((by rw [hg]; exact (zbz (by repeat (first | (with_reducible first | exact HB.out | apply zba | apply zbn | apply zb1) | exact HB.out))) : w.heap.size ≤ gb101)); clear HB; have HB := n0_; have BK101 := n1_; have GW101 := n2_; have GE101 := n3_; clear n0_ n1_ n2_ n3_; clear hb hbox hg; have hcz4_0 : w3.cell? ⟨gb101, 0, none⟩ = some (.int .i64 a0_0) := (zkc BK101.out 0).trans rfl; have hcz4_1 : w3.cell? ⟨gb101, 1, none⟩ = some (.int .i64 a0_1) := (zkc BK101.out 1).trans rfl; have hfz4_0 := zkz BK101.out 0; have hfz4_1 := zkz BK101.out 1))
  go_ret
  exact ⟨by first | rfl | (simp [errW_none, errW_some] <;> rfl) | (simp [*, errW_none, errW_some] <;> rfl), by repeat (first | (with_reducible first | exact HB.out | apply zba | apply zbn | apply zb1 | refine zbs ?_ GE101.out) | exact HB.out)⟩
 rw [if_neg c2] at H
 have c2b0 : decide (a0_1 < a0_0) = false := zdf c2
 clear c2
 by_cases c5 : a0_0 < (-4)
 ·rw [if_pos c5] at H
  have c5b0 : decide (a0_0 < (-4)) = true := zdt c5
  clear c5
  obtain rfl := zsi H
  go_enter Try.func94, Try.ntmps94
  go_wp2_with (first | ((with_reducible refine zgd (N := 1) rfl ?_); refine box_event ?hg (N := 1) ?hd (cs := #[.int .i64 a0_0, .int .i64 a0_1]) (t := 57) ?hr ?_; (case hd => rfl); (case hg => rfl); (case hr => first | (go_simp; done) | (go_simp; rfl)); intro gb101 hg w6 hbox hb; have n0_ := zam (zbt (by repeat (first | (with_reducible first | exact HB.out | apply zba | apply zbn | apply zb1) | exact HB.out)) hb); have n1_ := zam (hbox); have n2_ := zam ((by rw [hg]; exact (zbz (by repeat (first | (with_reducible first | exact HB.out | apply zba | apply zbn | apply zb1) | exact HB.out))) : w.heap.size ≤ gb101)); have n3_ := zam ((by rw [hg]; exact (zbz (by repeat (first | (with_reducible first | exact HB.out | apply zba | apply zbn | apply zb1) | exact HB.out))) : w.heap.size ≤ gb101)); clear HB; have HB := n0_; have BK101 := n1_; have GW101 := n2_; have GE101 := n3_; clear n0_ n1_ n2_ n3_; clear hb hbox hg; have hcz7_0 : w6.cell? ⟨gb101, 0, none⟩ = some (.int .i64 a0_0) := (zkc BK101.out 0).trans rfl; have hcz7_1 : w6.cell? ⟨gb101, 1, none⟩ = some (.int .i64 a0_1) := (zkc BK101.out 1).trans rfl; have hfz7_0 := zkz BK101.out 0; have hfz7_1 := zkz BK101.out 1))
  go_ret
  exact ⟨by first | rfl | (simp [errW_none, errW_some] <;> rfl) | (simp [*, errW_none, errW_some] <;> rfl), by repeat (first | (with_reducible first | exact HB.out | apply zba | apply zbn | apply zb1 | refine zbs ?_ GE101.out) | exact HB.out)⟩
 rw [if_neg c5] at H
 have c5b0 : decide (a0_0 < (-4)) = false := zdf c5
 clear c5
 obtain rfl := zsi H
 go_enter Try.func94, Try.ntmps94
 go_wp2_with (first | ((with_reducible refine zgd (N := 1) rfl ?_); refine box_event ?hg (N := 1) ?hd (cs := #[.int .i64 a0_0, .int .i64 a0_1]) (t := 57) ?hr ?_; (case hd => rfl); (case hg => rfl); (case hr => first | (go_simp; done) | (go_simp; rfl)); intro gb101 hg w8 hbox hb; have n0_ := zam (zbt (by repeat (first | (with_reducible first | exact HB.out | apply zba | apply zbn | apply zb1) | exact HB.out)) hb); have n1_ := zam (hbox); have n2_ := zam ((by rw [hg]; exact (zbz (by repeat (first | (with_reducible first | exact HB.out | apply zba | apply zbn | apply zb1) | exact HB.out))) : w.heap.size ≤ gb101)); have n3_ := zam ((by rw [hg]; exact (zbz (by repeat (first | (with_reducible first | exact HB.out | apply zba | apply zbn | apply zb1) | exact HB.out))) : w.heap.size ≤ gb101)); clear HB; have HB := n0_; have BK101 := n1_; have GW101 := n2_; have GE101 := n3_; clear n0_ n1_ n2_ n3_; clear hb hbox hg; have hcz9_0 : w8.cell? ⟨gb101, 0, none⟩ = some (.int .i64 a0_0) := (zkc BK101.out 0).trans rfl; have hcz9_1 : w8.cell? ⟨gb101, 1, none⟩ = some (.int .i64 a0_1) := (zkc BK101.out 1).trans rfl; have hfz9_0 := zkz BK101.out 0; have hfz9_1 := zkz BK101.out 1))
 go_ret
 exact ⟨by first | rfl | (simp [errW_none, errW_some] <;> rfl) | (simp [*, errW_none, errW_some] <;> rfl), by repeat (first | (with_reducible first | exact HB.out | apply zba | apply zbn | apply zb1 | refine zbs ?_ GE101.out) | exact HB.out)⟩
def mooring_area_has.l0 : Nat → List Int → List Int → Int → Int → Int → Int → Option (Bool)
 | 0, _, _, _, _, _, _ => none
 | k + 1, x1, x7, x8, x9, x102000, x102001 => if x9 < x8 then (if 0 ≤ x9 then (if x9 < (x7.length : Int) then (if (rd x7 x9) < 0 then (some false) else (if (rd x7 x9) ≥ (wrap64 (x102000 * x102001)) then (some false) else (if x9 > 0 then (if 0 ≤ (wrap64 (x9 - 1)) then (if (wrap64 (x9 - 1)) < (x1.length : Int) then (if (rd x7 x9) ≤ (rd x1 (wrap64 (x9 - 1))) then (some false) else (mooring_area_has.l0 k x1 x7 x8 (wrap64 (x9 + 1)) x102000 x102001)) else (none)) else (none)) else (mooring_area_has.l0 k x1 x7 x8 (wrap64 (x9 + 1)) x102000 x102001)))) else (none)) else (none)) else (some true)
def mooring_area_has.f (k : Nat) (a0_0 : Int) (a0_1 : Int) (l1 : List Int) : Option (Bool) := mooring_area_has.l0 k l1 l1 (l1.length : Int) 0 a0_0 a0_1
set_option maxHeartbeats 8000000 in
set_option maxRecDepth 100000 in
theorem mooring_area_has.calls (k : Nat) (a0_0 : Int) (a0_1 : Int) (A1 : Option Addr) (c1 : Nat) (l1 : List Int) (r : Bool) (w : World) (hr1 : Kd.C (Kd.int .i64) w A1 l1.length l1) (hc1 : l1.length ≤ c1) (h : mooring_area_has.f k a0_0 a0_1 l1 = some r) :
  Calls Try.prog 93 #[.agg #[.int .i64 a0_0, .int .i64 a0_1], .slice A1 l1.length c1] w fun e w' => e = .returned (.bool r) ∧ Below w.heap.size w w' := by
 have hu120 := Try.underlying120
 have HR1 := zam hr1
 have HC1 := zam hc1
 clear hr1 hc1
 have HB := zam (Below.refl w.heap.size w)
 have H : (mooring_area_has.l0 k l1 l1 (l1.length : Int) 0 a0_0 a0_1) = some r := h
 clear h
 have H' := zam H
 clear H
 go_enter Try.func93, Try.ntmps93
 go_wp2_with (first | ((with_reducible refine zgd (N := 2) rfl ?_); refine box_event ?hg (N := 2) ?hd (cs := #[.int .i64 a0_0, .int .i64 a0_1]) (t := 120) ?hr ?_; (case hd => rfl); (case hg => rfl); (case hr => first | (go_simp; done) | (go_simp; rfl)); intro gb101 hg w3 hbox hb; have n0_ := zam (zbt (by repeat (first | (with_reducible first | exact HB.out | apply zba | apply zbn | apply zb1) | exact HB.out)) hb); have n1_ := zam (hbox); have n2_ := zam ((by rw [hg]; exact (zbz (by repeat (first | (with_reducible first | exact HB.out | apply zba | apply zbn | apply zb1) | exact HB.out))) : w.heap.size ≤ gb101)); have n3_ := zam ((by rw [hg]; exact (zbz (by repeat (first | (with_reducible first | exact HB.out | apply zba | apply zbn | apply zb1) | exact HB.out))) : w.heap.size ≤ gb101)); clear HB; have HB := n0_; have BK101 := n1_; have GW101 := n2_; have GE101 := n3_; clear n0_ n1_ n2_ n3_; clear hb hbox hg))
 go_loopg [9] k (fun kq v9 w' => ∃ (x9_1 : Int), v9 = .int .i64 x9_1 ∧ Aside0 (mooring_area_has.l0 kq l1 l1 (l1.length : Int) x9_1 a0_0 a0_1 = some r) ∧ Aside0 (kq ≤ k) ∧ Aside0 (w'.heap[gb101]? = some (.cells #[.int .i64 a0_0, .int .i64 a0_1] 120 (0, 0))) ∧ Aside0 (Below w.heap.size w w'))
 case atStart => exact ⟨(0), (by first | rfl | (simp; done) | (simp [*]; done)), H', ⟨Nat.le_refl _⟩, ⟨by (with_reducible repeat (first | refine zkn ?_ _ | refine zkd ?_ | refine zka ?_ _)); exact BK101.out⟩, ⟨by repeat (first | (with_reducible first | exact HB.out | apply zba | apply zbn | apply zb1 | refine zbs ?_ GE101.out) | exact HB.out)⟩⟩
 case round =>
  clear H'
  try clear c1
  try clear p2
  obtain ⟨x9_1, rfl, HA, HK1, BK101, HB⟩ := hrel
  cases gk with
  | zero => exact absurd HA.out (by simp [mooring_area_has.l0])
  | succ k1 =>
   have H := HA.out
   clear HA
   simp only [mooring_area_has.l0] at H
   by_cases c4 : x9_1 < (l1.length : Int)
   ·rw [if_pos c4] at H
    have c4b0 : decide (x9_1 < (l1.length : Int)) = true := zdt c4
    clear c4
    by_cases c5 : 0 ≤ x9_1
    ·rw [if_pos c5] at H
     have c5b0 : decide (0 ≤ x9_1) = true := zdt c5
     clear c5
     by_cases c6 : x9_1 < (l1.length : Int)
     ·rw [if_pos c6] at H
      have c6b0 : decide (x9_1 < (l1.length : Int)) = true := zdt c6
      clear c6
      by_cases c7 : (rd l1 x9_1) < 0
      ·rw [if_pos c7] at H
       have c7b0 : decide ((rd l1 x9_1) < 0) = true := zdt c7
       clear c7
       obtain rfl := zsi H
       have p102 : 0 ≤ (x9_1 : Int) := zod (by first | (with_reducible assumption) | assumption)
       have q102 : x9_1 < (l1.length : Int) := zod (by first | (with_reducible assumption) | assumption)
       obtain ⟨ad102, e102, hx102_0⟩ := Kd.at_int HR1.out x9_1 p102 q102
       cases e102
       replace hx102_0 := (HB.out.cell (zwb w _ hx102_0)).trans hx102_0
       replace p102 := eq_true p102
       replace q102 := eq_true q102
       go_wp2
       go_ret
       exact ⟨by first | rfl | (simp [errW_none, errW_some] <;> rfl) | (simp [*, errW_none, errW_some] <;> rfl), by repeat (first | (with_reducible first | exact HB.out | apply zba | apply zbn | apply zb1 | refine zbs ?_ GE101.out) | exact HB.out)⟩
      rw [if_neg c7] at H
      have c7b0 : decide ((rd l1 x9_1) < 0) = false := zdf c7
      clear c7
      by_cases c8 : (rd l1 x9_1) ≥ (wrap64 (a0_0 * a0_1))
      ·rw [if_pos c8] at H
       have c8b0 : decide ((wrap64 (a0_0 * a0_1)) ≤ (rd l1 x9_1)) = true := zdt c8
       clear c8
       obtain rfl := zsi H
       have p102 : 0 ≤ (x9_1 : Int) := zod (by first | (with_reducible assumption) | assumption)
       have q102 : x9_1 < (l1.length : Int) := zod (by first | (with_reducible assumption) | assumption)
       obtain ⟨ad102, e102, hx102_0⟩ := Kd.at_int HR1.out x9_1 p102 q102
       cases e102
       replace hx102_0 := (HB.out.cell (zwb w _ hx102_0)).trans hx102_0
       replace p102 := eq_true p102
       replace q102 := eq_true q102
       have hcz9_0 : wr.cell? ⟨gb101, 0, none⟩ = some (.int .i64 a0_0) := (zkc BK101.out 0).trans rfl
       have hcz9_1 : wr.cell? ⟨gb101, 1, none⟩ = some (.int .i64 a0_1) := (zkc BK101.out 1).trans rfl
       have hfz9_0 := zkz BK101.out 0
       have hfz9_1 := zkz BK101.out 1
       go_wp2
       go_ret
       exact ⟨by first | rfl | (simp [errW_none, errW_some] <;> rfl) | (simp [*, errW_none, errW_some] <;> rfl), by repeat (first | (with_reducible first | exact HB.out | apply zba | apply zbn | apply zb1 | refine zbs ?_ GE101.out) | exact HB.out)⟩
      rw [if_neg c8] at H
      have c8b0 : decide ((wrap64 (a0_0 * a0_1)) ≤ (rd l1 x9_1)) = false := zdf c8
      clear c8
      by_cases c10 : x9_1 > 0
      ·rw [if_pos c10] at H
       have c10b0 : decide (0 < x9_1) = true := zdt c10
       clear c10
       obtain ⟨ji11, hji11⟩ : ∃ j_ : Int, (wrap64 (x9_1 - 1)) = j_ := ⟨_, rfl⟩
       replace H : (if 0 ≤ (ji11) then (if (ji11) < (l1.length : Int) then (if (rd l1 x9_1) ≤ (rd l1 (ji11)) then (some false) else (mooring_area_has.l0 k1 l1 l1 (l1.length : Int) (wrap64 (x9_1 + 1)) a0_0 a0_1)) else (none)) else (none)) = some r := by first | (rw [hji11] at H; exact H) | (simp only [hji11] at H ⊢; exact H)
       have hji11w : (IntKind.i64.wrap (x9_1 - 1)) = ji11 := (i64_w _).trans hji11
       by_cases c12 : 0 ≤ (ji11)
       ·rw [if_pos c12] at H
        have c12b0 : decide (0 ≤ (ji11)) = true := zdt c12
        clear c12
        by_cases c13 : (ji11) < (l1.length : Int)
        ·rw [if_pos c13] at H
         have c13b0 : decide ((ji11) < (l1.length : Int)) = true := zdt c13
         clear c13
         by_cases c14 : (rd l1 x9_1) ≤ (rd l1 (ji11))
         ·rw [if_pos c14] at H
          have c14b0 : decide ((rd l1 x9_1) ≤ (rd l1 (ji11))) = true := zdt c14
          clear c14
          obtain rfl := zsi H
          have p102 : 0 ≤ (x9_1 : Int) := zod (by first | (with_reducible assumption) | assumption)
          have q102 : x9_1 < (l1.length : Int) := zod (by first | (with_reducible assumption) | assumption)
          obtain ⟨ad102, e102, hx102_0⟩ := Kd.at_int HR1.out x9_1 p102 q102
          cases e102
          replace hx102_0 := (HB.out.cell (zwb w _ hx102_0)).trans hx102_0
          replace p102 := eq_true p102
          replace q102 := eq_true q102
          have hcz15_0 : wr.cell? ⟨gb101, 0, none⟩ = some (.int .i64 a0_0) := (zkc BK101.out 0).trans rfl
          have hcz15_1 : wr.cell? ⟨gb101, 1, none⟩ = some (.int .i64 a0_1) := (zkc BK101.out 1).trans rfl
          have hfz15_0 := zkz BK101.out 0
          have hfz15_1 := zkz BK101.out 1
          have p103 : 0 ≤ ((ji11) : Int) := zod (by first | (with_reducible assumption) | assumption)
          have q103 : (ji11) < (l1.length : Int) := zod (by first | (with_reducible assumption) | assumption)
          obtain ⟨ad103, e103, hx103_0⟩ := Kd.at_int HR1.out (ji11) p103 q103
          obtain rfl : ad102 = ad103 := (by injection e103)
          replace hx103_0 := (HB.out.cell (zwb w _ hx103_0)).trans hx103_0
          replace p103 := eq_true p103
          replace q103 := eq_true q103
          go_wp2
          go_ret
          exact ⟨by first | rfl | (simp [errW_none, errW_some] <;> rfl) | (simp only [← hji11]; first | rfl | (simp [errW_none, errW_some] <;> rfl)) | (simp [*, errW_none, errW_some] <;> rfl), by repeat (first | (with_reducible first | exact HB.out | apply zba | apply zbn | apply zb1 | refine zbs ?_ GE101.out) | exact HB.out)⟩
         rw [if_neg c14] at H
         have c14b0 : decide ((rd l1 x9_1) ≤ (rd l1 (ji11))) = false := zdf c14
         clear c14
         have H' := zam H
         clear H
         have p102 : 0 ≤ (x9_1 : Int) := zod (by first | (with_reducible assumption) | assumption)
         have q102 : x9_1 < (l1.length : Int) := zod (by first | (with_reducible assumption) | assumption)
         obtain ⟨ad102, e102, hx102_0⟩ := Kd.at_int HR1.out x9_1 p102 q102
         cases e102
         replace hx102_0 := (HB.out.cell (zwb w _ hx102_0)).trans hx102_0
         replace p102 := eq_true p102
         replace q102 := eq_true q102
         have hcz16_0 : wr.cell? ⟨gb101, 0, none⟩ = some (.int .i64 a0_0) := (zkc BK101.out 0).trans rfl
         have hcz16_1 : wr.cell? ⟨gb101, 1, none⟩ = some (.int .i64 a0_1) := (zkc BK101.out 1).trans rfl
         have hfz16_0 := zkz BK101.out 0
         have hfz16_1 := zkz BK101.out 1
         have p103 : 0 ≤ ((ji11) : Int) := zod (by first | (with_reducible assumption) | assumption)
         have q103 : (ji11) < (l1.length : Int) := zod (by first | (with_reducible assumption) | assumption)
         obtain ⟨ad103, e103, hx103_0⟩ := Kd.at_int HR1.out (ji11) p103 q103
         obtain rfl : ad102 = ad103 := (by injection e103)
         replace hx103_0 := (HB.out.cell (zwb w _ hx103_0)).trans hx103_0
         replace p103 := eq_true p103
         replace q103 := eq_true q103
         go_wp2
         go_roundg k1
         case measure => have := HK1.out; omega
         case rel => exact ⟨(wrap64 (x9_1 + 1)), (by first | rfl | (simp; done) | (simp [*]; done)), H', ⟨by have := HK1.out; omega⟩, ⟨by (with_reducible repeat (first | refine zkn ?_ _ | refine zkd ?_ | refine zka ?_ _)); exact BK101.out⟩, ⟨by repeat (first | (with_reducible first | exact HB.out | apply zba | apply zbn | apply zb1 | refine zbs ?_ GE101.out) | exact HB.out)⟩⟩
        rw [if_neg c13] at H
        exact absurd H (by simp)
       rw [if_neg c12] at H
       exact absurd H (by simp)
      rw [if_neg c10] at H
      have c10b0 : decide (0 < x9_1) = false := zdf c10
      clear c10
      have H' := zam H
      clear H
      have p102 : 0 ≤ (x9_1 : Int) := zod (by first | (with_reducible assumption) | assumption)
      have q102 : x9_1 < (l1.length : Int) := zod (by first | (with_reducible assumption) | assumption)
      obtain ⟨ad102, e102, hx102_0⟩ := Kd.at_int HR1.out x9_1 p102 q102
      cases e102
      replace hx102_0 := (HB.out.cell (zwb w _ hx102_0)).trans hx102_0
      replace p102 := eq_true p102
      replace q102 := eq_true q102
      have hcz17_0 : wr.cell? ⟨gb101, 0, none⟩ = some (.int .i64 a0_0) := (zkc BK101.out 0).trans rfl
      have hcz17_1 : wr.cell? ⟨gb101, 1, none⟩ = some (.int .i64 a0_1) := (zkc BK101.out 1).trans rfl
      have hfz17_0 := zkz BK101.out 0
      have hfz17_1 := zkz BK101.out 1
      go_wp2
      go_roundg k1
      case measure => have := HK1.out; omega
      case rel => exact ⟨(wrap64 (x9_1 + 1)), (by first | rfl | (simp; done) | (simp [*]; done)), H', ⟨by have := HK1.out; omega⟩, ⟨by (with_reducible repeat (first | refine zkn ?_ _ | refine zkd ?_ | refine zka ?_ _)); exact BK101.out⟩, ⟨by repeat (first | (with_reducible first | exact HB.out | apply zba | apply zbn | apply zb1 | refine zbs ?_ GE101.out) | exact HB.out)⟩⟩
     rw [if_neg c6] at H
     exact absurd H (by simp)
    rw [if_neg c5] at H
    exact absurd H (by simp)
   rw [if_neg c4] at H
   have c4b0 : decide (x9_1 < (l1.length : Int)) = false := zdf c4
   clear c4
   obtain rfl := zsi H
   go_wp2
   go_ret
   exact ⟨by first | rfl | (simp [errW_none, errW_some] <;> rfl) | (simp [*, errW_none, errW_some] <;> rfl), by repeat (first | (with_reducible first | exact HB.out | apply zba | apply zbn | apply zb1 | refine zbs ?_ GE101.out) | exact HB.out)⟩
mutual
def mooring_area_check.j0 : Nat → List (S79) → Bool → Int → Int → Option (Int)
 | 0, _, _, _, _ => none
 | k + 1, x2, x36, x102000, x102001 => if x36 = true then (some 2) else (mooring_area_check.l0 k x2 (x2.length : Int) 0 x102000 x102001)
def mooring_area_check.l0 : Nat → List (S79) → Int → Int → Int → Int → Option (Int)
 | 0, _, _, _, _, _ => none
 | k + 1, x37, x38, x39, x102000, x102001 => if x39 < x38 then (if 0 ≤ x39 then (if x39 < (x37.length : Int) then ((mooring_area_check_1.f ((rd_T79 x37 x39).f0.f0) ((rd_T79 x37 x39).f0.f1)).bind fun t105 => (if t105 = true then (some 2) else ((mooring_area_check_1.f ((rd_T79 x37 x39).f1.f0) ((rd_T79 x37 x39).f1.f1)).bind fun t106 => (if t106 = true then (some 2) else ((mooring_area_has.f k x102000 x102001 ((rd_T79 x37 x39).f2)).bind fun t107 => (if t107 = true then (mooring_area_check.l0 k x37 x38 (wrap64 (x39 + 1)) x102000 x102001) else (some 2))))))) else (none)) else (none)) else (some 0)
end
def mooring_area_check.f (k : Nat) (a0_0 : Int) (a0_1 : Int) (l1 : List Int) (l2 : List (S79)) : Option (Int) := if (l2.length : Int) > 48 then (some 6) else (if (mn a0_0 a0_1) < 1 then (mooring_area_check.j0 k l2 true a0_0 a0_1) else (if (mx a0_0 a0_1) > 24 then (mooring_area_check.j0 k l2 true a0_0 a0_1) else ((mooring_area_has.f k a0_0 a0_1 l1).bind fun t102 => (mooring_area_check.j0 k l2 (!t102) a0_0 a0_1))))
set_option maxHeartbeats 8000000 in
set_option maxRecDepth 100000 in
theorem mooring_area_check.calls (k : Nat) (a0_0 : Int) (a0_1 : Int) (A1 : Option Addr) (c1 : Nat) (l1 : List Int) (A2 : Option Addr) (c2 : Nat) (l2 : List (S79)) (r : Int) (w : World) (hr1 : Kd.C (Kd.int .i64) w A1 l1.length l1) (hc1 : l1.length ≤ c1) (hr2 : Kd.C k79 w A2 l2.length l2) (hc2 : l2.length ≤ c2) (h : mooring_area_check.f k a0_0 a0_1 l1 l2 = some r) :
  Calls Try.prog 83 #[.agg #[.int .i64 a0_0, .int .i64 a0_1], .slice A1 l1.length c1, .slice A2 l2.length c2] w fun e w' => e = .returned (.int .i64 r) ∧ Below w.heap.size w w' := by
 have hu120 := Try.underlying120
 have hu79 := Try.underlying79
 have hu57 := Try.underlying57
 have HR1 := zam hr1
 have HC1 := zam hc1
 clear hr1 hc1
 have HR2 := zam hr2
 have HC2 := zam hc2
 clear hr2 hc2
 have HB := zam (Below.refl w.heap.size w)
 have H : (if (l2.length : Int) > 48 then (some 6) else (if (mn a0_0 a0_1) < 1 then (mooring_area_check.j0 k l2 true a0_0 a0_1) else (if (mx a0_0 a0_1) > 24 then (mooring_area_check.j0 k l2 true a0_0 a0_1) else ((mooring_area_has.f k a0_0 a0_1 l1).bind fun t102 => (mooring_area_check.j0 k l2 (!t102) a0_0 a0_1))))) = some r := h
 clear h
 by_cases c4 : (l2.length : Int) > 48
 ·rw [if_pos c4] at H
  have c4b0 : decide (48 < (l2.length : Int)) = true := zdt c4
  have c4b1 : decide (48 < l2.length) = true := zdt (by omega)
  clear c4
  obtain rfl := zsi H
  go_enter Try.func83, Try.ntmps83
  go_wp2_with (first | ((with_reducible refine zgd (N := 3) rfl ?_); (try (refine gate_guard (by rfl) ?_; dsimp only)); refine box_event ?hg (N := 3) ?hd (cs := #[.int .i64 a0_0, .int .i64 a0_1]) (t := 120) ?hr ?_; (case hd => rfl); (case hg => rfl); (case hr => first | (go_simp; done) | (go_simp; rfl)); intro gb101 hg w5 hbox hb; have n0_ := zam (zbt (by repeat (first | (with_reducible first | exact HB.out | apply zba | apply zbn | apply zb1) | exact HB.out)) hb); have n1_ := zam (hbox); have n2_ := zam ((by rw [hg]; exact (zbz (by repeat (first | (with_reducible first | exact HB.out | apply zba | apply zbn | apply zb1) | exact HB.out))) : w.heap.size ≤ gb101)); have n3_ := zam ((by rw [hg]; exact (zbz (by repeat (first | (with_reducible first | exact HB.out | apply zba | apply zbn | apply zb1) | exact HB.out))) : w.heap.size ≤ gb101)); clear HB; have HB := n0_; have BK101 := n1_; have GW101 := n2_; have GE101 := n3_; clear n0_ n1_ n2_ n3_; clear hb hbox hg))
  go_ret
  exact ⟨by first | rfl | (simp [errW_none, errW_some] <;> rfl) | (simp [*, errW_none, errW_some] <;> rfl), by repeat (first | (with_reducible first | exact HB.out | apply zba | apply zbn | apply zb1 | refine zbs ?_ GE101.out) | exact HB.out)⟩
 rw [if_neg c4] at H
 have c4b0 : decide (48 < (l2.length : Int)) = false := zdf c4
 have c4b1 : decide (48 < l2.length) = false := zdf (by omega)
 clear c4
 have HC6 := zam H
 clear H
 go_enter Try.func83, Try.ntmps83
 go_upto_region 3 with (first | ((with_reducible refine zgd (N := 3) rfl ?_); (try (refine gate_guard (by rfl) ?_; dsimp only)); refine box_event ?hg (N := 3) ?hd (cs := #[.int .i64 a0_0, .int .i64 a0_1]) (t := 120) ?hr ?_; (case hd => rfl); (case hg => rfl); (case hr => first | (go_simp; done) | (go_simp; rfl)); intro gb101 hg w7 hbox hb; have n0_ := zam (zbt (by repeat (first | (with_reducible first | exact HB.out | apply zba | apply zbn | apply zb1) | exact HB.out)) hb); have n1_ := zam (hbox); have n2_ := zam ((by rw [hg]; exact (zbz (by repeat (first | (with_reducible first | exact HB.out | apply zba | apply zbn | apply zb1) | exact HB.out))) : w.heap.size ≤ gb101)); have n3_ := zam ((by rw [hg]; exact (zbz (by repeat (first | (with_reducible first | exact HB.out | apply zba | apply zbn | apply zb1) | exact HB.out))) : w.heap.size ≤ gb101)); clear HB; have HB := n0_; have BK101 := n1_; have GW101 := n2_; have GE101 := n3_; clear n0_ n1_ n2_ n3_; clear hb hbox hg))
 (try simp only [Act.put, zsa, zsz, zss])
 go_cut [36] (fun v36 wc => ∃ (kq : Nat) (x36_5 : Bool), v36 = .bool x36_5 ∧ Aside0 (mooring_area_check.j0 kq l2 x36_5 a0_0 a0_1 = some r) ∧ Aside0 (kq ≤ k) ∧ Aside0 (wc.heap[gb101]? = some (.cells #[.int .i64 a0_0, .int .i64 a0_1] 120 (0, 0))) ∧ Aside0 (Below w.heap.size w wc))
 case first =>
  have H := HC6.out
  clear HC6
  obtain ⟨ji8, hji8⟩ : ∃ j_ : Int, (mn a0_0 a0_1) = j_ := ⟨_, rfl⟩
  replace H : (if (ji8) < 1 then (mooring_area_check.j0 k l2 true a0_0 a0_1) else (if (mx a0_0 a0_1) > 24 then (mooring_area_check.j0 k l2 true a0_0 a0_1) else ((mooring_area_has.f k a0_0 a0_1 l1).bind fun t102 => (mooring_area_check.j0 k l2 (!t102) a0_0 a0_1)))) = some r := by first | (rw [hji8] at H; exact H) | (simp only [hji8] at H ⊢; exact H)
  have hji8_ : (if a0_1 < a0_0 then a0_1 else a0_0) = ji8 := hji8
  by_cases c9 : (ji8) < 1
  ·rw [if_pos c9] at H
   have c9b0 : decide ((ji8) < 1) = true := zdt c9
   clear c9
   (first | rw [c9b0] | (simp only [i64_w, i32_w]; rw [c9b0]) | skip)
   have H' := zam H
   clear H
   have hcz10_0 : w7.cell? ⟨gb101, 0, none⟩ = some (.int .i64 a0_0) := (zkc BK101.out 0).trans rfl
   have hcz10_1 : w7.cell? ⟨gb101, 1, none⟩ = some (.int .i64 a0_1) := (zkc BK101.out 1).trans rfl
   have hfz10_0 := zkz BK101.out 0
   have hfz10_1 := zkz BK101.out 1
   go_wp2
   go_meet
   case rel => exact ⟨_, (true), (by first | rfl | (simp; done) | (simp [*]; done)), H', ⟨by first | omega | exact Nat.le_refl _⟩, ⟨by (with_reducible repeat (first | refine zkn ?_ _ | refine zkd ?_ | refine zka ?_ _)); exact BK101.out⟩, ⟨by repeat (first | (with_reducible first | exact HB.out | apply zba | apply zbn | apply zb1 | refine zbs ?_ GE101.out) | exact HB.out)⟩⟩
  rw [if_neg c9] at H
  have c9b0 : decide ((ji8) < 1) = false := zdf c9
  clear c9
  (first | rw [c9b0] | (simp only [i64_w, i32_w]; rw [c9b0]) | skip)
  obtain ⟨ji11, hji11⟩ : ∃ j_ : Int, (mx a0_0 a0_1) = j_ := ⟨_, rfl⟩
  replace H : (if (ji11) > 24 then (mooring_area_check.j0 k l2 true a0_0 a0_1) else ((mooring_area_has.f k a0_0 a0_1 l1).bind fun t102 => (mooring_area_check.j0 k l2 (!t102) a0_0 a0_1))) = some r := by first | (rw [hji11] at H; exact H) | (simp only [hji11] at H ⊢; exact H)
  have hji11_ : (if a0_0 < a0_1 then a0_1 else a0_0) = ji11 := hji11
  by_cases c12 : (ji11) > 24
  ·rw [if_pos c12] at H
   have c12b0 : decide (24 < (ji11)) = true := zdt c12
   clear c12
   have H' := zam H
   clear H
   have hcz13_0 : w7.cell? ⟨gb101, 0, none⟩ = some (.int .i64 a0_0) := (zkc BK101.out 0).trans rfl
   have hcz13_1 : w7.cell? ⟨gb101, 1, none⟩ = some (.int .i64 a0_1) := (zkc BK101.out 1).trans rfl
   have hfz13_0 := zkz BK101.out 0
   have hfz13_1 := zkz BK101.out 1
   go_wp2
   go_meet
   case rel => exact ⟨_, (true), (by first | rfl | (simp; done) | (simp [*]; done)), H', ⟨by first | omega | exact Nat.le_refl _⟩, ⟨by (with_reducible repeat (first | refine zkn ?_ _ | refine zkd ?_ | refine zka ?_ _)); exact BK101.out⟩, ⟨by repeat (first | (with_reducible first | exact HB.out | apply zba | apply zbn | apply zb1 | refine zbs ?_ GE101.out) | exact HB.out)⟩⟩
  rw [if_neg c12] at H
  have c12b0 : decide (24 < (ji11)) = false := zdf c12
  clear c12
  replace H := Option.bind_eq_some_iff.mp H
  obtain ⟨t102, A140, H⟩ := H
  replace H : (mooring_area_check.j0 k l2 (!t102) a0_0 a0_1) = some r := H
  have A14 := zam A140
  clear A140
  have H' := zam H
  clear H
  have hcz15_0 : w7.cell? ⟨gb101, 0, none⟩ = some (.int .i64 a0_0) := (zkc BK101.out 0).trans rfl
  have hcz15_1 : w7.cell? ⟨gb101, 1, none⟩ = some (.int .i64 a0_1) := (zkc BK101.out 1).trans rfl
  have hfz15_0 := zkz BK101.out 0
  have hfz15_1 := zkz BK101.out 1
  go_wp2_with (first | (go_at_call 93; (with_reducible refine (mooring_area_has.calls k a0_0 a0_1 _ _ l1 t102 _ ?side1 ?side2 A14.out).mono ?_); (case side1 => repeat (first | exact (Kd.C_below HR1.out HB.out) | (with_reducible refine Kd.C_alloc ?_ _) | (with_reducible refine Kd.C_drewN ?_ _) | (with_reducible refine Kd.C_drew ?_))); (case side2 => exact HC1.out); rintro e w16 ⟨rfl, hb⟩; have n0_ := zam (zkb (g := gb101) (o := .cells #[.int .i64 a0_0, .int .i64 a0_1] 120 (0, 0)) (by (with_reducible repeat (first | refine zkn ?_ _ | refine zkd ?_ | refine zka ?_ _)); exact BK101.out) hb); have n1_ := zam (zbt (by repeat (first | (with_reducible first | exact HB.out | apply zba | apply zbn | apply zb1 | refine zbs ?_ GE101.out) | exact HB.out)) hb); clear BK101; clear HB; have BK101 := n0_; have HB := n1_; clear n0_ n1_; (try clear hb); (try clear hb2); (try clear hk); (try clear hi)))
  go_meet
  case rel => exact ⟨_, (!t102), (by first | rfl | (simp; done) | (simp [*]; done)), H', ⟨by first | omega | exact Nat.le_refl _⟩, ⟨by (with_reducible repeat (first | refine zkn ?_ _ | refine zkd ?_ | refine zka ?_ _)); exact BK101.out⟩, ⟨by repeat (first | (with_reducible first | exact HB.out | apply zba | apply zbn | apply zb1 | refine zbs ?_ GE101.out) | exact HB.out)⟩⟩
 case rest =>
  clear HC6
  try clear c1
  try clear c2
  try clear p2
  try clear c4
  try clear c4b0
  try clear c4b1
  try clear c8
  try clear c9
  try clear c9b0
  try clear c12
  try clear c12b0
  try clear hcz10_0
  try clear hcz10_1
  try clear hcz13_0
  try clear hcz13_1
  try clear hcz15_0
  try clear hcz15_1
  try clear hfz10_0
  try clear hfz10_1
  try clear hfz13_0
  try clear hfz13_1
  try clear hfz15_0
  try clear hfz15_1
  obtain ⟨kq, x36_5, rfl, HA, HJ5, BK101, HB⟩ := hcut
  cases kq with
  | zero => exact absurd HA.out (by simp [mooring_area_check.j0])
  | succ kj5 =>
   have H := HA.out
   clear HA
   simp only [mooring_area_check.j0] at H
   by_cases c17 : x36_5 = true
   ·subst c17
    have H1 : (some 2) = some r := by rw [if_pos rfl] at H; exact H
    clear H
    have H := H1
    clear H1
    obtain rfl := zsi H
    go_wp2
    go_ret
    exact ⟨by first | rfl | (simp [errW_none, errW_some] <;> rfl) | (simp [*, errW_none, errW_some] <;> rfl), by repeat (first | (with_reducible first | exact HB.out | apply zba | apply zbn | apply zb1 | refine zbs ?_ GE101.out) | exact HB.out)⟩
   replace c17 := Bool.eq_false_iff.mpr c17
   subst c17
   have H1 : (mooring_area_check.l0 kj5 l2 (l2.length : Int) 0 a0_0 a0_1) = some r := by rw [if_neg (show ¬ (false = true) by decide)] at H; exact H
   clear H
   have H := H1
   clear H1
   have H' := zam H
   clear H
   go_wp2
   go_loopg [39] kj5 (fun kq v39 w' => ∃ (x39_2 : Int), v39 = .int .i64 x39_2 ∧ Aside0 (mooring_area_check.l0 kq l2 (l2.length : Int) x39_2 a0_0 a0_1 = some r) ∧ Aside0 (kq ≤ kj5) ∧ Aside0 (w'.heap[gb101]? = some (.cells #[.int .i64 a0_0, .int .i64 a0_1] 120 (0, 0))) ∧ Aside0 (Below w.heap.size w w'))
   case atStart => exact ⟨(0), (by first | rfl | (simp; done) | (simp [*]; done)), H', ⟨Nat.le_refl _⟩, ⟨by (with_reducible repeat (first | refine zkn ?_ _ | refine zkd ?_ | refine zka ?_ _)); exact BK101.out⟩, ⟨by repeat (first | (with_reducible first | exact HB.out | apply zba | apply zbn | apply zb1 | refine zbs ?_ GE101.out) | exact HB.out)⟩⟩
   case round =>
    clear H'
    try clear c1
    try clear c2
    try clear p2
    try clear c4
    try clear c4b0
    try clear c4b1
    try clear c8
    try clear c9
    try clear c9b0
    try clear c12
    try clear c12b0
    try clear c17
    try clear hcz10_0
    try clear hcz10_1
    try clear hcz13_0
    try clear hcz13_1
    try clear hcz15_0
    try clear hcz15_1
    try clear hfz10_0
    try clear hfz10_1
    try clear hfz13_0
    try clear hfz13_1
    try clear hfz15_0
    try clear hfz15_1
    try clear p2
    obtain ⟨x39_2, rfl, HA, HK2, BK101, HB⟩ := hrel
    cases gk with
    | zero => exact absurd HA.out (by simp [mooring_area_check.l0])
    | succ k2 =>
     have H := HA.out
     clear HA
     simp only [mooring_area_check.l0] at H
     by_cases c18 : x39_2 < (l2.length : Int)
     ·rw [if_pos c18] at H
      have c18b0 : decide (x39_2 < (l2.length : Int)) = true := zdt c18
      clear c18
      by_cases c19 : 0 ≤ x39_2
      ·rw [if_pos c19] at H
       have c19b0 : decide (0 ≤ x39_2) = true := zdt c19
       clear c19
       by_cases c20 : x39_2 < (l2.length : Int)
       ·rw [if_pos c20] at H
        have c20b0 : decide (x39_2 < (l2.length : Int)) = true := zdt c20
        clear c20
        replace H := Option.bind_eq_some_iff.mp H
        obtain ⟨t105, A210, H⟩ := H
        replace H : (if t105 = true then (some 2) else ((mooring_area_check_1.f ((rd_T79 l2 x39_2).f1.f0) ((rd_T79 l2 x39_2).f1.f1)).bind fun t106 => (if t106 = true then (some 2) else ((mooring_area_has.f k2 a0_0 a0_1 ((rd_T79 l2 x39_2).f2)).bind fun t107 => (if t107 = true then (mooring_area_check.l0 k2 l2 (l2.length : Int) (wrap64 (x39_2 + 1)) a0_0 a0_1) else (some 2)))))) = some r := H
        have A21 := zam A210
        clear A210
        by_cases c22 : t105 = true
        ·subst c22
         have H1 : (some 2) = some r := by rw [if_pos rfl] at H; exact H
         clear H
         have H := H1
         clear H1
         obtain rfl := zsi H
         have p103 : 0 ≤ (x39_2 : Int) := zod (by first | (with_reducible assumption) | assumption)
         have q103 : x39_2 < (l2.length : Int) := zod (by first | (with_reducible assumption) | assumption)
         obtain ⟨ad103, A103_4, c103_4, e103, hx103_0, hx103_1, hx103_2, hx103_3, hx103_4, hl103_4, hi103_4⟩ := at_T79 HR2.out x39_2 p103 q103
         cases e103
         replace hx103_0 := (HB.out.cell (zwb w _ hx103_0)).trans hx103_0
         replace hx103_1 := (HB.out.cell (zwb w _ hx103_1)).trans hx103_1
         replace hx103_2 := (HB.out.cell (zwb w _ hx103_2)).trans hx103_2
         replace hx103_3 := (HB.out.cell (zwb w _ hx103_3)).trans hx103_3
         replace hx103_4 := (HB.out.cell (zwb w _ hx103_4)).trans hx103_4
         have HR103_4 := zam hi103_4
         have HC103_4 := zam hl103_4
         clear hi103_4 hl103_4
         replace p103 := eq_true p103
         replace q103 := eq_true q103
         go_wp2_with (first | ((with_reducible refine zgd (N := 9) rfl ?_); (try (refine gate_guard (by rfl) ?_; dsimp only)); refine box_event ?hg (N := 9) ?hd (cs := #[.int .i64 0, .int .i64 0, .int .i64 0, .int .i64 0, .slice none 0 0]) (t := 79) ?hr ?_; (case hd => rfl); (case hg => rfl); (case hr => first | (go_simp; done) | (go_simp; rfl)); intro gb104 hg w23 hbox hb; have n0_ := zam (zkb (g := gb101) (o := .cells #[.int .i64 a0_0, .int .i64 a0_1] 120 (0, 0)) (by (with_reducible repeat (first | refine zkn ?_ _ | refine zkd ?_ | refine zka ?_ _)); exact BK101.out) hb); have n1_ := zam (zbt (by repeat (first | (with_reducible first | exact HB.out | apply zba | apply zbn | apply zb1 | refine zbs ?_ GE101.out) | exact HB.out)) hb); have n2_ := zam (hbox); have n3_ := zam ((by rw [hg]; exact (zbz (by repeat (first | (with_reducible first | exact HB.out | apply zba | apply zbn | apply zb1 | refine zbs ?_ GE101.out) | exact HB.out))) : w.heap.size ≤ gb104)); have n4_ := zam ((by rw [hg]; exact (zbz (by repeat (first | (with_reducible first | exact HB.out | apply zba | apply zbn | apply zb1 | refine zbs ?_ GE101.out) | exact HB.out))) : w.heap.size ≤ gb104)); have n5_ := zam ((by rw [hg]; exact Nat.ne_of_lt (blk_lt (g := gb101) (o := .cells #[.int .i64 a0_0, .int .i64 a0_1] 120 (0, 0)) (by (with_reducible repeat (first | refine zkn ?_ _ | refine zkd ?_ | refine zka ?_ _)); exact BK101.out)) : gb101 ≠ gb104)); have n6_ := zam ((by rw [hg]; exact Nat.ne_of_gt (blk_lt (g := gb101) (o := .cells #[.int .i64 a0_0, .int .i64 a0_1] 120 (0, 0)) (by (with_reducible repeat (first | refine zkn ?_ _ | refine zkd ?_ | refine zka ?_ _)); exact BK101.out)) : gb104 ≠ gb101)); clear BK101; clear HB; have BK101 := n0_; have HB := n1_; have BK104 := n2_; have GW104 := n3_; have GE104 := n4_; have NB101_104 := n5_; have NB104_101 := n6_; clear n0_ n1_ n2_ n3_ n4_ n5_ n6_; clear hb hbox hg; have hnb24 := NB104_101.out; have hnc24 := NB101_104.out; have hcz25_0 : w23.cell? ⟨gb104, 0, none⟩ = some (.int .i64 0) := (zkc BK104.out 0).trans rfl; have hcz25_1 : w23.cell? ⟨gb104, 1, none⟩ = some (.int .i64 0) := (zkc BK104.out 1).trans rfl; have hcz25_2 : w23.cell? ⟨gb104, 2, none⟩ = some (.int .i64 0) := (zkc BK104.out 2).trans rfl; have hcz25_3 : w23.cell? ⟨gb104, 3, none⟩ = some (.int .i64 0) := (zkc BK104.out 3).trans rfl; have hcz25_4 : w23.cell? ⟨gb104, 4, none⟩ = some (.slice none 0 0) := (zkc BK104.out 4).trans rfl; have hfz25_0 := zkz BK104.out 0; have hfz25_1 := zkz BK104.out 1; have hfz25_2 := zkz BK104.out 2; have hfz25_3 := zkz BK104.out 3; have hfz25_4 := zkz BK104.out 4) | (go_at_call 94; (with_reducible refine (mooring_area_check_1.calls ((rd_T79 l2 x39_2).f0.f0) ((rd_T79 l2 x39_2).f0.f1) true _ A21.out).mono ?_); rintro e w26 ⟨rfl, hb⟩; have n0_ := zam (zkb (g := gb101) (o := .cells #[.int .i64 a0_0, .int .i64 a0_1] 120 (0, 0)) (by (with_reducible repeat (first | refine zkn ?_ _ | refine zkd ?_ | refine zka ?_ _)); refine zkf ?_ NB101_104.out _; (with_reducible repeat (first | refine zkn ?_ _ | refine zkd ?_ | refine zka ?_ _)); refine zkf ?_ NB101_104.out _; (with_reducible repeat (first | refine zkn ?_ _ | refine zkd ?_ | refine zka ?_ _)); refine zkf ?_ NB101_104.out _; (with_reducible repeat (first | refine zkn ?_ _ | refine zkd ?_ | refine zka ?_ _)); refine zkf ?_ NB101_104.out _; (with_reducible repeat (first | refine zkn ?_ _ | refine zkd ?_ | refine zka ?_ _)); refine zkf ?_ NB101_104.out _; (with_reducible repeat (first | refine zkn ?_ _ | refine zkd ?_ | refine zka ?_ _)); exact BK101.out) hb); have n1_ := zam (zkb (g := gb104) (o := .cells #[.int .i64 ((rd_T79 l2 x39_2).f0.f0), .int .i64 ((rd_T79 l2 x39_2).f0.f1), .int .i64 ((rd_T79 l2 x39_2).f1.f0), .int .i64 ((rd_T79 l2 x39_2).f1.f1), .slice A103_4 ((rd_T79 l2 x39_2).f2).length c103_4] 79 (0, 0)) (by (with_reducible repeat (first | refine zkn ?_ _ | refine zkd ?_ | refine zka ?_ _)); refine blk_put (cs := #[.int .i64 ((rd_T79 l2 x39_2).f0.f0), .int .i64 ((rd_T79 l2 x39_2).f0.f1), .int .i64 ((rd_T79 l2 x39_2).f1.f0), .int .i64 ((rd_T79 l2 x39_2).f1.f1), .slice none 0 0]) ?_ 4 _ rfl; (with_reducible repeat (first | refine zkn ?_ _ | refine zkd ?_ | refine zka ?_ _)); refine blk_put (cs := #[.int .i64 ((rd_T79 l2 x39_2).f0.f0), .int .i64 ((rd_T79 l2 x39_2).f0.f1), .int .i64 ((rd_T79 l2 x39_2).f1.f0), .int .i64 0, .slice none 0 0]) ?_ 3 _ rfl; (with_reducible repeat (first | refine zkn ?_ _ | refine zkd ?_ | refine zka ?_ _)); refine blk_put (cs := #[.int .i64 ((rd_T79 l2 x39_2).f0.f0), .int .i64 ((rd_T79 l2 x39_2).f0.f1), .int .i64 0, .int .i64 0, .slice none 0 0]) ?_ 2 _ rfl; (with_reducible repeat (first | refine zkn ?_ _ | refine zkd ?_ | refine zka ?_ _)); refine blk_put (cs := #[.int .i64 ((rd_T79 l2 x39_2).f0.f0), .int .i64 0, .int .i64 0, .int .i64 0, .slice none 0 0]) ?_ 1 _ rfl; (with_reducible repeat (first | refine zkn ?_ _ | refine zkd ?_ | refine zka ?_ _)); refine blk_put (cs := #[.int .i64 0, .int .i64 0, .int .i64 0, .int .i64 0, .slice none 0 0]) ?_ 0 _ rfl; (with_reducible repeat (first | refine zkn ?_ _ | refine zkd ?_ | refine zka ?_ _)); exact BK104.out) hb); have n2_ := zam (zbt (by repeat (first | (with_reducible first | exact HB.out | apply zba | apply zbn | apply zb1 | refine zbs ?_ GE101.out | refine zbs ?_ GE104.out) | exact HB.out)) hb); clear BK101; clear BK104; clear HB; have BK101 := n0_; have BK104 := n1_; have HB := n2_; clear n0_ n1_ n2_; (try clear hb); (try clear hb2); (try clear hk); (try clear hi)))
         go_ret
         exact ⟨by first | rfl | (simp [errW_none, errW_some] <;> rfl) | (simp [*, errW_none, errW_some] <;> rfl), by repeat (first | (with_reducible first | exact HB.out | apply zba | apply zbn | apply zb1 | refine zbs ?_ GE101.out | refine zbs ?_ GE104.out) | exact HB.out)⟩
        replace c22 := Bool.eq_false_iff.mpr c22
        subst c22
        have H1 : ((mooring_area_check_1.f ((rd_T79 l2 x39_2).f1.f0) ((rd_T79 l2 x39_2).f1.f1)).bind fun t106 => (if t106 = true then (some 2) else ((mooring_area_has.f k2 a0_0 a0_1 ((rd_T79 l2 x39_2).f2)).bind fun t107 => (if t107 = true then (mooring_area_check.l0 k2 l2 (l2.length : Int) (wrap64 (x39_2 + 1)) a0_0 a0_1) else (some 2))))) = some r := by rw [if_neg (show ¬ (false = true) by decide)] at H; exact H
        clear H
        have H := H1
        clear H1
        replace H := Option.bind_eq_some_iff.mp H
        obtain ⟨t106, A270, H⟩ := H
        replace H : (if t106 = true then (some 2) else ((mooring_area_has.f k2 a0_0 a0_1 ((rd_T79 l2 x39_2).f2)).bind fun t107 => (if t107 = true then (mooring_area_check.l0 k2 l2 (l2.length : Int) (wrap64 (x39_2 + 1)) a0_0 a0_1) else (some 2)))) = some r := H
        have A27 := zam A270
        clear A270
        by_cases c28 : t106 = true
        ·subst c28
         have H1 : (some 2) = some r := by rw [if_pos rfl] at H; exact H
         clear H
         have H := H1
         clear H1
         obtain rfl := zsi H
         have p103 : 0 ≤ (x39_2 : Int) := zod (by first | (with_reducible assumption) | assumption)
         have q103 : x39_2 < (l2.length : Int) := zod (by first | (with_reducible assumption) | assumption)
         obtain ⟨ad103, A103_4, c103_4, e103, hx103_0, hx103_1, hx103_2, hx103_3, hx103_4, hl103_4, hi103_4⟩ := at_T79 HR2.out x39_2 p103 q103
         cases e103
         replace hx103_0 := (HB.out.cell (zwb w _ hx103_0)).trans hx103_0
         replace hx103_1 := (HB.out.cell (zwb w _ hx103_1)).trans hx103_1
         replace hx103_2 := (HB.out.cell (zwb w _ hx103_2)).trans hx103_2
         replace hx103_3 := (HB.out.cell (zwb w _ hx103_3)).trans hx103_3
         replace hx103_4 := (HB.out.cell (zwb w _ hx103_4)).trans hx103_4
         have HR103_4 := zam hi103_4
         have HC103_4 := zam hl103_4
         clear hi103_4 hl103_4
         replace p103 := eq_true p103
         replace q103 := eq_true q103
         go_wp2_with (first | ((with_reducible refine zgd (N := 9) rfl ?_); (try (refine gate_guard (by rfl) ?_; dsimp only)); refine box_event ?hg (N := 9) ?hd (cs := #[.int .i64 0, .int .i64 0, .int .i64 0, .int .i64 0, .slice none 0 0]) (t := 79) ?hr ?_; (case hd => rfl); (case hg => rfl); (case hr => first | (go_simp; done) | (go_simp; rfl)); intro gb104 hg w29 hbox hb; have n0_ := zam (zkb (g := gb101) (o := .cells #[.int .i64 a0_0, .int .i64 a0_1] 120 (0, 0)) (by (with_reducible repeat (first | refine zkn ?_ _ | refine zkd ?_ | refine zka ?_ _)); exact BK101.out) hb); have n1_ := zam (zbt (by repeat (first | (with_reducible first | exact HB.out | apply zba | apply zbn | apply zb1 | refine zbs ?_ GE101.out) | exact HB.out)) hb); have n2_ := zam (hbox); have n3_ := zam ((by rw [hg]; exact (zbz (by repeat (first | (with_reducible first | exact HB.out | apply zba | apply zbn | apply zb1 | refine zbs ?_ GE101.out) | exact HB.out))) : w.heap.size ≤ gb104)); have n4_ := zam ((by rw [hg]; exact (zbz (by repeat (first | (with_reducible first | exact HB.out | apply zba | apply zbn | apply zb1 | refine zbs ?_ GE101.out) | exact HB.out))) : w.heap.size ≤ gb104)); have n5_ := zam ((by rw [hg]; exact Nat.ne_of_lt (blk_lt (g := gb101) (o := .cells #[.int .i64 a0_0, .int .i64 a0_1] 120 (0, 0)) (by (with_reducible repeat (first | refine zkn ?_ _ | refine zkd ?_ | refine zka ?_ _)); exact BK101.out)) : gb101 ≠ gb104)); have n6_ := zam ((by rw [hg]; exact Nat.ne_of_gt (blk_lt (g := gb101) (o := .cells #[.int .i64 a0_0, .int .i64 a0_1] 120 (0, 0)) (by (with_reducible repeat (first | refine zkn ?_ _ | refine zkd ?_ | refine zka ?_ _)); exact BK101.out)) : gb104 ≠ gb101)); clear BK101; clear HB; have BK101 := n0_; have HB := n1_; have BK104 := n2_; have GW104 := n3_; have GE104 := n4_; have NB101_104 := n5_; have NB104_101 := n6_; clear n0_ n1_ n2_ n3_ n4_ n5_ n6_; clear hb hbox hg; have hnb30 := NB104_101.out; have hnc30 := NB101_104.out; have hcz31_0 : w29.cell? ⟨gb104, 0, none⟩ = some (.int .i64 0) := (zkc BK104.out 0).trans rfl; have hcz31_1 : w29.cell? ⟨gb104, 1, none⟩ = some (.int .i64 0) := (zkc BK104.out 1).trans rfl; have hcz31_2 : w29.cell? ⟨gb104, 2, none⟩ = some (.int .i64 0) := (zkc BK104.out 2).trans rfl; have hcz31_3 : w29.cell? ⟨gb104, 3, none⟩ = some (.int .i64 0) := (zkc BK104.out 3).trans rfl; have hcz31_4 : w29.cell? ⟨gb104, 4, none⟩ = some (.slice none 0 0) := (zkc BK104.out 4).trans rfl; have hfz31_0 := zkz BK104.out 0; have hfz31_1 := zkz BK104.out 1; have hfz31_2 := zkz BK104.out 2; have hfz31_3 := zkz BK104.out 3; have hfz31_4 := zkz BK104.out 4) | (go_at_call 94; (with_reducible refine (mooring_area_check_1.calls ((rd_T79 l2 x39_2).f0.f0) ((rd_T79 l2 x39_2).f0.f1) false _ A21.out).mono ?_); rintro e w32 ⟨rfl, hb⟩; have n0_ := zam (zkb (g := gb101) (o := .cells #[.int .i64 a0_0, .int .i64 a0_1] 120 (0, 0)) (by (with_reducible repeat (first | refine zkn ?_ _ | refine zkd ?_ | refine zka ?_ _)); refine zkf ?_ NB101_104.out _; (with_reducible repeat (first | refine zkn ?_ _ | refine zkd ?_ | refine zka ?_ _)); refine zkf ?_ NB101_104.out _; (with_reducible repeat (first | refine zkn ?_ _ | refine zkd ?_ | refine zka ?_ _)); refine zkf ?_ NB101_104.out _; (with_reducible repeat (first | refine zkn ?_ _ | refine zkd ?_ | refine zka ?_ _)); refine zkf ?_ NB101_104.out _; (with_reducible repeat (first | refine zkn ?_ _ | refine zkd ?_ | refine zka ?_ _)); refine zkf ?_ NB101_104.out _; (with_reducible repeat (first | refine zkn ?_ _ | refine zkd ?_ | refine zka ?_ _)); exact BK101.out) hb); have n1_ := zam (zkb (g := gb104) (o := .cells #[.int .i64 ((rd_T79 l2 x39_2).f0.f0), .int .i64 ((rd_T79 l2 x39_2).f0.f1), .int .i64 ((rd_T79 l2 x39_2).f1.f0), .int .i64 ((rd_T79 l2 x39_2).f1.f1), .slice A103_4 ((rd_T79 l2 x39_2).f2).length c103_4] 79 (0, 0)) (by (with_reducible repeat (first | refine zkn ?_ _ | refine zkd ?_ | refine zka ?_ _)); refine blk_put (cs := #[.int .i64 ((rd_T79 l2 x39_2).f0.f0), .int .i64 ((rd_T79 l2 x39_2).f0.f1), .int .i64 ((rd_T79 l2 x39_2).f1.f0), .int .i64 ((rd_T79 l2 x39_2).f1.f1), .slice none 0 0]) ?_ 4 _ rfl; (with_reducible repeat (first | refine zkn ?_ _ | refine zkd ?_ | refine zka ?_ _)); refine blk_put (cs := #[.int .i64 ((rd_T79 l2 x39_2).f0.f0), .int .i64 ((rd_T79 l2 x39_2).f0.f1), .int .i64 ((rd_T79 l2 x39_2).f1.f0), .int .i64 0, .slice none 0 0]) ?_ 3 _ rfl; (with_reducible repeat (first | refine zkn ?_ _ | refine zkd ?_ | refine zka ?_ _)); refine blk_put (cs := #[.int .i64 ((rd_T79 l2 x39_2).f0.f0), .int .i64 ((rd_T79 l2 x39_2).f0.f1), .int .i64 0, .int .i64 0, .slice none 0 0]) ?_ 2 _ rfl; (with_reducible repeat (first | refine zkn ?_ _ | refine zkd ?_ | refine zka ?_ _)); refine blk_put (cs := #[.int .i64 ((rd_T79 l2 x39_2).f0.f0), .int .i64 0, .int .i64 0, .int .i64 0, .slice none 0 0]) ?_ 1 _ rfl; (with_reducible repeat (first | refine zkn ?_ _ | refine zkd ?_ | refine zka ?_ _)); refine blk_put (cs := #[.int .i64 0, .int .i64 0, .int .i64 0, .int .i64 0, .slice none 0 0]) ?_ 0 _ rfl; (with_reducible repeat (first | refine zkn ?_ _ | refine zkd ?_ | refine zka ?_ _)); exact BK104.out) hb); have n2_ := zam (zbt (by repeat (first | (with_reducible first | exact HB.out | apply zba | apply zbn | apply zb1 | refine zbs ?_ GE101.out | refine zbs ?_ GE104.out) | exact HB.out)) hb); clear BK101; clear BK104; clear HB; have BK101 := n0_; have BK104 := n1_; have HB := n2_; clear n0_ n1_ n2_; (try clear hb); (try clear hb2); (try clear hk); (try clear hi); have hcz33_0 : w32.cell? ⟨gb104, 0, none⟩ = some (.int .i64 ((rd_T79 l2 x39_2).f0.f0)) := (zkc BK104.out 0).trans rfl; have hcz33_1 : w32.cell? ⟨gb104, 1, none⟩ = some (.int .i64 ((rd_T79 l2 x39_2).f0.f1)) := (zkc BK104.out 1).trans rfl; have hcz33_2 : w32.cell? ⟨gb104, 2, none⟩ = some (.int .i64 ((rd_T79 l2 x39_2).f1.f0)) := (zkc BK104.out 2).trans rfl; have hcz33_3 : w32.cell? ⟨gb104, 3, none⟩ = some (.int .i64 ((rd_T79 l2 x39_2).f1.f1)) := (zkc BK104.out 3).trans rfl; have hcz33_4 : w32.cell? ⟨gb104, 4, none⟩ = some (.slice A103_4 ((rd_T79 l2 x39_2).f2).length c103_4) := (zkc BK104.out 4).trans rfl; have hfz33_0 := zkz BK104.out 0; have hfz33_1 := zkz BK104.out 1; have hfz33_2 := zkz BK104.out 2; have hfz33_3 := zkz BK104.out 3; have hfz33_4 := zkz BK104.out 4) | (go_at_call 94; (with_reducible refine (mooring_area_check_1.calls ((rd_T79 l2 x39_2).f1.f0) ((rd_T79 l2 x39_2).f1.f1) true _ A27.out).mono ?_); rintro e w34 ⟨rfl, hb⟩; have n0_ := zam (zkb (g := gb101) (o := .cells #[.int .i64 a0_0, .int .i64 a0_1] 120 (0, 0)) (by (with_reducible repeat (first | refine zkn ?_ _ | refine zkd ?_ | refine zka ?_ _)); exact BK101.out) hb); have n1_ := zam (zkb (g := gb104) (o := .cells #[.int .i64 ((rd_T79 l2 x39_2).f0.f0), .int .i64 ((rd_T79 l2 x39_2).f0.f1), .int .i64 ((rd_T79 l2 x39_2).f1.f0), .int .i64 ((rd_T79 l2 x39_2).f1.f1), .slice A103_4 ((rd_T79 l2 x39_2).f2).length c103_4] 79 (0, 0)) (by (with_reducible repeat (first | refine zkn ?_ _ | refine zkd ?_ | refine zka ?_ _)); exact BK104.out) hb); have n2_ := zam (zbt (by repeat (first | (with_reducible first | exact HB.out | apply zba | apply zbn | apply zb1 | refine zbs ?_ GE101.out | refine zbs ?_ GE104.out) | exact HB.out)) hb); clear BK101; clear BK104; clear HB; have BK101 := n0_; have BK104 := n1_; have HB := n2_; clear n0_ n1_ n2_; (try clear hb); (try clear hb2); (try clear hk); (try clear hi)))
         go_ret
         exact ⟨by first | rfl | (simp [errW_none, errW_some] <;> rfl) | (simp [*, errW_none, errW_some] <;> rfl), by repeat (first | (with_reducible first | exact HB.out | apply zba | apply zbn | apply zb1 | refine zbs ?_ GE101.out | refine zbs ?_ GE104.out) | exact HB.out)⟩
        replace c28 := Bool.eq_false_iff.mpr c28
        subst c28
        have H1 : ((mooring_area_has.f k2 a0_0 a0_1 ((rd_T79 l2 x39_2).f2)).bind fun t107 => (if t107 = true then (mooring_area_check.l0 k2 l2 (l2.length : Int) (wrap64 (x39_2 + 1)) a0_0 a0_1) else (some 2))) = some r := by rw [if_neg (show ¬ (false = true) by decide)] at H; exact H
        clear H
        have H := H1
        clear H1
        replace H := Option.bind_eq_some_iff.mp H
        obtain ⟨t107, A350, H⟩ := H
        replace H : (if t107 = true then (mooring_area_check.l0 k2 l2 (l2.length : Int) (wrap64 (x39_2 + 1)) a0_0 a0_1) else (some 2)) = some r := H
        have A35 := zam A350
        clear A350
        by_cases c36 : t107 = true
        ·subst c36
         have H1 : (mooring_area_check.l0 k2 l2 (l2.length : Int) (wrap64 (x39_2 + 1)) a0_0 a0_1) = some r := by rw [if_pos rfl] at H; exact H
         clear H
         have H := H1
         clear H1
         have H' := zam H
         clear H
         have p103 : 0 ≤ (x39_2 : Int) := zod (by first | (with_reducible assumption) | assumption)
         have q103 : x39_2 < (l2.length : Int) := zod (by first | (with_reducible assumption) | assumption)
         obtain ⟨ad103, A103_4, c103_4, e103, hx103_0, hx103_1, hx103_2, hx103_3, hx103_4, hl103_4, hi103_4⟩ := at_T79 HR2.out x39_2 p103 q103
         cases e103
         replace hx103_0 := (HB.out.cell (zwb w _ hx103_0)).trans hx103_0
         replace hx103_1 := (HB.out.cell (zwb w _ hx103_1)).trans hx103_1
         replace hx103_2 := (HB.out.cell (zwb w _ hx103_2)).trans hx103_2
         replace hx103_3 := (HB.out.cell (zwb w _ hx103_3)).trans hx103_3
         replace hx103_4 := (HB.out.cell (zwb w _ hx103_4)).trans hx103_4
         have HR103_4 := zam hi103_4
         have HC103_4 := zam hl103_4
         clear hi103_4 hl103_4
         replace p103 := eq_true p103
         replace q103 := eq_true q103
         go_wp2_with (first | ((with_reducible refine zgd (N := 9) rfl ?_); (try (refine gate_guard (by rfl) ?_; dsimp only)); refine box_event ?hg (N := 9) ?hd (cs := #[.int .i64 0, .int .i64 0, .int .i64 0, .int .i64 0, .slice none 0 0]) (t := 79) ?hr ?_; (case hd => rfl); (case hg => rfl); (case hr => first | (go_simp; done) | (go_simp; rfl)); intro gb104 hg w37 hbox hb; have n0_ := zam (zkb (g := gb101) (o := .cells #[.int .i64 a0_0, .int .i64 a0_1] 120 (0, 0)) (by (with_reducible repeat (first | refine zkn ?_ _ | refine zkd ?_ | refine zka ?_ _)); exact BK101.out) hb); have n1_ := zam (zbt (by repeat (first | (with_reducible first | exact HB.out | apply zba | apply zbn | apply zb1 | refine zbs ?_ GE101.out) | exact HB.out)) hb); have n2_ := zam (hbox); have n3_ := zam ((by rw [hg]; exact (zbz (by repeat (first | (with_reducible first | exact HB.out | apply zba | apply zbn | apply zb1 | refine zbs ?_ GE101.out) | exact HB.out))) : w.heap.size ≤ gb104)); have n4_ := zam ((by rw [hg]; exact (zbz (by repeat (first | (with_reducible first | exact HB.out | apply zba | apply zbn | apply zb1 | refine zbs ?_ GE101.out) | exact HB.out))) : w.heap.size ≤ gb104)); have n5_ := zam ((by rw [hg]; exact Nat.ne_of_lt (blk_lt (g := gb101) (o := .cells #[.int .i64 a0_0, .int .i64 a0_1] 120 (0, 0)) (by (with_reducible repeat (first | refine zkn ?_ _ | refine zkd ?_ | refine zka ?_ _)); exact BK101.out)) : gb101 ≠ gb104)); have n6_ := zam ((by rw [hg]; exact Nat.ne_of_gt (blk_lt (g := gb101) (o := .cells #[.int .i64 a0_0, .int .i64 a0_1] 120 (0, 0)) (by (with_reducible repeat (first | refine zkn ?_ _ | refine zkd ?_ | refine zka ?_ _)); exact BK101.out)) : gb104 ≠ gb101)); clear BK101; clear HB; have BK101 := n0_; have HB := n1_; have BK104 := n2_; have GW104 := n3_; have GE104 := n4_; have NB101_104 := n5_; have NB104_101 := n6_; clear n0_ n1_ n2_ n3_ n4_ n5_ n6_; clear hb hbox hg; have hnb38 := NB104_101.out; have hnc38 := NB101_104.out; have hcz39_0 : w37.cell? ⟨gb104, 0, none⟩ = some (.int .i64 0) := (zkc BK104.out 0).trans rfl; have hcz39_1 : w37.cell? ⟨gb104, 1, none⟩ = some (.int .i64 0) := (zkc BK104.out 1).trans rfl; have hcz39_2 : w37.cell? ⟨gb104, 2, none⟩ = some (.int .i64 0) := (zkc BK104.out 2).trans rfl; have hcz39_3 : w37.cell? ⟨gb104, 3, none⟩ = some (.int .i64 0) := (zkc BK104.out 3).trans rfl; have hcz39_4 : w37.cell? ⟨gb104, 4, none⟩ = some (.slice none 0 0) := (zkc BK104.out 4).trans rfl; have hfz39_0 := zkz BK104.out 0; have hfz39_1 := zkz BK104.out 1; have hfz39_2 := zkz BK104.out 2; have hfz39_3 := zkz BK104.out 3; have hfz39_4 := zkz BK104.out 4) | (go_at_call 94; (with_reducible refine (mooring_area_check_1.calls ((rd_T79 l2 x39_2).f0.f0) ((rd_T79 l2 x39_2).f0.f1) false _ A21.out).mono ?_); rintro e w40 ⟨rfl, hb⟩; have n0_ := zam (zkb (g := gb101) (o := .cells #[.int .i64 a0_0, .int .i64 a0_1] 120 (0, 0)) (by (with_reducible repeat (first | refine zkn ?_ _ | refine zkd ?_ | refine zka ?_ _)); refine zkf ?_ NB101_104.out _; (with_reducible repeat (first | refine zkn ?_ _ | refine zkd ?_ | refine zka ?_ _)); refine zkf ?_ NB101_104.out _; (with_reducible repeat (first | refine zkn ?_ _ | refine zkd ?_ | refine zka ?_ _)); refine zkf ?_ NB101_104.out _; (with_reducible repeat (first | refine zkn ?_ _ | refine zkd ?_ | refine zka ?_ _)); refine zkf ?_ NB101_104.out _; (with_reducible repeat (first | refine zkn ?_ _ | refine zkd ?_ | refine zka ?_ _)); refine zkf ?_ NB101_104.out _; (with_reducible repeat (first | refine zkn ?_ _ | refine zkd ?_ | refine zka ?_ _)); exact BK101.out) hb); have n1_ := zam (zkb (g := gb104) (o := .cells #[.int .i64 ((rd_T79 l2 x39_2).f0.f0), .int .i64 ((rd_T79 l2 x39_2).f0.f1), .int .i64 ((rd_T79 l2 x39_2).f1.f0), .int .i64 ((rd_T79 l2 x39_2).f1.f1), .slice A103_4 ((rd_T79 l2 x39_2).f2).length c103_4] 79 (0, 0)) (by (with_reducible repeat (first | refine zkn ?_ _ | refine zkd ?_ | refine zka ?_ _)); refine blk_put (cs := #[.int .i64 ((rd_T79 l2 x39_2).f0.f0), .int .i64 ((rd_T79 l2 x39_2).f0.f1), .int .i64 ((rd_T79 l2 x39_2).f1.f0), .int .i64 ((rd_T79 l2 x39_2).f1.f1), .slice none 0 0]) ?_ 4 _ rfl; (with_reducible repeat (first | refine zkn ?_ _ | refine zkd ?_ | refine zka ?_ _)); refine blk_put (cs := #[.int .i64 ((rd_T79 l2 x39_2).f0.f0), .int .i64 ((rd_T79 l2 x39_2).f0.f1), .int .i64 ((rd_T79 l2 x39_2).f1.f0), .int .i64 0, .slice none 0 0]) ?_ 3 _ rfl; (with_reducible repeat (first | refine zkn ?_ _ | refine zkd ?_ | refine zka ?_ _)); refine blk_put (cs := #[.int .i64 ((rd_T79 l2 x39_2).f0.f0), .int .i64 ((rd_T79 l2 x39_2).f0.f1), .int .i64 0, .int .i64 0, .slice none 0 0]) ?_ 2 _ rfl; (with_reducible repeat (first | refine zkn ?_ _ | refine zkd ?_ | refine zka ?_ _)); refine blk_put (cs := #[.int .i64 ((rd_T79 l2 x39_2).f0.f0), .int .i64 0, .int .i64 0, .int .i64 0, .slice none 0 0]) ?_ 1 _ rfl; (with_reducible repeat (first | refine zkn ?_ _ | refine zkd ?_ | refine zka ?_ _)); refine blk_put (cs := #[.int .i64 0, .int .i64 0, .int .i64 0, .int .i64 0, .slice none 0 0]) ?_ 0 _ rfl; (with_reducible repeat (first | refine zkn ?_ _ | refine zkd ?_ | refine zka ?_ _)); exact BK104.out) hb); have n2_ := zam (zbt (by repeat (first | (with_reducible first | exact HB.out | apply zba | apply zbn | apply zb1 | refine zbs ?_ GE101.out | refine zbs ?_ GE104.out) | exact HB.out)) hb); clear BK101; clear BK104; clear HB; have BK101 := n0_; have BK104 := n1_; have HB := n2_; clear n0_ n1_ n2_; (try clear hb); (try clear hb2); (try clear hk); (try clear hi); have hcz41_0 : w40.cell? ⟨gb104, 0, none⟩ = some (.int .i64 ((rd_T79 l2 x39_2).f0.f0)) := (zkc BK104.out 0).trans rfl; have hcz41_1 : w40.cell? ⟨gb104, 1, none⟩ = some (.int .i64 ((rd_T79 l2 x39_2).f0.f1)) := (zkc BK104.out 1).trans rfl; have hcz41_2 : w40.cell? ⟨gb104, 2, none⟩ = some (.int .i64 ((rd_T79 l2 x39_2).f1.f0)) := (zkc BK104.out 2).trans rfl; have hcz41_3 : w40.cell? ⟨gb104, 3, none⟩ = some (.int .i64 ((rd_T79 l2 x39_2).f1.f1)) := (zkc BK104.out 3).trans rfl; have hcz41_4 : w40.cell? ⟨gb104, 4, none⟩ = some (.slice A103_4 ((rd_T79 l2 x39_2).f2).length c103_4) := (zkc BK104.out 4).trans rfl; have hfz41_0 := zkz BK104.out 0; have hfz41_1 := zkz BK104.out 1; have hfz41_2 := zkz BK104.out 2; have hfz41_3 := zkz BK104.out 3; have hfz41_4 := zkz BK104.out 4) | (go_at_call 94; (with_reducible refine (mooring_area_check_1.calls ((rd_T79 l2 x39_2).f1.f0) ((rd_T79 l2 x39_2).f1.f1) false _ A27.out).mono ?_); rintro e w42 ⟨rfl, hb⟩; have n0_ := zam (zkb (g := gb101) (o := .cells #[.int .i64 a0_0, .int .i64 a0_1] 120 (0, 0)) (by (with_reducible repeat (first | refine zkn ?_ _ | refine zkd ?_ | refine zka ?_ _)); exact BK101.out) hb); have n1_ := zam (zkb (g := gb104) (o := .cells #[.int .i64 ((rd_T79 l2 x39_2).f0.f0), .int .i64 ((rd_T79 l2 x39_2).f0.f1), .int .i64 ((rd_T79 l2 x39_2).f1.f0), .int .i64 ((rd_T79 l2 x39_2).f1.f1), .slice A103_4 ((rd_T79 l2 x39_2).f2).length c103_4] 79 (0, 0)) (by (with_reducible repeat (first | refine zkn ?_ _ | refine zkd ?_ | refine zka ?_ _)); exact BK104.out) hb); have n2_ := zam (zbt (by repeat (first | (with_reducible first | exact HB.out | apply zba | apply zbn | apply zb1 | refine zbs ?_ GE101.out | refine zbs ?_ GE104.out) | exact HB.out)) hb); clear BK101; clear BK104; clear HB; have BK101 := n0_; have BK104 := n1_; have HB := n2_; clear n0_ n1_ n2_; (try clear hb); (try clear hb2); (try clear hk); (try clear hi); have hcz43_0 : w42.cell? ⟨gb101, 0, none⟩ = some (.int .i64 a0_0) := (zkc BK101.out 0).trans rfl; have hcz43_1 : w42.cell? ⟨gb101, 1, none⟩ = some (.int .i64 a0_1) := (zkc BK101.out 1).trans rfl; have hfz43_0 := zkz BK101.out 0; have hfz43_1 := zkz BK101.out 1; have hcz44_0 : w42.cell? ⟨gb104, 0, none⟩ = some (.int .i64 ((rd_T79 l2 x39_2).f0.f0)) := (zkc BK104.out 0).trans rfl; have hcz44_1 : w42.cell? ⟨gb104, 1, none⟩ = some (.int .i64 ((rd_T79 l2 x39_2).f0.f1)) := (zkc BK104.out 1).trans rfl; have hcz44_2 : w42.cell? ⟨gb104, 2, none⟩ = some (.int .i64 ((rd_T79 l2 x39_2).f1.f0)) := (zkc BK104.out 2).trans rfl; have hcz44_3 : w42.cell? ⟨gb104, 3, none⟩ = some (.int .i64 ((rd_T79 l2 x39_2).f1.f1)) := (zkc BK104.out 3).trans rfl; have hcz44_4 : w42.cell? ⟨gb104, 4, none⟩ = some (.slice A103_4 ((rd_T79 l2 x39_2).f2).length c103_4) := (zkc BK104.out 4).trans rfl; have hfz44_0 := zkz BK104.out 0; have hfz44_1 := zkz BK104.out 1; have hfz44_2 := zkz BK104.out 2; have hfz44_3 := zkz BK104.out 3; have hfz44_4 := zkz BK104.out 4) | (go_at_call 93; (with_reducible refine (mooring_area_has.calls k2 a0_0 a0_1 _ _ ((rd_T79 l2 x39_2).f2) true _ ?side1 ?side2 A35.out).mono ?_); (case side1 => repeat (first | exact (Kd.C_below HR103_4.out HB.out) | (with_reducible refine Kd.C_alloc ?_ _) | (with_reducible refine Kd.C_drewN ?_ _) | (with_reducible refine Kd.C_drew ?_))); (case side2 => exact HC103_4.out); rintro e w45 ⟨rfl, hb⟩; have n0_ := zam (zkb (g := gb101) (o := .cells #[.int .i64 a0_0, .int .i64 a0_1] 120 (0, 0)) (by (with_reducible repeat (first | refine zkn ?_ _ | refine zkd ?_ | refine zka ?_ _)); exact BK101.out) hb); have n1_ := zam (zkb (g := gb104) (o := .cells #[.int .i64 ((rd_T79 l2 x39_2).f0.f0), .int .i64 ((rd_T79 l2 x39_2).f0.f1), .int .i64 ((rd_T79 l2 x39_2).f1.f0), .int .i64 ((rd_T79 l2 x39_2).f1.f1), .slice A103_4 ((rd_T79 l2 x39_2).f2).length c103_4] 79 (0, 0)) (by (with_reducible repeat (first | refine zkn ?_ _ | refine zkd ?_ | refine zka ?_ _)); exact BK104.out) hb); have n2_ := zam (zbt (by repeat (first | (with_reducible first | exact HB.out | apply zba | apply zbn | apply zb1 | refine zbs ?_ GE101.out | refine zbs ?_ GE104.out) | exact HB.out)) hb); clear BK101; clear BK104; clear HB; have BK101 := n0_; have BK104 := n1_; have HB := n2_; clear n0_ n1_ n2_; (try clear hb); (try clear hb2); (try clear hk); (try clear hi)))
         go_roundg k2
         case measure => have := HJ5.out; have := HK2.out; omega
         case rel => exact ⟨(wrap64 (x39_2 + 1)), (by first | rfl | (simp; done) | (simp [*]; done)), H', ⟨by have := HJ5.out; have := HK2.out; omega⟩, ⟨by (with_reducible repeat (first | refine zkn ?_ _ | refine zkd ?_ | refine zka ?_ _)); exact BK101.out⟩, ⟨by repeat (first | (with_reducible first | exact HB.out | apply zba | apply zbn | apply zb1 | refine zbs ?_ GE101.out | refine zbs ?_ GE104.out) | exact HB.out)⟩⟩
        replace c36 := Bool.eq_false_iff.mpr c36
        subst c36
        have H1 : (some 2) = some r := by rw [if_neg (show ¬ (false = true) by decide)] at H; exact H
        clear H
        have H := H1
        clear H1
        obtain rfl := zsi H
        have p103 : 0 ≤ (x39_2 : Int) := zod (by first | (with_reducible assumption) | assumption)
        have q103 : x39_2 < (l2.length : Int) := zod (by first | (with_reducible assumption) | assumption)
        obtain ⟨ad103, A103_4, c103_4, e103, hx103_0, hx103_1, hx103_2, hx103_3, hx103_4, hl103_4, hi103_4⟩ := at_T79 HR2.out x39_2 p103 q103
        cases e103
        replace hx103_0 := (HB.out.cell (zwb w _ hx103_0)).trans hx103_0
        replace hx103_1 := (HB.out.cell (zwb w _ hx103_1)).trans hx103_1
        replace hx103_2 := (HB.out.cell (zwb w _ hx103_2)).trans hx103_2
        replace hx103_3 := (HB.out.cell (zwb w _ hx103_3)).trans hx103_3
        replace hx103_4 := (HB.out.cell (zwb w _ hx103_4)).trans hx103_4
        have HR103_4 := zam hi103_4
        have HC103_4 := zam hl103_4
        clear hi103_4 hl103_4
        replace p103 := eq_true p103
        replace q103 := eq_true q103
        go_wp2_with (first | ((with_reducible refine zgd (N := 9) rfl ?_); (try (refine gate_guard (by rfl) ?_; dsimp only)); refine box_event ?hg (N := 9) ?hd (cs := #[.int .i64 0, .int .i64 0, .int .i64 0, .int .i64 0, .slice none 0 0]) (t := 79) ?hr ?_; (case hd => rfl); (case hg => rfl); (case hr => first | (go_simp; done) | (go_simp; rfl)); intro gb104 hg w46 hbox hb; have n0_ := zam (zkb (g := gb101) (o := .cells #[.int .i64 a0_0, .int .i64 a0_1] 120 (0, 0)) (by (with_reducible repeat (first | refine zkn ?_ _ | refine zkd ?_ | refine zka ?_ _)); exact BK101.out) hb); have n1_ := zam (zbt (by repeat (first | (with_reducible first | exact HB.out | apply zba | apply zbn | apply zb1 | refine zbs ?_ GE101.out) | exact HB.out)) hb); have n2_ := zam (hbox); have n3_ := zam ((by rw [hg]; exact (zbz (by repeat (first | (with_reducible first | exact HB.out | apply zba | apply zbn | apply zb1 | refine zbs ?_ GE101.out) | exact HB.out))) : w.heap.size ≤ gb104)); have n4_ := zam ((by rw [hg]; exact (zbz (by repeat (first | (with_reducible first | exact HB.out | apply zba | apply zbn | apply zb1 | refine zbs ?_ GE101.out) | exact HB.out))) : w.heap.size ≤ gb104)); have n5_ := zam ((by rw [hg]; exact Nat.ne_of_lt (blk_lt (g := gb101) (o := .cells #[.int .i64 a0_0, .int .i64 a0_1] 120 (0, 0)) (by (with_reducible repeat (first | refine zkn ?_ _ | refine zkd ?_ | refine zka ?_ _)); exact BK101.out)) : gb101 ≠ gb104)); have n6_ := zam ((by rw [hg]; exact Nat.ne_of_gt (blk_lt (g := gb101) (o := .cells #[.int .i64 a0_0, .int .i64 a0_1] 120 (0, 0)) (by (with_reducible repeat (first | refine zkn ?_ _ | refine zkd ?_ | refine zka ?_ _)); exact BK101.out)) : gb104 ≠ gb101)); clear BK101; clear HB; have BK101 := n0_; have HB := n1_; have BK104 := n2_; have GW104 := n3_; have GE104 := n4_; have NB101_104 := n5_; have NB104_101 := n6_; clear n0_ n1_ n2_ n3_ n4_ n5_ n6_; clear hb hbox hg; have hnb47 := NB104_101.out; have hnc47 := NB101_104.out; have hcz48_0 : w46.cell? ⟨gb104, 0, none⟩ = some (.int .i64 0) := (zkc BK104.out 0).trans rfl; have hcz48_1 : w46.cell? ⟨gb104, 1, none⟩ = some (.int .i64 0) := (zkc BK104.out 1).trans rfl; have hcz48_2 : w46.cell? ⟨gb104, 2, none⟩ = some (.int .i64 0) := (zkc BK104.out 2).trans rfl; have hcz48_3 : w46.cell? ⟨gb104, 3, none⟩ = some (.int .i64 0) := (zkc BK104.out 3).trans rfl; have hcz48_4 : w46.cell? ⟨gb104, 4, none⟩ = some (.slice none 0 0) := (zkc BK104.out 4).trans rfl; have hfz48_0 := zkz BK104.out 0; have hfz48_1 := zkz BK104.out 1; have hfz48_2 := zkz BK104.out 2; have hfz48_3 := zkz BK104.out 3; have hfz48_4 := zkz BK104.out 4) | (go_at_call 94; (with_reducible refine (mooring_area_check_1.calls ((rd_T79 l2 x39_2).f0.f0) ((rd_T79 l2 x39_2).f0.f1) false _ A21.out).mono ?_); rintro e w49 ⟨rfl, hb⟩; have n0_ := zam (zkb (g := gb101) (o := .cells #[.int .i64 a0_0, .int .i64 a0_1] 120 (0, 0)) (by (with_reducible repeat (first | refine zkn ?_ _ | refine zkd ?_ | refine zka ?_ _)); refine zkf ?_ NB101_104.out _; (with_reducible repeat (first | refine zkn ?_ _ | refine zkd ?_ | refine zka ?_ _)); refine zkf ?_ NB101_104.out _; (with_reducible repeat (first | refine zkn ?_ _ | refine zkd ?_ | refine zka ?_ _)); refine zkf ?_ NB101_104.out _; (with_reducible repeat (first | refine zkn ?_ _ | refine zkd ?_ | refine zka ?_ _)); refine zkf ?_ NB101_104.out _; (with_reducible repeat (first | refine zkn ?_ _ | refine zkd ?_ | refine zka ?_ _)); refine zkf ?_ NB101_104.out _; (with_reducible repeat (first | refine zkn ?_ _ | refine zkd ?_ | refine zka ?_ _)); exact BK101.out) hb); have n1_ := zam (zkb (g := gb104) (o := .cells #[.int .i64 ((rd_T79 l2 x39_2).f0.f0), .int .i64 ((rd_T79 l2 x39_2).f0.f1), .int .i64 ((rd_T79 l2 x39_2).f1.f0), .int .i64 ((rd_T79 l2 x39_2).f1.f1), .slice A103_4 ((rd_T79 l2 x39_2).f2).length c103_4] 79 (0, 0)) (by (with_reducible repeat (first | refine zkn ?_ _ | refine zkd ?_ | refine zka ?_ _)); refine blk_put (cs := #[.int .i64 ((rd_T79 l2 x39_2).f0.f0), .int .i64 ((rd_T79 l2 x39_2).f0.f1), .int .i64 ((rd_T79 l2 x39_2).f1.f0), .int .i64 ((rd_T79 l2 x39_2).f1.f1), .slice none 0 0]) ?_ 4 _ rfl; (with_reducible repeat (first | refine zkn ?_ _ | refine zkd ?_ | refine zka ?_ _)); refine blk_put (cs := #[.int .i64 ((rd_T79 l2 x39_2).f0.f0), .int .i64 ((rd_T79 l2 x39_2).f0.f1), .int .i64 ((rd_T79 l2 x39_2).f1.f0), .int .i64 0, .slice none 0 0]) ?_ 3 _ rfl; (with_reducible repeat (first | refine zkn ?_ _ | refine zkd ?_ | refine zka ?_ _)); refine blk_put (cs := #[.int .i64 ((rd_T79 l2 x39_2).f0.f0), .int .i64 ((rd_T79 l2 x39_2).f0.f1), .int .i64 0, .int .i64 0, .slice none 0 0]) ?_ 2 _ rfl; (with_reducible repeat (first | refine zkn ?_ _ | refine zkd ?_ | refine zka ?_ _)); refine blk_put (cs := #[.int .i64 ((rd_T79 l2 x39_2).f0.f0), .int .i64 0, .int .i64 0, .int .i64 0, .slice none 0 0]) ?_ 1 _ rfl; (with_reducible repeat (first | refine zkn ?_ _ | refine zkd ?_ | refine zka ?_ _)); refine blk_put (cs := #[.int .i64 0, .int .i64 0, .int .i64 0, .int .i64 0, .slice none 0 0]) ?_ 0 _ rfl; (with_reducible repeat (first | refine zkn ?_ _ | refine zkd ?_ | refine zka ?_ _)); exact BK104.out) hb); have n2_ := zam (zbt (by repeat (first | (with_reducible first | exact HB.out | apply zba | apply zbn | apply zb1 | refine zbs ?_ GE101.out | refine zbs ?_ GE104.out) | exact HB.out)) hb); clear BK101; clear BK104; clear HB; have BK101 := n0_; have BK104 := n1_; have HB := n2_; clear n0_ n1_ n2_; (try clear hb); (try clear hb2); (try clear hk); (try clear hi); have hcz50_0 : w49.cell? ⟨gb104, 0, none⟩ = some (.int .i64 ((rd_T79 l2 x39_2).f0.f0)) := (zkc BK104.out 0).trans rfl; have hcz50_1 : w49.cell? ⟨gb104, 1, none⟩ = some (.int .i64 ((rd_T79 l2 x39_2).f0.f1)) := (zkc BK104.out 1).trans rfl; have hcz50_2 : w49.cell? ⟨gb104, 2, none⟩ = some (.int .i64 ((rd_T79 l2 x39_2).f1.f0)) := (zkc BK104.out 2).trans rfl; have hcz50_3 : w49.cell? ⟨gb104, 3, none⟩ = some (.int .i64 ((rd_T79 l2 x39_2).f1.f1)) := (zkc BK104.out 3).trans rfl; have hcz50_4 : w49.cell? ⟨gb104, 4, none⟩ = some (.slice A103_4 ((rd_T79 l2 x39_2).f2).length c103_4) := (zkc BK104.out 4).trans rfl; have hfz50_0 := zkz BK104.out 0; have hfz50_1 := zkz BK104.out 1; have hfz50_2 := zkz BK104.out 2; have hfz50_3 := zkz BK104.out 3; have hfz50_4 := zkz BK104.out 4) | (go_at_call 94; (with_reducible refine (mooring_area_check_1.calls ((rd_T79 l2 x39_2).f1.f0) ((rd_T79 l2 x39_2).f1.f1) false _ A27.out).mono ?_); rintro e w51 ⟨rfl, hb⟩; have n0_ := zam (zkb (g := gb101) (o := .cells #[.int .i64 a0_0, .int .i64 a0_1] 120 (0, 0)) (by (with_reducible repeat (first | refine zkn ?_ _ | refine zkd ?_ | refine zka ?_ _)); exact BK101.out) hb); have n1_ := zam (zkb (g := gb104) (o := .cells #[.int .i64 ((rd_T79 l2 x39_2).f0.f0), .int .i64 ((rd_T79 l2 x39_2).f0.f1), .int .i64 ((rd_T79 l2 x39_2).f1.f0), .int .i64 ((rd_T79 l2 x39_2).f1.f1), .slice A103_4 ((rd_T79 l2 x39_2).f2).length c103_4] 79 (0, 0)) (by (with_reducible repeat (first | refine zkn ?_ _ | refine zkd ?_ | refine zka ?_ _)); exact BK104.out) hb); have n2_ := zam (zbt (by repeat (first | (with_reducible first | exact HB.out | apply zba | apply zbn | apply zb1 | refine zbs ?_ GE101.out | refine zbs ?_ GE104.out) | exact HB.out)) hb); clear BK101; clear BK104; clear HB; have BK101 := n0_; have BK104 := n1_; have HB := n2_; clear n0_ n1_ n2_; (try clear hb); (try clear hb2); (try clear hk); (try clear hi); have hcz52_0 : w51.cell? ⟨gb101, 0, none⟩ = some (.int .i64 a0_0) := (zkc BK101.out 0).trans rfl; have hcz52_1 : w51.cell? ⟨gb101, 1, none⟩ = some (.int .i64 a0_1) := (zkc BK101.out 1).trans rfl; have hfz52_0 := zkz BK101.out 0; have hfz52_1 := zkz BK101.out 1; have hcz53_0 : w51.cell? ⟨gb104, 0, none⟩ = some (.int .i64 ((rd_T79 l2 x39_2).f0.f0)) := (zkc BK104.out 0).trans rfl; have hcz53_1 : w51.cell? ⟨gb104, 1, none⟩ = some (.int .i64 ((rd_T79 l2 x39_2).f0.f1)) := (zkc BK104.out 1).trans rfl; have hcz53_2 : w51.cell? ⟨gb104, 2, none⟩ = some (.int .i64 ((rd_T79 l2 x39_2).f1.f0)) := (zkc BK104.out 2).trans rfl; have hcz53_3 : w51.cell? ⟨gb104, 3, none⟩ = some (.int .i64 ((rd_T79 l2 x39_2).f1.f1)) := (zkc BK104.out 3).trans rfl; have hcz53_4 : w51.cell? ⟨gb104, 4, none⟩ = some (.slice A103_4 ((rd_T79 l2 x39_2).f2).length c103_4) := (zkc BK104.out 4).trans rfl; have hfz53_0 := zkz BK104.out 0; have hfz53_1 := zkz BK104.out 1; have hfz53_2 := zkz BK104.out 2; have hfz53_3 := zkz BK104.out 3; have hfz53_4 := zkz BK104.out 4) | (go_at_call 93; (with_reducible refine (mooring_area_has.calls k2 a0_0 a0_1 _ _ ((rd_T79 l2 x39_2).f2) false _ ?side1 ?side2 A35.out).mono ?_); (case side1 => repeat (first | exact (Kd.C_below HR103_4.out HB.out) | (with_reducible refine Kd.C_alloc ?_ _) | (with_reducible refine Kd.C_drewN ?_ _) | (with_reducible refine Kd.C_drew ?_))); (case side2 => exact HC103_4.out); rintro e w54 ⟨rfl, hb⟩; have n0_ := zam (zkb (g := gb101) (o := .cells #[.int .i64 a0_0, .int .i64 a0_1] 120 (0, 0)) (by (with_reducible repeat (first | refine zkn ?_ _ | refine zkd ?_ | refine zka ?_ _)); exact BK101.out) hb); have n1_ := zam (zkb (g := gb104) (o := .cells #[.int .i64 ((rd_T79 l2 x39_2).f0.f0), .int .i64 ((rd_T79 l2 x39_2).f0.f1), .int .i64 ((rd_T79 l2 x39_2).f1.f0), .int .i64 ((rd_T79 l2 x39_2).f1.f1), .slice A103_4 ((rd_T79 l2 x39_2).f2).length c103_4] 79 (0, 0)) (by (with_reducible repeat (first | refine zkn ?_ _ | refine zkd ?_ | refine zka ?_ _)); exact BK104.out) hb); have n2_ := zam (zbt (by repeat (first | (with_reducible first | exact HB.out | apply zba | apply zbn | apply zb1 | refine zbs ?_ GE101.out | refine zbs ?_ GE104.out) | exact HB.out)) hb); clear BK101; clear BK104; clear HB; have BK101 := n0_; have BK104 := n1_; have HB := n2_; clear n0_ n1_ n2_; (try clear hb); (try clear hb2); (try clear hk); (try clear hi)))
        go_ret
        exact ⟨by first | rfl | (simp [errW_none, errW_some] <;> rfl) | (simp [*, errW_none, errW_some] <;> rfl), by repeat (first | (with_reducible first | exact HB.out | apply zba | apply zbn | apply zb1 | refine zbs ?_ GE101.out | refine zbs ?_ GE104.out) | exact HB.out)⟩
       rw [if_neg c20] at H
       exact absurd H (by simp)
      rw [if_neg c19] at H
      exact absurd H (by simp)
     rw [if_neg c18] at H
     have c18b0 : decide (x39_2 < (l2.length : Int)) = false := zdf c18
     clear c18
     obtain rfl := zsi H
     go_wp2
     go_ret
     exact ⟨by first | rfl | (simp [errW_none, errW_some] <;> rfl) | (simp [*, errW_none, errW_some] <;> rfl), by repeat (first | (with_reducible first | exact HB.out | apply zba | apply zbn | apply zb1 | refine zbs ?_ GE101.out) | exact HB.out)⟩
end Go.Proofs.Ytebcmhajbjkojaa.P
namespace Go.Proofs.Ytebcmhajbjkojaa.P
open Go.RowKit Go.Proofs.YtebcmhajbjkojaaW.PrintWords Go.Proofs.YtebcmhajbjkojaaW.PrintLast Go.Proofs.YtebcmhajbjkojaaW.PrintMore
attribute [local go_sem] max2_int min2_int max_two min_two max_three min_three max_four min_four   -- for this text's walks alone
set_option linter.unusedVariables false
set_option linter.unusedSimpArgs false
open Go.Shelf
attribute [local go_sem] Oper.semAt_some
def Srch.to (wd hg c x y : Int) : Int := if c % wd + x < 0 ∨ c / wd + y < 0 ∨ wd ≤ c % wd + x ∨ hg ≤ c / wd + y then -1 else (c / wd + y) * wd + (c % wd + x)
def Srch.col (wd hg c x n0 : Int) (j : Nat) : List Int := (List.range j).map fun k : Nat => Srch.to wd hg c x (n0 + (k : Int))
theorem Srch.col_succ (wd hg c x n0 : Int) (j : Nat) : Srch.col wd hg c x n0 (j + 1) = Srch.col wd hg c x n0 j ++ [Srch.to wd hg c x (n0 + (j : Int))] := by simp [Srch.col, List.range_succ]
def Srch.cols (wd hg c e0 n0 : Int) (m : Nat) : Nat → List Int
 | 0 => []
 | i + 1 => Srch.cols wd hg c e0 n0 m i ++ Srch.col wd hg c (e0 + (i : Int)) n0 m
def Srch.many (a b : Int) : Nat := (b - a + 1).toNat
def Srch.reach (wd hg c e0 e1 n0 n1 : Int) : List Int := Srch.cols wd hg c e0 n0 (Srch.many n0 n1) (Srch.many e0 e1)
theorem Srch.col_length (wd hg c x n0 : Int) (j : Nat) : (Srch.col wd hg c x n0 j).length = j := by simp [Srch.col]
theorem Srch.cols_length (wd hg c e0 n0 : Int) (m i : Nat) : (Srch.cols wd hg c e0 n0 m i).length = m * i := by
 induction i with
 | zero => rfl
 | succ i ih => rw [Srch.cols, List.length_append, ih, Srch.col_length, Nat.mul_succ]
theorem Srch.to_lt {wd hg c x y : Int} (hw : 1 ≤ wd) (hh : 1 ≤ hg) : Srch.to wd hg c x y < wd * hg := by
 unfold Srch.to
 have h0 : 0 ≤ wd * hg := Int.mul_nonneg (by omega) (by omega)
 by_cases q : c % wd + x < 0 ∨ c / wd + y < 0 ∨ wd ≤ c % wd + x ∨ hg ≤ c / wd + y
 ·rw [if_pos q]
  omega
 rw [if_neg q]
 have h1 : (c / wd + y) * wd ≤ (hg - 1) * wd := Int.mul_le_mul_of_nonneg_right (by omega) (by omega)
 rw [Int.sub_mul, Int.one_mul, Int.mul_comm hg wd] at h1
 omega
abbrev Srch.Cell (m : Int) : Type := { x : Int // x < m }
def Srch.Keep (Bh Bc Ba : Nat) (A B : World) : Prop := B.heap[Bh]? = A.heap[Bh]? ∧ B.heap[Bc]? = A.heap[Bc]? ∧ B.heap[Ba]? = A.heap[Ba]?
theorem Srch.Keep.refl (Bh Bc Ba : Nat) (A : World) : Srch.Keep Bh Bc Ba A A := ⟨rfl, rfl, rfl⟩
theorem Srch.Keep.trans {Bh Bc Ba : Nat} {A B C : World} (h : Srch.Keep Bh Bc Ba A B) (k : Srch.Keep Bh Bc Ba B C) : Srch.Keep Bh Bc Ba A C := ⟨k.1.trans h.1, k.2.1.trans h.2.1, k.2.2.trans h.2.2⟩
theorem Srch.Keep.drewN {Bh Bc Ba : Nat} {A B : World} (h : Srch.Keep Bh Bc Ba A B) (n : Nat) : Srch.Keep Bh Bc Ba A (B.drewN n) := h
theorem ret_i64 {a b : Int} (h : a = b) : Value.int .i64 a = .int .i64 b := by rw [h]
set_option maxRecDepth 100000 in
set_option maxHeartbeats 4000000 in
theorem mooring_reach1_in (fn0 : FuncId → Prop) (dep : Option Nat) (al : Bool) (n : Nat) (h6 : fn0 102) (hn : 1 ≤ n) (l Bh Bc Ba : Nat) (wd hg c e0 e1 n0 n1 : Int) (sv : Value)
  (hw0 : 1 ≤ wd) (hw1 : wd ≤ 24) (hh0 : 1 ≤ hg) (hh1 : hg ≤ 24) (hc0 : 0 ≤ c) (hc1 : c < 576) (he0 : -4 ≤ e0) (he1 : e0 ≤ e1) (he2 : e1 ≤ 4) (hn0 : -4 ≤ n0) (hn1 : n0 ≤ n1) (hn2 : n1 ≤ 4) (J Jx : List Int → World → Prop) (hD : ∀ pre W nq, J pre W → J pre (W.drewN nq))
  (hY : ∀ pre x W, J pre W → pre.length < Srch.many n0 n1 * Srch.many e0 e1 → x < wd * hg → YieldAt (Fence.mk fn0 dep al none) (n - 1) Try.prog l #[.int .i64 x] W fun e W' =>
   (e = .returned (.bool true) ∧ J (pre ++ [x]) W' ∧ Srch.Keep Bh Bc Ba W W') ∨ (e = .returned (.bool false) ∧ Jx (pre ++ [x]) W'))
  (W : World) (kh : W.heap[Bh]? = some (.cells #[.int .i64 e0, .int .i64 e1, .int .i64 n0, .int .i64 n1, sv] 79 (0, 0))) (kc : W.heap[Bc]? = some (.cells #[.int .i64 c] 3 (0, 0))) (ka : W.heap[Ba]? = some (.cells #[.int .i64 wd, .int .i64 hg] 120 (0, 0))) (h0 : J [] W) :
  CallsIn (Fence.mk fn0 dep al none) n Try.prog 102 #[.func (.yield l) #[] #[], .pointer (some ⟨Bh, 0, none⟩), .pointer (some ⟨Bc, 0, none⟩), .pointer (some ⟨Ba, 0, none⟩)] W fun e W' => (∃ v, e = .returned v) ∧
   (J (Srch.reach wd hg c e0 e1 n0 n1) W' ∨ ∃ pre, Jx pre W') := by
 obtain ⟨m1, hm1⟩ : ∃ m1 : Nat, e1 = e0 + (m1 : Int) := ⟨(e1 - e0).toNat, by omega⟩
 obtain ⟨m2, hm2⟩ : ∃ m2 : Nat, n1 = n0 + (m2 : Int) := ⟨(n1 - n0).toNat, by omega⟩
 have k1 : Srch.many e0 e1 = m1 + 1 := by unfold Srch.many; omega
 have k2 : Srch.many n0 n1 = m2 + 1 := by unfold Srch.many; omega
 rw [k1, k2] at hY
 unfold Srch.reach
 rw [k1, k2]
 have hh0 := fun (w1 : World) (hb : Srch.Keep Bh Bc Ba W w1) => zkc (hb.1.trans kh) 0
 have hh1 := fun (w1 : World) (hb : Srch.Keep Bh Bc Ba W w1) => zkc (hb.1.trans kh) 1
 have hh2 := fun (w1 : World) (hb : Srch.Keep Bh Bc Ba W w1) => zkc (hb.1.trans kh) 2
 have hh3 := fun (w1 : World) (hb : Srch.Keep Bh Bc Ba W w1) => zkc (hb.1.trans kh) 3
 have hcc := fun (w1 : World) (hb : Srch.Keep Bh Bc Ba W w1) => zkc (hb.2.1.trans kc) 0
 have ha0 := fun (w1 : World) (hb : Srch.Keep Bh Bc Ba W w1) => zkc (hb.2.2.trans ka) 0
 have ha1 := fun (w1 : World) (hb : Srch.Keep Bh Bc Ba W w1) => zkc (hb.2.2.trans ka) 1
 have HH0 := zam hh0
 have HH1 := zam hh1
 have HH2 := zam hh2
 have HH3 := zam hh3
 have HCC := zam hcc
 have HA0 := zam ha0
 have HA1 := zam ha1
 clear hh0 hh1 hh2 hh3 hcc ha0 ha1
 have M1 := zam hm1
 have M2 := zam hm2
 clear hm1 hm2 k1 k2
 refine callsIn_of_wp Try.func102 rfl h6 ?_ rfl
 simp only [Try.ntmps102, List.size_toArray, List.length_cons, List.length_nil, Nat.reduceAdd, Nat.reduceSub, Array.replicate_succ, Array.replicate_zero, List.push_toArray, List.append_toArray, List.nil_append, List.cons_append]
 have hz0 := HH0.out W (Srch.Keep.refl _ _ _ _)
 gi_wp2
 clear hz0
 gi_loopw [5] (fun v wr => ∃ i : Nat, i ≤ m1 + 1 ∧ v = .int .i64 (e0 + (i : Int)) ∧ J (Srch.cols wd hg c e0 n0 (m2 + 1) i) wr ∧ Srch.Keep Bh Bc Ba W wr) (fun v _ => (m1 + 1 - (intOf v - e0)).toNat)
 case atStart => exact ⟨0, Nat.zero_le _, by simp, h0, Srch.Keep.refl _ _ _ _⟩
 case round =>
  obtain ⟨i, hi, rfl, hJ, hB⟩ := hrel
  have hz1 := HH1.out _ hB
  have hz2 := HH2.out _ hB
  by_cases hlt : i < m1 + 1
  ·have d1 : decide (e0 + (i : Int) ≤ e1) = true := zdt (by have := M1.out; omega)
   have HLT := zam hlt
   clear hlt
   gi_wp2
   clear hz1 hz2 d1
   gi_loopw [6] (fun v wr2 => ∃ j : Nat, j ≤ m2 + 1 ∧ v = .int .i64 (n0 + (j : Int)) ∧ J (Srch.cols wd hg c e0 n0 (m2 + 1) i ++ Srch.col wd hg c (e0 + (i : Int)) n0 j) wr2 ∧ Srch.Keep Bh Bc Ba W wr2) (fun v _ => (m2 + 1 - (intOf v - n0)).toNat)
   case atStart => exact ⟨0, Nat.zero_le _, by simp, by simpa [Srch.col] using hJ, hB⟩
   case round =>
    clear hJ hB
    obtain ⟨j, hj, rfl, hJ, hB⟩ := hrel
    have hz1 := HH3.out _ hB
    by_cases hlt2 : j < m2 + 1
    ·have d1 : decide (n0 + (j : Int) ≤ n1) = true := zdt (by have := M2.out; omega)
     have HLT2 := zam hlt2
     clear hlt2
     have hz2 := HCC.out _ hB
     have hz3 := HA0.out _ hB
     have hz4 := HA1.out _ hB
     obtain ⟨X, hX⟩ : ∃ X, X = c % wd + (e0 + (i : Int)) := ⟨_, rfl⟩
     obtain ⟨Y, hY0⟩ : ∃ Y, Y = c / wd + (n0 + (j : Int)) := ⟨_, rfl⟩
     have b1 := Int.emod_nonneg c (show wd ≠ 0 by omega)
     have b2 := Int.emod_lt_of_pos c (show 0 < wd by omega)
     have b3 : 0 ≤ c / wd := Int.ediv_nonneg hc0 (by omega)
     have b4 : c / wd ≤ c := Int.ediv_le_self _ hc0
     have r1 : IntKind.i64.wrap (c.tmod wd) = c % wd := by rw [i64_w, Int.tmod_eq_emod_of_nonneg hc0, wrap_id (by omega) (by omega)]
     have r2 : IntKind.i64.wrap (c.tdiv wd) = c / wd := by rw [i64_w, Int.tdiv_eq_ediv_of_nonneg hc0, wrap_id (by omega) (by omega)]
     have i1 := HLT.out
     have i2 := HLT2.out
     have i3 := M1.out
     have i4 := M2.out
     have r3 : IntKind.i64.wrap (c % wd + (e0 + (i : Int))) = X := by rw [i64_w, wrap_id (by omega) (by omega), hX]
     have r4 : IntKind.i64.wrap (c / wd + (n0 + (j : Int))) = Y := by rw [i64_w, wrap_id (by omega) (by omega), hY0]
     have XB : Aside0 (-4 ≤ X ∧ X < 28 ∧ -4 ≤ Y ∧ Y ≤ 580) := ⟨by omega⟩
     have HX := zam hX
     have HY1 := zam hY0
     have wd0 : (wd == 0) = false := by simp; omega
     clear hX hY0 b1 b2 b3 b4 i1 i2 i3 i4
     gi_wp2
     gi_quiet (fail)
     have hJ5 := hD _ _ nq hJ
     have hB5 := Srch.Keep.drewN hB nq
     clear hz1 hz2 hz3 hz4 hJ hB d1 wd0
     generalize World.drewN wr nq = w5 at hJ5 hB5 ⊢
     have hz4 := HA0.out _ hB5
     have hz5 := HA1.out _ hB5
     obtain ⟨Z1, hZ1⟩ : ∃ Z1, IntKind.i64.wrap (Y * wd) = Z1 := ⟨_, rfl⟩
     obtain ⟨Z, hZ⟩ : ∃ Z, IntKind.i64.wrap (Z1 + X) = Z := ⟨_, rfl⟩
     have hlen : (Srch.cols wd hg c e0 n0 (m2 + 1) i ++ Srch.col wd hg c (e0 + (i : Int)) n0 j).length < (m2 + 1) * (m1 + 1) := by
      rw [List.length_append, Srch.cols_length, Srch.col_length]
      have := Nat.mul_le_mul_left (m2 + 1) (show i + 1 ≤ m1 + 1 from HLT.out)
      rw [Nat.mul_succ] at this
      have := HLT2.out
      omega
     have YV := zam (hY _ (Srch.to wd hg c (e0 + (i : Int)) (n0 + (j : Int))) w5 hJ5 hlen (Srch.to_lt hw0 hh0))
     clear hlen hJ5
     have HZ1 := zam hZ1
     have HZ := zam hZ
     by_cases q : X < 0 ∨ Y < 0 ∨ wd ≤ X ∨ hg ≤ Y
     ·have HTO : Aside0 (Srch.to wd hg c (e0 + (i : Int)) (n0 + (j : Int)) = -1) := ⟨by unfold Srch.to; rw [← HX.out, ← HY1.out, if_pos q]⟩
      have YV1 := YV.out
      rw [HTO.out] at YV1
      obtain ⟨fn, tmps, assign, body, hy, hR⟩ := YV1
      clear YV
      by_cases q1 : X < 0 ∨ Y < 0
      ·obtain ⟨M, hM⟩ : ∃ M, (if Y < X then Y else X) = M := ⟨_, rfl⟩
       have dM : decide (M < 0) = true := zdt (by rw [← hM]; split <;> omega)
       clear q q1
       gi_wp2
       refine hR.mono ?_
       rintro e W3 (⟨rfl, hJ3, hk3⟩ | ⟨rfl, hJx3⟩)
       ·gi_wp2
        go_roundw
        case rel => exact ⟨j + 1, HLT2.out, ret_i64 (by have := M2.out; have := HLT2.out; rw [wrap_id (by omega) (by omega)]; omega), by rw [Srch.col_succ, ← List.append_assoc, HTO.out]; exact hJ3, hB5.trans hk3⟩
        case measure => (have a1 := M2.out; have a2 := HLT2.out; rw [wrap_id (n := n0 + (j : Int) + 1) (by omega) (by omega)]; simp only [intOf]; omega)
       gi_wp2
       refine ⟨rfl, _, results_none rfl _ _ _, ⟨_, rfl⟩, .inr ⟨_, hJx3⟩⟩
      obtain ⟨M, hM⟩ : ∃ M, (if Y < X then Y else X) = M := ⟨_, rfl⟩
      have dM : decide (M < 0) = false := zdf (by rw [← hM]; split <;> omega)
      by_cases q2 : wd ≤ X
      ·have d2 : decide (wd ≤ X) = true := zdt q2
       clear q q1 q2
       gi_wp2
       refine hR.mono ?_
       rintro e W3 (⟨rfl, hJ3, hk3⟩ | ⟨rfl, hJx3⟩)
       ·gi_wp2
        go_roundw
        case rel => exact ⟨j + 1, HLT2.out, ret_i64 (by have := M2.out; have := HLT2.out; rw [wrap_id (by omega) (by omega)]; omega), by rw [Srch.col_succ, ← List.append_assoc, HTO.out]; exact hJ3, hB5.trans hk3⟩
        case measure => (have a1 := M2.out; have a2 := HLT2.out; rw [wrap_id (n := n0 + (j : Int) + 1) (by omega) (by omega)]; simp only [intOf]; omega)
       gi_wp2
       refine ⟨rfl, _, results_none rfl _ _ _, ⟨_, rfl⟩, .inr ⟨_, hJx3⟩⟩
      have d2 : decide (wd ≤ X) = false := zdf q2
      have d3 : decide (hg ≤ Y) = true := zdt (by omega)
      clear q q1 q2
      gi_wp2
      refine hR.mono ?_
      rintro e W3 (⟨rfl, hJ3, hk3⟩ | ⟨rfl, hJx3⟩)
      ·gi_wp2
       go_roundw
       case rel => exact ⟨j + 1, HLT2.out, ret_i64 (by have := M2.out; have := HLT2.out; rw [wrap_id (by omega) (by omega)]; omega), by rw [Srch.col_succ, ← List.append_assoc, HTO.out]; exact hJ3, hB5.trans hk3⟩
       case measure => (have a1 := M2.out; have a2 := HLT2.out; rw [wrap_id (n := n0 + (j : Int) + 1) (by omega) (by omega)]; simp only [intOf]; omega)
      gi_wp2
      refine ⟨rfl, _, results_none rfl _ _ _, ⟨_, rfl⟩, .inr ⟨_, hJx3⟩⟩
     have VZ : Aside0 (Z = Y * wd + X) := ⟨by
      have XB := XB.out
      have m1 : 0 ≤ Y * wd := Int.mul_nonneg (by omega) (by omega)
      have m2 : Y * wd ≤ 24 * 24 := Int.mul_le_mul (by omega) hw1 (by omega) (by omega)
      rw [← HZ.out, ← HZ1.out, i64_w, i64_w, wrap_id (n := Y * wd) (by omega) (by omega), wrap_id (by omega) (by omega)]⟩
     have HTO : Aside0 (Srch.to wd hg c (e0 + (i : Int)) (n0 + (j : Int)) = Z) := ⟨by unfold Srch.to; rw [← HX.out, ← HY1.out, if_neg q, VZ.out]⟩
     have YV1 := YV.out
     rw [HTO.out] at YV1
     obtain ⟨fn, tmps, assign, body, hy, hR⟩ := YV1
     clear YV
     obtain ⟨M, hM⟩ : ∃ M, (if Y < X then Y else X) = M := ⟨_, rfl⟩
     have dM : decide (M < 0) = false := zdf (by rw [← hM]; split <;> omega)
     have d2 : decide (wd ≤ X) = false := zdf (by omega)
     have d3 : decide (hg ≤ Y) = false := zdf (by omega)
     clear q
     gi_wp2
     refine hR.mono ?_
     rintro e W3 (⟨rfl, hJ3, hk3⟩ | ⟨rfl, hJx3⟩)
     ·gi_wp2
      go_roundw
      case rel => exact ⟨j + 1, HLT2.out, ret_i64 (by have := M2.out; have := HLT2.out; rw [wrap_id (by omega) (by omega)]; omega), by rw [Srch.col_succ, ← List.append_assoc, HTO.out]; exact hJ3, hB5.trans hk3⟩
      case measure => (have a1 := M2.out; have a2 := HLT2.out; rw [wrap_id (n := n0 + (j : Int) + 1) (by omega) (by omega)]; simp only [intOf]; omega)
     gi_wp2
     refine ⟨rfl, _, results_none rfl _ _ _, ⟨_, rfl⟩, .inr ⟨_, hJx3⟩⟩
    have d1 : decide (n0 + (j : Int) ≤ n1) = false := zdf (by have := M2.out; omega)
    have HJE : Aside0 (j = m2 + 1) := ⟨by omega⟩
    clear hlt2
    gi_wp2
    go_roundw
    case rel => exact ⟨i + 1, HLT.out, ret_i64 (by have := M1.out; have := HLT.out; rw [wrap_id (by omega) (by omega)]; omega), by have h := hJ; rw [HJE.out] at h; exact h, hB⟩
    case measure => (have a1 := M1.out; have a2 := HLT.out; rw [wrap_id (n := e0 + (i : Int) + 1) (by omega) (by omega)]; simp only [intOf]; omega)
  have d1 : decide (e0 + (i : Int) ≤ e1) = false := zdf (by have := M1.out; omega)
  have HIE : Aside0 (i = m1 + 1) := ⟨by omega⟩
  clear hlt
  gi_wp2
  refine ⟨rfl, _, results_none rfl _ _ _, ⟨_, rfl⟩, .inl ?_⟩
  have h := hJ
  rw [HIE.out] at h
  exact h
theorem grownBy_drewN0 (W : World) (k : Nat) : W.grownBy (W.drewN k) none := by
 cases k with
 | zero => exact ⟨rfl, rfl, rfl, Nat.le_refl _, fun _ _ _ => rfl⟩
 | succ k => exact ⟨rfl, rfl, rfl, Nat.le_refl _, fun _ _ _ => rfl⟩
set_option maxHeartbeats 4000000 in
theorem mooring_reach_in (fn0 : FuncId → Prop) (dep : Option Nat) (al : Bool) (n : Nat) (h5 : fn0 95) (wd hg c e0 e1 n0 n1 : Int) (sv : Value) (w : World) :
  CallsIn (Fence.mk fn0 dep al none) n Try.prog 95 #[.agg #[.int .i64 wd, .int .i64 hg], .int .i64 c, .agg #[.int .i64 e0, .int .i64 e1, .int .i64 n0, .int .i64 n1, sv]] w fun e w' =>
   e = .returned (.func (.func 102) #[] #[.pointer (some ⟨w.heap.size + 1 + 1, 0, none⟩), .pointer (some ⟨w.heap.size + 1, 0, none⟩), .pointer (some ⟨w.heap.size, 0, none⟩)]) ∧
   w' = ((w.alloc (.cells #[.int .i64 wd, .int .i64 hg] 120)).alloc (.cells #[.int .i64 c] 3)).alloc (.cells #[.int .i64 e0, .int .i64 e1, .int .i64 n0, .int .i64 n1, sv] 79) := by
 refine callsIn_of_wp Try.func95 rfl h5 ?_ rfl
 simp only [Try.ntmps95, List.size_toArray, List.length_cons, List.length_nil, Nat.reduceAdd, Nat.reduceSub, Array.replicate_succ, Array.replicate_zero, List.push_toArray, List.append_toArray, List.nil_append, List.cons_append]
 gi_wp2
 go_ret
 exact ⟨rfl, rfl⟩
theorem mooring_reach_stops (fn0 : FuncId → Prop) (dep : Option Nat) (al : Bool) (n : Nat) (h6 : fn0 102) (hn : 1 ≤ n) (Bh Bc Ba : Nat) (wd hg c e0 e1 n0 n1 : Int) (sv : Value)
  (hw0 : 1 ≤ wd) (hw1 : wd ≤ 24) (hh0 : 1 ≤ hg) (hh1 : hg ≤ 24) (hc0 : 0 ≤ c) (hc1 : c < 576) (he0 : -4 ≤ e0) (he1 : e0 ≤ e1) (he2 : e1 ≤ 4) (hn0 : -4 ≤ n0) (hn1 : n0 ≤ n1) (hn2 : n1 ≤ 4) (w : World)
  (kh : w.heap[Bh]? = some (.cells #[.int .i64 e0, .int .i64 e1, .int .i64 n0, .int .i64 n1, sv] 79 (0, 0))) (kc : w.heap[Bc]? = some (.cells #[.int .i64 c] 3 (0, 0))) (ka : w.heap[Ba]? = some (.cells #[.int .i64 wd, .int .i64 hg] 120 (0, 0))) :
  SeqStopsK (Fence.mk fn0 dep al none) n Try.prog 102 #[.pointer (some ⟨Bh, 0, none⟩), .pointer (some ⟨Bc, 0, none⟩), .pointer (some ⟨Ba, 0, none⟩)] (fun x : Srch.Cell (wd * hg) => #[Value.int .i64 x.1]) (Srch.Keep Bh Bc Ba) (fun ys => ys.map (fun x => x.1) = Srch.reach wd hg c e0 e1 n0 n1) (fun _ => True) (Srch.many n0 n1 * Srch.many e0 e1) w := fun l J Jx W hW hA _ hY h0 =>
 (mooring_reach1_in fn0 dep al n h6 hn l Bh Bc Ba wd hg c e0 e1 n0 n1 sv hw0 hw1 hh0 hh1 hc0 hc1 he0 he1 he2 hn0 hn1 hn2 (fun pre W => ∃ p : List (Srch.Cell (wd * hg)), p.map (fun x => x.1) = pre ∧ J p W) (fun pre W => ∃ p : List (Srch.Cell (wd * hg)), p.map (fun x => x.1) = pre ∧ Jx p W)
  (fun pre W nq h => h.elim fun p hp => ⟨p, hp.1, hA p W _ none hp.2 (grownBy_drewN0 W nq) (fun r e => by cases e)⟩)
  (fun pre x W h hl hx => by
   obtain ⟨p, rfl, hJ⟩ := h
   rw [List.length_map] at hl
   obtain ⟨fn, tmps, assign, body, hy, hR⟩ := hY p ⟨x, hx⟩ W hJ hl
   refine ⟨fn, tmps, assign, body, hy, hR.mono ?_⟩
   rintro e W' (⟨rfl, hj, hk⟩ | ⟨rfl, hj⟩)
   ·exact .inl ⟨rfl, ⟨p ++ [⟨x, hx⟩], by simp, hj⟩, hk⟩
   exact .inr ⟨rfl, p ++ [⟨x, hx⟩], by simp, hj⟩)
  W (zkb kh hW) (zkb kc hW) (zkb ka hW) ⟨[], rfl, h0⟩).mono (fun e W' h => ⟨h.1, h.2.elim (fun hJ => .inl (hJ.elim fun p hp => ⟨p, hp.1, hp.2⟩)) (fun hJ => .inr (hJ.elim fun pre hp => hp.elim fun p hp => ⟨p, trivial, hp.2⟩))⟩)
end Go.Proofs.Ytebcmhajbjkojaa.P
