/- sums and products do not depend on the order of their operands; a difference is the sum with the opposite; a span is in its hull with another one, and the common part is in both; 1 / 1 times a span is the span. Part 1 of 1. -/
-- Put together by wip/tools/shake.py, a program of this work: out of the words that the kit's print tool (print.sh) writes for a claim and what wip/tools/xprint.py prints, those that this claim reaches, and this work's own texts.
import Derived.Below
import Derived.Deep.Draws
import Derived.Deep.AppendLies
import Derived.Maps.AppendAt
import Derived.OwnWalk
import Derived.Laws.BytesArg
import Derived.Laws.MakeOwn
import Derived.Laws.OwnMore
import Derived.Deep.OwnRows
import Derived.Tactics
import Derived.Lib.ConvBytes
import Derived.Laws.Slices
import Derived.WalkKit
import Derived.KernelRfl
import Derived.RowKit3
import Derived.Deep.LoopGhost
import Derived.Deep.QuietTactic
import Derived.BigQuiet
import Derived.WideLaws
import Derived.Deep.DeepCutAuto
import Derived.Deep.CutBlock
import Derived.Deep.RegionHeld3
import Derived.Laws.Rows
import Derived.Lib.AppendStr
import Derived.ArgAppend
import Derived.Laws.IdiomCopy
import Derived.RowKit
import Derived.OrdersHeld
import Derived.Laws.BitsLemmas
import Derived.Laws.StructEq
import Derived.Test.YtlkafgibgipodaaProg
import Derived.Laws.EntriesVeiled
import Derived.RangeFuncBox
import Derived.RangeFuncNested
import Derived.RangeFuncBound
import Derived.RangeFuncCalls
import Derived.RangeFuncLeaves
import Derived.Shelf.Abstract
import Derived.Shelf.RegionOpen
import Derived.OwnWalkIn
import Derived.TacticsInMore
import Derived.LoopNIn
import Derived.LoopIn
import Derived.Sort.QuietIn
import Derived.Sort.LoopGhostIn
import Derived.Shelf.SlSortCmp.WholeK
import Derived.Deep.Slices
import Derived.OpenShut
import Derived.Test.YtlkafgibgipodaaRows
import Derived.ProofKit
import Derived.ShutString
import Derived.ChangeOld
import Derived.SizedLaws
import Derived.Carry
import Derived.Laws.Externs
import Derived.Test.YtlkafgibgipodaaKOps3
namespace Go.Proofs.Ytlkafgibgipodaa.P
open Go.RowKit Go.Proofs.YtlkafgibgipodaaW.PrintWords Go.Proofs.YtlkafgibgipodaaW.PrintLast Go.Proofs.YtlkafgibgipodaaW.PrintMore
attribute [local go_sem] max2_int min2_int max_two min_two max_three min_three max_four min_four   -- for this text's walks alone
set_option linter.unusedVariables false
set_option linter.unusedSimpArgs false
def isobathlaw01_inside.f (a0_0 : Int) (a0_1 : Int) (a1_0 : Int) (a1_1 : Int) : Option (Bool) := if a1_0 ≤ a0_0 then (some (decide (a0_1 ≤ a1_1))) else (some false)
set_option maxHeartbeats 8000000 in
set_option maxRecDepth 100000 in
theorem isobathlaw01_inside.calls (a0_0 : Int) (a0_1 : Int) (a1_0 : Int) (a1_1 : Int) (r : Bool) (w : World) (h : isobathlaw01_inside.f a0_0 a0_1 a1_0 a1_1 = some r) :
  Calls Try.prog 33 #[.agg #[.int .i64 a0_0, .int .i64 a0_1], .agg #[.int .i64 a1_0, .int .i64 a1_1]] w fun e w' => e = .returned (.bool r) ∧ Below w.heap.size w w' := by
 have hu32 := Try.underlying32
 have HB := zam (Below.refl w.heap.size w)
 have H : (if a1_0 ≤ a0_0 then (some (decide (a0_1 ≤ a1_1))) else (some false)) = some r := h
 clear h
 by_cases c3 : a1_0 ≤ a0_0
 ·rw [if_pos c3] at H
  have c3b0 : decide (a1_0 ≤ a0_0) = true := zdt c3
  clear c3
  obtain rfl := zsi H
  go_enter Try.func33, Try.ntmps33
  go_wp2_with (first | ((with_reducible refine zgd (N := 2) rfl ?_); refine box_event ?hg (N := 2) ?hd (cs := #[.int .i64 a0_0, .int .i64 a0_1]) (t := 32) ?hr ?_; (case hd => rfl); (case hg => rfl); (case hr => first | (go_simp; done) | (go_simp; rfl)); intro gb101 hg w4 hbox hb; have n0_ := zam (zbt (by repeat (first | (with_reducible first | exact HB.out | apply zba | apply zbn | apply zb1) | exact HB.out)) hb); have n1_ := zam (hbox); have n2_ := zam ((by rw [hg]; exact (zbz (by repeat (first | (with_reducible first | exact HB.out | apply zba | apply zbn | apply zb1) | exact HB.out))) : w.heap.size ≤ gb101)); have n3_ := zam ((by rw [hg]; exact (zbz (by repeat (first | (with_reducible first | exact HB.out | apply zba | apply zbn | apply zb1) | exact HB.out))) : w.heap.size ≤ gb101)); clear HB; have HB := n0_; have BK101 := n1_; have GW101 := n2_; have GE101 := n3_; clear n0_ n1_ n2_ n3_; clear hb hbox hg) | ((with_reducible refine zgd (N := 3) rfl ?_); refine box_event ?hg (N := 3) ?hd (cs := #[.int .i64 a1_0, .int .i64 a1_1]) (t := 32) ?hr ?_; (case hd => rfl); (case hg => rfl); (case hr => first | (go_simp; done) | (go_simp; rfl)); intro gb102 hg w5 hbox hb; have n0_ := zam (zkb (g := gb101) (o := .cells #[.int .i64 a0_0, .int .i64 a0_1] 32 (0, 0)) (by (with_reducible repeat (first | refine zkn ?_ _ | refine zkd ?_ | refine zka ?_ _)); exact BK101.out) hb); have n1_ := zam (zbt (by repeat (first | (with_reducible first | exact HB.out | apply zba | apply zbn | apply zb1 | refine zbs ?_ GE101.out) | exact HB.out)) hb); have n2_ := zam (hbox); have n3_ := zam ((by rw [hg]; exact (zbz (by repeat (first | (with_reducible first | exact HB.out | apply zba | apply zbn | apply zb1 | refine zbs ?_ GE101.out) | exact HB.out))) : w.heap.size ≤ gb102)); have n4_ := zam ((by rw [hg]; exact (zbz (by repeat (first | (with_reducible first | exact HB.out | apply zba | apply zbn | apply zb1 | refine zbs ?_ GE101.out) | exact HB.out))) : w.heap.size ≤ gb102)); have n5_ := zam ((by rw [hg]; exact Nat.ne_of_lt (blk_lt (g := gb101) (o := .cells #[.int .i64 a0_0, .int .i64 a0_1] 32 (0, 0)) (by (with_reducible repeat (first | refine zkn ?_ _ | refine zkd ?_ | refine zka ?_ _)); exact BK101.out)) : gb101 ≠ gb102)); have n6_ := zam ((by rw [hg]; exact Nat.ne_of_gt (blk_lt (g := gb101) (o := .cells #[.int .i64 a0_0, .int .i64 a0_1] 32 (0, 0)) (by (with_reducible repeat (first | refine zkn ?_ _ | refine zkd ?_ | refine zka ?_ _)); exact BK101.out)) : gb102 ≠ gb101)); clear BK101; clear HB; have BK101 := n0_; have HB := n1_; have BK102 := n2_; have GW102 := n3_; have GE102 := n4_; have NB101_102 := n5_; have NB102_101 := n6_; clear n0_ n1_ n2_ n3_ n4_ n5_ n6_; clear hb hbox hg; have hnb6 := NB102_101.out; have hnc6 := NB101_102.out; have hcz7_0 : w5.cell? ⟨gb102, 0, none⟩ = some (.int .i64 a1_0) := (zkc BK102.out 0).trans rfl; have hcz7_1 : w5.cell? ⟨gb102, 1, none⟩ = some (.int .i64 a1_1) := (zkc BK102.out 1).trans rfl; have hfz7_0 := zkz BK102.out 0; have hfz7_1 := zkz BK102.out 1; have hcz8_0 : w5.cell? ⟨gb101, 0, none⟩ = some (.int .i64 a0_0) := (zkc BK101.out 0).trans rfl; have hcz8_1 : w5.cell? ⟨gb101, 1, none⟩ = some (.int .i64 a0_1) := (zkc BK101.out 1).trans rfl; have hfz8_0 := zkz BK101.out 0; have hfz8_1 := zkz BK101.out 1))
  go_ret
  exact ⟨by first | rfl | (simp [errW_none, errW_some] <;> rfl) | (simp [*, errW_none, errW_some] <;> rfl), by repeat (first | (with_reducible first | exact HB.out | apply zba | apply zbn | apply zb1 | refine zbs ?_ GE101.out | refine zbs ?_ GE102.out) | exact HB.out)⟩
 rw [if_neg c3] at H
 have c3b0 : decide (a1_0 ≤ a0_0) = false := zdf c3
 clear c3
 obtain rfl := zsi H
 go_enter Try.func33, Try.ntmps33
 go_wp2_with (first | ((with_reducible refine zgd (N := 2) rfl ?_); refine box_event ?hg (N := 2) ?hd (cs := #[.int .i64 a0_0, .int .i64 a0_1]) (t := 32) ?hr ?_; (case hd => rfl); (case hg => rfl); (case hr => first | (go_simp; done) | (go_simp; rfl)); intro gb101 hg w9 hbox hb; have n0_ := zam (zbt (by repeat (first | (with_reducible first | exact HB.out | apply zba | apply zbn | apply zb1) | exact HB.out)) hb); have n1_ := zam (hbox); have n2_ := zam ((by rw [hg]; exact (zbz (by repeat (first | (with_reducible first | exact HB.out | apply zba | apply zbn | apply zb1) | exact HB.out))) : w.heap.size ≤ gb101)); have n3_ := zam ((by rw [hg]; exact (zbz (by repeat (first | (with_reducible first | exact HB.out | apply zba | apply zbn | apply zb1) | exact HB.out))) : w.heap.size ≤ gb101)); clear HB; have HB := n0_; have BK101 := n1_; have GW101 := n2_; have GE101 := n3_; clear n0_ n1_ n2_ n3_; clear hb hbox hg) | ((with_reducible refine zgd (N := 3) rfl ?_); refine box_event ?hg (N := 3) ?hd (cs := #[.int .i64 a1_0, .int .i64 a1_1]) (t := 32) ?hr ?_; (case hd => rfl); (case hg => rfl); (case hr => first | (go_simp; done) | (go_simp; rfl)); intro gb102 hg w10 hbox hb; have n0_ := zam (zkb (g := gb101) (o := .cells #[.int .i64 a0_0, .int .i64 a0_1] 32 (0, 0)) (by (with_reducible repeat (first | refine zkn ?_ _ | refine zkd ?_ | refine zka ?_ _)); exact BK101.out) hb); have n1_ := zam (zbt (by repeat (first | (with_reducible first | exact HB.out | apply zba | apply zbn | apply zb1 | refine zbs ?_ GE101.out) | exact HB.out)) hb); have n2_ := zam (hbox); have n3_ := zam ((by rw [hg]; exact (zbz (by repeat (first | (with_reducible first | exact HB.out | apply zba | apply zbn | apply zb1 | refine zbs ?_ GE101.out) | exact HB.out))) : w.heap.size ≤ gb102)); have n4_ := zam ((by rw [hg]; exact (zbz (by repeat (first | (with_reducible first | exact HB.out | apply zba | apply zbn | apply zb1 | refine zbs ?_ GE101.out) | exact HB.out))) : w.heap.size ≤ gb102)); have n5_ := zam ((by rw [hg]; exact Nat.ne_of_lt (blk_lt (g := gb101) (o := .cells #[.int .i64 a0_0, .int .i64 a0_1] 32 (0, 0)) (by (with_reducible repeat (first | refine zkn ?_ _ | refine zkd ?_ | refine zka ?_ _)); exact BK101.out)) : gb101 ≠ gb102)); have n6_ := zam ((by rw [hg]; exact Nat.ne_of_gt (blk_lt (g := gb101) (o := .cells #[.int .i64 a0_0, .int .i64 a0_1] 32 (0, 0)) (by (with_reducible repeat (first | refine zkn ?_ _ | refine zkd ?_ | refine zka ?_ _)); exact BK101.out)) : gb102 ≠ gb101)); clear BK101; clear HB; have BK101 := n0_; have HB := n1_; have BK102 := n2_; have GW102 := n3_; have GE102 := n4_; have NB101_102 := n5_; have NB102_101 := n6_; clear n0_ n1_ n2_ n3_ n4_ n5_ n6_; clear hb hbox hg; have hnb11 := NB102_101.out; have hnc11 := NB101_102.out; have hcz12_0 : w10.cell? ⟨gb102, 0, none⟩ = some (.int .i64 a1_0) := (zkc BK102.out 0).trans rfl; have hcz12_1 : w10.cell? ⟨gb102, 1, none⟩ = some (.int .i64 a1_1) := (zkc BK102.out 1).trans rfl; have hfz12_0 := zkz BK102.out 0; have hfz12_1 := zkz BK102.out 1; have hcz13_0 : w10.cell? ⟨gb101, 0, none⟩ = some (.int .i64 a0_0) := (zkc BK101.out 0).trans rfl; have hcz13_1 : w10.cell? ⟨gb101, 1, none⟩ = some (.int .i64 a0_1) := (zkc BK101.out 1).trans rfl; have hfz13_0 := zkz BK101.out 0; have hfz13_1 := zkz BK101.out 1))
 go_ret
 exact ⟨by first | rfl | (simp [errW_none, errW_some] <;> rfl) | (simp [*, errW_none, errW_some] <;> rfl), by repeat (first | (with_reducible first | exact HB.out | apply zba | apply zbn | apply zb1 | refine zbs ?_ GE101.out | refine zbs ?_ GE102.out) | exact HB.out)⟩
set_option maxHeartbeats 8000000 in
set_option maxRecDepth 100000 in
theorem isobathref01_Within.calls (a0 : Int) (a1 : Int) (a2 : Int) (r : Bool) (w : World) (h : isobathref01_Within.f a0 a1 a2 = some r) :
  Calls Try.prog 79 #[.int .i64 a0, .int .i64 a1, .int .i64 a2] w fun e w' => e = .returned (.bool r) ∧ Drawn0 w w' := by
 have H : (if a0 ≥ a1 then (some (decide (a0 ≤ a2))) else (some false)) = some r := h
 clear h
 by_cases c4 : a0 ≥ a1
 ·rw [if_pos c4] at H
  have c4b0 : decide (a1 ≤ a0) = true := zdt c4
  clear c4
  obtain rfl := zsi H
  go_enter Try.func79, Try.ntmps79
  go_wp2
  go_ret
  exact ⟨by first | rfl | (simp; done) | (simp [*]; done), by repeat (first | exact Drawn0.refl _ | apply Drawn0.step)⟩
 rw [if_neg c4] at H
 have c4b0 : decide (a1 ≤ a0) = false := zdf c4
 clear c4
 obtain rfl := zsi H
 go_enter Try.func79, Try.ntmps79
 go_wp2
 go_ret
 exact ⟨by first | rfl | (simp; done) | (simp [*]; done), by repeat (first | exact Drawn0.refl _ | apply Drawn0.step)⟩
set_option maxHeartbeats 8000000 in
set_option maxRecDepth 100000 in
theorem isobathref01_Valid.calls (a0_0 : Int) (a0_1 : Int) (r : Bool) (w : World) (h : isobathref01_Valid.f a0_0 a0_1 = some r) :
  Calls Try.prog 22 #[.agg #[.int .i64 a0_0, .int .i64 a0_1]] w fun e w' => e = .returned (.bool r) ∧ Below w.heap.size w w' := by
 have hu32 := Try.underlying32
 have HB := zam (Below.refl w.heap.size w)
 have H : (if a0_0 ≤ a0_1 then ((isobathref01_Within.f a0_0 (-1073741824) 1073741824).bind fun t102 => (if t102 = true then ((isobathref01_Within.f a0_1 (-1073741824) 1073741824).bind fun t103 => (some t103)) else (some false))) else (some false)) = some r := h
 clear h
 by_cases c2 : a0_0 ≤ a0_1
 ·rw [if_pos c2] at H
  have c2b0 : decide (a0_0 ≤ a0_1) = true := zdt c2
  clear c2
  replace H := Option.bind_eq_some_iff.mp H
  obtain ⟨t102, A30, H⟩ := H
  replace H : (if t102 = true then ((isobathref01_Within.f a0_1 (-1073741824) 1073741824).bind fun t103 => (some t103)) else (some false)) = some r := H
  have A3 := zam A30
  clear A30
  by_cases c4 : t102 = true
  ·subst c4
   have H1 : ((isobathref01_Within.f a0_1 (-1073741824) 1073741824).bind fun t103 => (some t103)) = some r := by rw [if_pos rfl] at H; exact H
   clear H
   have H := H1
   clear H1
   replace H := Option.bind_eq_some_iff.mp H
   obtain ⟨t103, A50, H⟩ := H
   replace H : (some t103) = some r := H
   have A5 := zam A50
   clear A50
   obtain rfl := zsi H
   go_enter Try.func22, Try.ntmps22
   go_wp2_with (first | ((with_reducible refine zgd (N := 1) rfl ?_); refine box_event ?hg (N := 1) ?hd (cs := #[.int .i64 a0_0, .int .i64 a0_1]) (t := 32) ?hr ?_; (case hd => rfl); (case hg => rfl); (case hr => first | (go_simp; done) | (go_simp; rfl)); intro gb101 hg w6 hbox hb; have n0_ := zam (zbt (by repeat (first | (with_reducible first | exact HB.out | apply zba | apply zbn | apply zb1) | exact HB.out)) hb); have n1_ := zam (hbox); have n2_ := zam ((by rw [hg]; exact (zbz (by repeat (first | (with_reducible first | exact HB.out | apply zba | apply zbn | apply zb1) | exact HB.out))) : w.heap.size ≤ gb101)); have n3_ := zam ((by rw [hg]; exact (zbz (by repeat (first | (with_reducible first | exact HB.out | apply zba | apply zbn | apply zb1) | exact HB.out))) : w.heap.size ≤ gb101)); clear HB; have HB := n0_; have BK101 := n1_; have GW101 := n2_; have GE101 := n3_; clear n0_ n1_ n2_ n3_; clear hb hbox hg; have hcz7_0 : w6.cell? ⟨gb101, 0, none⟩ = some (.int .i64 a0_0) := (zkc BK101.out 0).trans rfl; have hcz7_1 : w6.cell? ⟨gb101, 1, none⟩ = some (.int .i64 a0_1) := (zkc BK101.out 1).trans rfl; have hfz7_0 := zkz BK101.out 0; have hfz7_1 := zkz BK101.out 1) | (go_at_call 79; (with_reducible refine (isobathref01_Within.calls a0_0 (-1073741824) 1073741824 true _ A3.out).mono ?_); rintro e w' ⟨rfl, ⟨nd, rfl⟩⟩) | (go_at_call 79; (with_reducible refine (isobathref01_Within.calls a0_1 (-1073741824) 1073741824 t103 _ A5.out).mono ?_); rintro e w' ⟨rfl, ⟨nd, rfl⟩⟩))
   go_ret
   exact ⟨by first | rfl | (simp [errW_none, errW_some] <;> rfl) | (simp [*, errW_none, errW_some] <;> rfl), by repeat (first | (with_reducible first | exact HB.out | apply zba | apply zbn | apply zb1 | refine zbs ?_ GE101.out) | exact HB.out)⟩
  replace c4 := Bool.eq_false_iff.mpr c4
  subst c4
  have H1 : (some false) = some r := by rw [if_neg (show ¬ (false = true) by decide)] at H; exact H
  clear H
  have H := H1
  clear H1
  obtain rfl := zsi H
  go_enter Try.func22, Try.ntmps22
  go_wp2_with (first | ((with_reducible refine zgd (N := 1) rfl ?_); refine box_event ?hg (N := 1) ?hd (cs := #[.int .i64 a0_0, .int .i64 a0_1]) (t := 32) ?hr ?_; (case hd => rfl); (case hg => rfl); (case hr => first | (go_simp; done) | (go_simp; rfl)); intro gb101 hg w8 hbox hb; have n0_ := zam (zbt (by repeat (first | (with_reducible first | exact HB.out | apply zba | apply zbn | apply zb1) | exact HB.out)) hb); have n1_ := zam (hbox); have n2_ := zam ((by rw [hg]; exact (zbz (by repeat (first | (with_reducible first | exact HB.out | apply zba | apply zbn | apply zb1) | exact HB.out))) : w.heap.size ≤ gb101)); have n3_ := zam ((by rw [hg]; exact (zbz (by repeat (first | (with_reducible first | exact HB.out | apply zba | apply zbn | apply zb1) | exact HB.out))) : w.heap.size ≤ gb101)); clear HB; have HB := n0_; have BK101 := n1_; have GW101 := n2_; have GE101 := n3_; clear n0_ n1_ n2_ n3_; clear hb hbox hg; have hcz9_0 : w8.cell? ⟨gb101, 0, none⟩ = some (.int .i64 a0_0) := (zkc BK101.out 0).trans rfl; have hcz9_1 : w8.cell? ⟨gb101, 1, none⟩ = some (.int .i64 a0_1) := (zkc BK101.out 1).trans rfl; have hfz9_0 := zkz BK101.out 0; have hfz9_1 := zkz BK101.out 1) | (go_at_call 79; (with_reducible refine (isobathref01_Within.calls a0_0 (-1073741824) 1073741824 false _ A3.out).mono ?_); rintro e w' ⟨rfl, ⟨nd, rfl⟩⟩))
  go_ret
  exact ⟨by first | rfl | (simp [errW_none, errW_some] <;> rfl) | (simp [*, errW_none, errW_some] <;> rfl), by repeat (first | (with_reducible first | exact HB.out | apply zba | apply zbn | apply zb1 | refine zbs ?_ GE101.out) | exact HB.out)⟩
 rw [if_neg c2] at H
 have c2b0 : decide (a0_0 ≤ a0_1) = false := zdf c2
 clear c2
 obtain rfl := zsi H
 go_enter Try.func22, Try.ntmps22
 go_wp2_with (first | ((with_reducible refine zgd (N := 1) rfl ?_); refine box_event ?hg (N := 1) ?hd (cs := #[.int .i64 a0_0, .int .i64 a0_1]) (t := 32) ?hr ?_; (case hd => rfl); (case hg => rfl); (case hr => first | (go_simp; done) | (go_simp; rfl)); intro gb101 hg w10 hbox hb; have n0_ := zam (zbt (by repeat (first | (with_reducible first | exact HB.out | apply zba | apply zbn | apply zb1) | exact HB.out)) hb); have n1_ := zam (hbox); have n2_ := zam ((by rw [hg]; exact (zbz (by repeat (first | (with_reducible first | exact HB.out | apply zba | apply zbn | apply zb1) | exact HB.out))) : w.heap.size ≤ gb101)); have n3_ := zam ((by rw [hg]; exact (zbz (by repeat (first | (with_reducible first | exact HB.out | apply zba | apply zbn | apply zb1) | exact HB.out))) : w.heap.size ≤ gb101)); clear HB; have HB := n0_; have BK101 := n1_; have GW101 := n2_; have GE101 := n3_; clear n0_ n1_ n2_ n3_; clear hb hbox hg; have hcz11_0 : w10.cell? ⟨gb101, 0, none⟩ = some (.int .i64 a0_0) := (zkc BK101.out 0).trans rfl; have hcz11_1 : w10.cell? ⟨gb101, 1, none⟩ = some (.int .i64 a0_1) := (zkc BK101.out 1).trans rfl; have hfz11_0 := zkz BK101.out 0; have hfz11_1 := zkz BK101.out 1))
 go_ret
 exact ⟨by first | rfl | (simp [errW_none, errW_some] <;> rfl) | (simp [*, errW_none, errW_some] <;> rfl), by repeat (first | (with_reducible first | exact HB.out | apply zba | apply zbn | apply zb1 | refine zbs ?_ GE101.out) | exact HB.out)⟩
end Go.Proofs.Ytlkafgibgipodaa.P
namespace Go.Proofs.Ytlkafgibgipodaa.P
open Go.RowKit Go.Proofs.YtlkafgibgipodaaW.PrintWords Go.Proofs.YtlkafgibgipodaaW.PrintLast Go.Proofs.YtlkafgibgipodaaW.PrintMore
attribute [local go_sem] max2_int min2_int max_two min_two max_three min_three max_four min_four   -- for this text's walks alone
set_option linter.unusedVariables false
set_option linter.unusedSimpArgs false
attribute [local go_sem high] eqA32
mutual
def isobathlaw01_BoundAlgebra.j0 : Nat → Bool → Int → Int → Int → Int → Option (Bool)
 | 0, _, _, _, _, _ => none
 | k + 1, x24, x102000, x102001, x103000, x103001 => if x24 = true then ((isobathlaw01_Works.f k).bind fun t105 => (some t105)) else ((bound_Add.f k x102000 x102001 x103000 x103001).bind fun bt106 => ((bound_Add.f k x103000 x103001 x102000 x102001).bind fun bt110 => ((bound_Mul.f k x102000 x102001 x103000 x103001).bind fun bt114 => ((bound_Mul.f k x103000 x103001 x102000 x102001).bind fun bt118 => (if (!(bt106.1 == bt110.1) || (!(bt106.2.1 == bt110.2.1))) = true then (none) else (if bt106.2.2 = bt110.2.2 then (if (!(bt114.1 == bt118.1) || (!(bt114.2.1 == bt118.2.1))) = true then (none) else (isobathlaw01_BoundAlgebra.j1 k (bt114.2.2 != bt118.2.2) x102000 x102001 x103000 x103001)) else (none)))))))
def isobathlaw01_BoundAlgebra.j1 : Nat → Bool → Int → Int → Int → Int → Option (Bool)
 | 0, _, _, _, _, _ => none
 | k + 1, x67, x102000, x102001, x103000, x103001 => if x67 = true then (none) else ((bound_Scale.f k x103000 x103001 (-1) 1).bind fun bt122 => (if bt122.2.2 = 0 then ((bound_Add.f k x102000 x102001 bt122.1 bt122.2.1).bind fun bt126 => ((bound_Sub.f k x102000 x102001 x103000 x103001).bind fun bt129 => ((bound_Scale.f k x102000 x102001 1 1).bind fun bt132 => (if (!(bt126.1 == bt129.1) || (!(bt126.2.1 == bt129.2.1))) = true then (none) else (if bt126.2.2 = bt129.2.2 then (if bt132.2.2 = 0 then (isobathlaw01_BoundAlgebra.j2 k (!(bt132.1 == x102000) || (!(bt132.2.1 == x102001))) x102000 x102001 x103000 x103001) else (none)) else (none)))))) else (none)))
def isobathlaw01_BoundAlgebra.j2 : Nat → Bool → Int → Int → Int → Int → Option (Bool)
 | 0, _, _, _, _, _ => none
 | k + 1, x108, x102000, x102001, x103000, x103001 => if x108 = true then (none) else ((bound_Hull.f k x102000 x102001 x103000 x103001).bind fun bt136 => ((bound_Meet.f k x102000 x102001 x103000 x103001).bind fun bt140 => (if bt136.2.2 = 0 then ((isobathlaw01_inside.f x102000 x102001 bt136.1 bt136.2.1).bind fun t144 => (if t144 = true then ((isobathlaw01_inside.f x103000 x103001 bt136.1 bt136.2.1).bind fun t145 => (isobathlaw01_BoundAlgebra.j3 k bt140.2.2 (!t145) x102000 x102001 x103000 x103001 bt140.1 bt140.2.1)) else (none))) else (none))))
def isobathlaw01_BoundAlgebra.j3 : Nat → Int → Bool → Int → Int → Int → Int → Int → Int → Option (Bool)
 | 0, _, _, _, _, _, _, _, _ => none
 | k + 1, x8, x134, x102000, x102001, x103000, x103001, x144000, x144001 => if x134 = true then (none) else (if x8 = 5 then ((isobathlaw01_Works.f k).bind fun t146 => (some t146)) else (if x8 = 0 then ((isobathlaw01_inside.f x144000 x144001 x102000 x102001).bind fun t147 => (if t147 = true then ((isobathlaw01_inside.f x144000 x144001 x103000 x103001).bind fun t148 => (if t148 = true then ((isobathlaw01_Works.f k).bind fun t149 => (some t149)) else (none))) else (none))) else (none)))
end
def isobathlaw01_BoundAlgebra.f (k : Nat) (a0_0 : Int) (a0_1 : Int) (a1_0 : Int) (a1_1 : Int) : Option (Bool) := (isobathref01_Valid.f a0_0 a0_1).bind fun t103 => (if t103 = true then ((isobathref01_Valid.f a1_0 a1_1).bind fun t104 => (isobathlaw01_BoundAlgebra.j0 k (!t104) a0_0 a0_1 a1_0 a1_1)) else (isobathlaw01_BoundAlgebra.j0 k true a0_0 a0_1 a1_0 a1_1))
set_option maxHeartbeats 8000000 in
set_option maxRecDepth 100000 in
theorem isobathlaw01_BoundAlgebra.calls (k : Nat) (a0_0 : Int) (a0_1 : Int) (a1_0 : Int) (a1_1 : Int) (r : Bool) (w : World) (h : isobathlaw01_BoundAlgebra.f k a0_0 a0_1 a1_0 a1_1 = some r) :
  Calls Try.prog 5 #[.agg #[.int .i64 a0_0, .int .i64 a0_1], .agg #[.int .i64 a1_0, .int .i64 a1_1]] w fun e w' => e = .returned (.bool r) ∧ Below w.heap.size w w' := by
 have hu32 := Try.underlying32
 have HB := zam (Below.refl w.heap.size w)
 have H : ((isobathref01_Valid.f a0_0 a0_1).bind fun t103 => (if t103 = true then ((isobathref01_Valid.f a1_0 a1_1).bind fun t104 => (isobathlaw01_BoundAlgebra.j0 k (!t104) a0_0 a0_1 a1_0 a1_1)) else (isobathlaw01_BoundAlgebra.j0 k true a0_0 a0_1 a1_0 a1_1))) = some r := h
 clear h
 have HC3 := zam H
 clear H
 go_enter Try.func5, Try.ntmps5
 go_upto_region 1 with (first | ((with_reducible refine zgd (N := 2) rfl ?_); refine box_event ?hg (N := 2) ?hd (cs := #[.int .i64 a0_0, .int .i64 a0_1]) (t := 32) ?hr ?_; (case hd => rfl); (case hg => rfl); (case hr => first | (go_simp; done) | (go_simp; rfl)); intro gb101 hg w4 hbox hb; have n0_ := zam (zbt (by repeat (first | (with_reducible first | exact HB.out | apply zba | apply zbn | apply zb1) | exact HB.out)) hb); have n1_ := zam (hbox); have n2_ := zam ((by rw [hg]; exact (zbz (by repeat (first | (with_reducible first | exact HB.out | apply zba | apply zbn | apply zb1) | exact HB.out))) : w.heap.size ≤ gb101)); have n3_ := zam ((by rw [hg]; exact (zbz (by repeat (first | (with_reducible first | exact HB.out | apply zba | apply zbn | apply zb1) | exact HB.out))) : w.heap.size ≤ gb101)); clear HB; have HB := n0_; have BK101 := n1_; have GW101 := n2_; have GE101 := n3_; clear n0_ n1_ n2_ n3_; clear hb hbox hg) | ((with_reducible refine zgd (N := 3) rfl ?_); refine box_event ?hg (N := 3) ?hd (cs := #[.int .i64 a1_0, .int .i64 a1_1]) (t := 32) ?hr ?_; (case hd => rfl); (case hg => rfl); (case hr => first | (go_simp; done) | (go_simp; rfl)); intro gb102 hg w5 hbox hb; have n0_ := zam (zkb (g := gb101) (o := .cells #[.int .i64 a0_0, .int .i64 a0_1] 32 (0, 0)) (by (with_reducible repeat (first | refine zkn ?_ _ | refine zkd ?_ | refine zka ?_ _)); exact BK101.out) hb); have n1_ := zam (zbt (by repeat (first | (with_reducible first | exact HB.out | apply zba | apply zbn | apply zb1 | refine zbs ?_ GE101.out) | exact HB.out)) hb); have n2_ := zam (hbox); have n3_ := zam ((by rw [hg]; exact (zbz (by repeat (first | (with_reducible first | exact HB.out | apply zba | apply zbn | apply zb1 | refine zbs ?_ GE101.out) | exact HB.out))) : w.heap.size ≤ gb102)); have n4_ := zam ((by rw [hg]; exact (zbz (by repeat (first | (with_reducible first | exact HB.out | apply zba | apply zbn | apply zb1 | refine zbs ?_ GE101.out) | exact HB.out))) : w.heap.size ≤ gb102)); have n5_ := zam ((by rw [hg]; exact Nat.ne_of_lt (blk_lt (g := gb101) (o := .cells #[.int .i64 a0_0, .int .i64 a0_1] 32 (0, 0)) (by (with_reducible repeat (first | refine zkn ?_ _ | refine zkd ?_ | refine zka ?_ _)); exact BK101.out)) : gb101 ≠ gb102)); have n6_ := zam ((by rw [hg]; exact Nat.ne_of_gt (blk_lt (g := gb101) (o := .cells #[.int .i64 a0_0, .int .i64 a0_1] 32 (0, 0)) (by (with_reducible repeat (first | refine zkn ?_ _ | refine zkd ?_ | refine zka ?_ _)); exact BK101.out)) : gb102 ≠ gb101)); clear BK101; clear HB; have BK101 := n0_; have HB := n1_; have BK102 := n2_; have GW102 := n3_; have GE102 := n4_; have NB101_102 := n5_; have NB102_101 := n6_; clear n0_ n1_ n2_ n3_ n4_ n5_ n6_; clear hb hbox hg))
 (try simp only [Act.put, zsa, zsz, zss])
 go_cut [24] (fun v24 wc => ∃ (kq : Nat) (x24_2 : Bool), v24 = .bool x24_2 ∧ Aside0 (isobathlaw01_BoundAlgebra.j0 kq x24_2 a0_0 a0_1 a1_0 a1_1 = some r) ∧ Aside0 (kq ≤ k) ∧ Aside0 (wc.heap[gb101]? = some (.cells #[.int .i64 a0_0, .int .i64 a0_1] 32 (0, 0))) ∧ Aside0 (wc.heap[gb102]? = some (.cells #[.int .i64 a1_0, .int .i64 a1_1] 32 (0, 0))) ∧ Aside0 (Below w.heap.size w wc))
 case first =>
  have H := HC3.out
  clear HC3
  replace H := Option.bind_eq_some_iff.mp H
  obtain ⟨t103, A60, H⟩ := H
  replace H : (if t103 = true then ((isobathref01_Valid.f a1_0 a1_1).bind fun t104 => (isobathlaw01_BoundAlgebra.j0 k (!t104) a0_0 a0_1 a1_0 a1_1)) else (isobathlaw01_BoundAlgebra.j0 k true a0_0 a0_1 a1_0 a1_1)) = some r := H
  have A6 := zam A60
  clear A60
  by_cases c7 : t103 = true
  ·subst c7
   have H1 : ((isobathref01_Valid.f a1_0 a1_1).bind fun t104 => (isobathlaw01_BoundAlgebra.j0 k (!t104) a0_0 a0_1 a1_0 a1_1)) = some r := by rw [if_pos rfl] at H; exact H
   clear H
   have H := H1
   clear H1
   replace H := Option.bind_eq_some_iff.mp H
   obtain ⟨t104, A80, H⟩ := H
   replace H : (isobathlaw01_BoundAlgebra.j0 k (!t104) a0_0 a0_1 a1_0 a1_1) = some r := H
   have A8 := zam A80
   clear A80
   have H' := zam H
   clear H
   have hnb9 := NB101_102.out
   have hnc9 := NB102_101.out
   have hcz10_0 : w5.cell? ⟨gb101, 0, none⟩ = some (.int .i64 a0_0) := (zkc BK101.out 0).trans rfl
   have hcz10_1 : w5.cell? ⟨gb101, 1, none⟩ = some (.int .i64 a0_1) := (zkc BK101.out 1).trans rfl
   have hfz10_0 := zkz BK101.out 0
   have hfz10_1 := zkz BK101.out 1
   go_wp2_with (first | ((with_reducible refine zgc (f := 22) rfl ?_); refine goesL_ (some 18) rfl rfl Try.func22 (by kernel_rfl) rfl #[.agg #[.int .i64 a0_0, .int .i64 a0_1]] rfl (by (try simp only [zmt, List.map_cons, List.map_nil]); first | done | rfl | (simp only [zld, zlt]; rfl)) ?_; (with_reducible refine (isobathref01_Valid.calls a0_0 a0_1 true _ A6.out).mono ?_); rintro e w11 ⟨rfl, hb⟩; refine ⟨_, rfl, ?_⟩; have n0_ := zam (zkb (g := gb101) (o := .cells #[.int .i64 a0_0, .int .i64 a0_1] 32 (0, 0)) (by (with_reducible repeat (first | refine zkn ?_ _ | refine zkd ?_ | refine zka ?_ _)); exact BK101.out) hb); have n1_ := zam (zkb (g := gb102) (o := .cells #[.int .i64 a1_0, .int .i64 a1_1] 32 (0, 0)) (by (with_reducible repeat (first | refine zkn ?_ _ | refine zkd ?_ | refine zka ?_ _)); exact BK102.out) hb); have n2_ := zam (zbt (by repeat (first | (with_reducible first | exact HB.out | apply zba | apply zbn | apply zb1 | refine zbs ?_ GE101.out | refine zbs ?_ GE102.out) | exact HB.out)) hb); clear BK101; clear BK102; clear HB; have BK101 := n0_; have BK102 := n1_; have HB := n2_; clear n0_ n1_ n2_; (try clear hb); (try clear hb2); (try clear hk); (try clear hi); have hcz12_0 : w11.cell? ⟨gb102, 0, none⟩ = some (.int .i64 a1_0) := (zkc BK102.out 0).trans rfl; have hcz12_1 : w11.cell? ⟨gb102, 1, none⟩ = some (.int .i64 a1_1) := (zkc BK102.out 1).trans rfl; have hfz12_0 := zkz BK102.out 0; have hfz12_1 := zkz BK102.out 1) | (go_at_call 22; (with_reducible refine (isobathref01_Valid.calls a1_0 a1_1 t104 _ A8.out).mono ?_); rintro e w13 ⟨rfl, hb⟩; have n0_ := zam (zkb (g := gb101) (o := .cells #[.int .i64 a0_0, .int .i64 a0_1] 32 (0, 0)) (by (with_reducible repeat (first | refine zkn ?_ _ | refine zkd ?_ | refine zka ?_ _)); exact BK101.out) hb); have n1_ := zam (zkb (g := gb102) (o := .cells #[.int .i64 a1_0, .int .i64 a1_1] 32 (0, 0)) (by (with_reducible repeat (first | refine zkn ?_ _ | refine zkd ?_ | refine zka ?_ _)); exact BK102.out) hb); have n2_ := zam (zbt (by repeat (first | (with_reducible first | exact HB.out | apply zba | apply zbn | apply zb1 | refine zbs ?_ GE101.out | refine zbs ?_ GE102.out) | exact HB.out)) hb); clear BK101; clear BK102; clear HB; have BK101 := n0_; have BK102 := n1_; have HB := n2_; clear n0_ n1_ n2_; (try clear hb); (try clear hb2); (try clear hk); (try clear hi)))
   go_meet
   case rel => exact ⟨_, (!t104), (by first | rfl | (simp; done) | (simp [*]; done)), H', ⟨by first | omega | exact Nat.le_refl _⟩, ⟨by (with_reducible repeat (first | refine zkn ?_ _ | refine zkd ?_ | refine zka ?_ _)); exact BK101.out⟩, ⟨by (with_reducible repeat (first | refine zkn ?_ _ | refine zkd ?_ | refine zka ?_ _)); exact BK102.out⟩, ⟨by repeat (first | (with_reducible first | exact HB.out | apply zba | apply zbn | apply zb1 | refine zbs ?_ GE101.out | refine zbs ?_ GE102.out) | exact HB.out)⟩⟩
  replace c7 := Bool.eq_false_iff.mpr c7
  subst c7
  have H1 : (isobathlaw01_BoundAlgebra.j0 k true a0_0 a0_1 a1_0 a1_1) = some r := by rw [if_neg (show ¬ (false = true) by decide)] at H; exact H
  clear H
  have H := H1
  clear H1
  have H' := zam H
  clear H
  have hnb14 := NB101_102.out
  have hnc14 := NB102_101.out
  have hcz15_0 : w5.cell? ⟨gb101, 0, none⟩ = some (.int .i64 a0_0) := (zkc BK101.out 0).trans rfl
  have hcz15_1 : w5.cell? ⟨gb101, 1, none⟩ = some (.int .i64 a0_1) := (zkc BK101.out 1).trans rfl
  have hfz15_0 := zkz BK101.out 0
  have hfz15_1 := zkz BK101.out 1
  go_wp2_with (first | ((with_reducible refine zgc (f := 22) rfl ?_); refine goesL_ (some 18) rfl rfl Try.func22 (by kernel_rfl) rfl #[.agg #[.int .i64 a0_0, .int .i64 a0_1]] rfl (by (try simp only [zmt, List.map_cons, List.map_nil]); first | done | rfl | (simp only [zld, zlt]; rfl)) ?_; (with_reducible refine (isobathref01_Valid.calls a0_0 a0_1 false _ A6.out).mono ?_); rintro e w16 ⟨rfl, hb⟩; refine ⟨_, rfl, ?_⟩; have n0_ := zam (zkb (g := gb101) (o := .cells #[.int .i64 a0_0, .int .i64 a0_1] 32 (0, 0)) (by (with_reducible repeat (first | refine zkn ?_ _ | refine zkd ?_ | refine zka ?_ _)); exact BK101.out) hb); have n1_ := zam (zkb (g := gb102) (o := .cells #[.int .i64 a1_0, .int .i64 a1_1] 32 (0, 0)) (by (with_reducible repeat (first | refine zkn ?_ _ | refine zkd ?_ | refine zka ?_ _)); exact BK102.out) hb); have n2_ := zam (zbt (by repeat (first | (with_reducible first | exact HB.out | apply zba | apply zbn | apply zb1 | refine zbs ?_ GE101.out | refine zbs ?_ GE102.out) | exact HB.out)) hb); clear BK101; clear BK102; clear HB; have BK101 := n0_; have BK102 := n1_; have HB := n2_; clear n0_ n1_ n2_; (try clear hb); (try clear hb2); (try clear hk); (try clear hi)))
  go_meet
  case rel => exact ⟨_, (true), (by first | rfl | (simp; done) | (simp [*]; done)), H', ⟨by first | omega | exact Nat.le_refl _⟩, ⟨by (with_reducible repeat (first | refine zkn ?_ _ | refine zkd ?_ | refine zka ?_ _)); exact BK101.out⟩, ⟨by (with_reducible repeat (first | refine zkn ?_ _ | refine zkd ?_ | refine zka ?_ _)); exact BK102.out⟩, ⟨by repeat (first | (with_reducible first | exact HB.out | apply zba | apply zbn | apply zb1 | refine zbs ?_ GE101.out | refine zbs ?_ GE102.out) | exact HB.out)⟩⟩
 case rest =>
  clear HC3
  try clear c1
  try clear c2
  try clear p2
  try clear c5
  try clear c7
  try clear c9
  try clear c14
  try clear hcz10_0
  try clear hcz10_1
  try clear hcz12_0
  try clear hcz12_1
  try clear hcz15_0
  try clear hcz15_1
  try clear hfz10_0
  try clear hfz10_1
  try clear hfz12_0
  try clear hfz12_1
  try clear hfz15_0
  try clear hfz15_1
  obtain ⟨kq, x24_2, rfl, HA, HJ2, BK101, BK102, HB⟩ := hcut
  cases kq with
  | zero => exact absurd HA.out (by simp [isobathlaw01_BoundAlgebra.j0])
  | succ kj2 =>
   have H := HA.out
   clear HA
   simp only [isobathlaw01_BoundAlgebra.j0] at H
   by_cases c17 : x24_2 = true
   ·subst c17
    have H1 : ((isobathlaw01_Works.f kj2).bind fun t105 => (some t105)) = some r := by rw [if_pos rfl] at H; exact H
    clear H
    have H := H1
    clear H1
    replace H := Option.bind_eq_some_iff.mp H
    obtain ⟨t105, A180, H⟩ := H
    replace H : (some t105) = some r := H
    have A18 := zam A180
    clear A180
    obtain rfl := zsi H
    go_wp2_with (first | ((with_reducible refine zgc (f := 18) rfl ?_); refine goesL_ (some 25) rfl rfl Try.func18 (by kernel_rfl) rfl #[] rfl (by (try simp only [zmt, List.map_cons, List.map_nil]); first | done | rfl | (simp only [zld, zlt]; rfl)) ?_; (with_reducible refine (isobathlaw01_Works.calls kj2  t105 _ A18.out).mono ?_); rintro e w19 ⟨rfl, hb⟩; refine ⟨_, rfl, ?_⟩; have n0_ := zam (zkb (g := gb101) (o := .cells #[.int .i64 a0_0, .int .i64 a0_1] 32 (0, 0)) (by (with_reducible repeat (first | refine zkn ?_ _ | refine zkd ?_ | refine zka ?_ _)); exact BK101.out) hb); have n1_ := zam (zkb (g := gb102) (o := .cells #[.int .i64 a1_0, .int .i64 a1_1] 32 (0, 0)) (by (with_reducible repeat (first | refine zkn ?_ _ | refine zkd ?_ | refine zka ?_ _)); exact BK102.out) hb); have n2_ := zam (zbt (by repeat (first | (with_reducible first | exact HB.out | apply zba | apply zbn | apply zb1 | refine zbs ?_ GE101.out | refine zbs ?_ GE102.out) | exact HB.out)) hb); clear BK101; clear BK102; clear HB; have BK101 := n0_; have BK102 := n1_; have HB := n2_; clear n0_ n1_ n2_; (try clear hb); (try clear hb2); (try clear hk); (try clear hi)))
    go_ret
    exact ⟨by first | rfl | (simp [errW_none, errW_some] <;> rfl) | (simp [*, errW_none, errW_some] <;> rfl), by repeat (first | (with_reducible first | exact HB.out | apply zba | apply zbn | apply zb1 | refine zbs ?_ GE101.out | refine zbs ?_ GE102.out) | exact HB.out)⟩
   replace c17 := Bool.eq_false_iff.mpr c17
   subst c17
   have H1 : ((bound_Add.f kj2 a0_0 a0_1 a1_0 a1_1).bind fun bt106 => ((bound_Add.f kj2 a1_0 a1_1 a0_0 a0_1).bind fun bt110 => ((bound_Mul.f kj2 a0_0 a0_1 a1_0 a1_1).bind fun bt114 => ((bound_Mul.f kj2 a1_0 a1_1 a0_0 a0_1).bind fun bt118 => (if (!(bt106.1 == bt110.1) || (!(bt106.2.1 == bt110.2.1))) = true then (none) else (if bt106.2.2 = bt110.2.2 then (if (!(bt114.1 == bt118.1) || (!(bt114.2.1 == bt118.2.1))) = true then (none) else (isobathlaw01_BoundAlgebra.j1 kj2 (bt114.2.2 != bt118.2.2) a0_0 a0_1 a1_0 a1_1)) else (none))))))) = some r := by rw [if_neg (show ¬ (false = true) by decide)] at H; exact H
   clear H
   have H := H1
   clear H1
   replace H := Option.bind_eq_some_iff.mp H
   obtain ⟨⟨t106, t107, t108⟩, A200, H⟩ := H
   replace H : ((bound_Add.f kj2 a1_0 a1_1 a0_0 a0_1).bind fun bt110 => ((bound_Mul.f kj2 a0_0 a0_1 a1_0 a1_1).bind fun bt114 => ((bound_Mul.f kj2 a1_0 a1_1 a0_0 a0_1).bind fun bt118 => (if (!(t106 == bt110.1) || (!(t107 == bt110.2.1))) = true then (none) else (if t108 = bt110.2.2 then (if (!(bt114.1 == bt118.1) || (!(bt114.2.1 == bt118.2.1))) = true then (none) else (isobathlaw01_BoundAlgebra.j1 kj2 (bt114.2.2 != bt118.2.2) a0_0 a0_1 a1_0 a1_1)) else (none)))))) = some r := H
   have A20 := zam A200
   clear A200
   replace H := Option.bind_eq_some_iff.mp H
   obtain ⟨⟨t110, t111, t112⟩, A210, H⟩ := H
   replace H : ((bound_Mul.f kj2 a0_0 a0_1 a1_0 a1_1).bind fun bt114 => ((bound_Mul.f kj2 a1_0 a1_1 a0_0 a0_1).bind fun bt118 => (if (!(t106 == t110) || (!(t107 == t111))) = true then (none) else (if t108 = t112 then (if (!(bt114.1 == bt118.1) || (!(bt114.2.1 == bt118.2.1))) = true then (none) else (isobathlaw01_BoundAlgebra.j1 kj2 (bt114.2.2 != bt118.2.2) a0_0 a0_1 a1_0 a1_1)) else (none))))) = some r := H
   have A21 := zam A210
   clear A210
   replace H := Option.bind_eq_some_iff.mp H
   obtain ⟨⟨t114, t115, t116⟩, A220, H⟩ := H
   replace H : ((bound_Mul.f kj2 a1_0 a1_1 a0_0 a0_1).bind fun bt118 => (if (!(t106 == t110) || (!(t107 == t111))) = true then (none) else (if t108 = t112 then (if (!(t114 == bt118.1) || (!(t115 == bt118.2.1))) = true then (none) else (isobathlaw01_BoundAlgebra.j1 kj2 (t116 != bt118.2.2) a0_0 a0_1 a1_0 a1_1)) else (none)))) = some r := H
   have A22 := zam A220
   clear A220
   replace H := Option.bind_eq_some_iff.mp H
   obtain ⟨⟨t118, t119, t120⟩, A230, H⟩ := H
   replace H : (if (!(t106 == t110) || (!(t107 == t111))) = true then (none) else (if t108 = t112 then (if (!(t114 == t118) || (!(t115 == t119))) = true then (none) else (isobathlaw01_BoundAlgebra.j1 kj2 (t116 != t120) a0_0 a0_1 a1_0 a1_1)) else (none))) = some r := H
   have A23 := zam A230
   clear A230
   have HC24 := zam H
   clear H
   have hnb25 := NB101_102.out
   have hnc25 := NB102_101.out
   have hcz26_0 : wc.cell? ⟨gb101, 0, none⟩ = some (.int .i64 a0_0) := (zkc BK101.out 0).trans rfl
   have hcz26_1 : wc.cell? ⟨gb101, 1, none⟩ = some (.int .i64 a0_1) := (zkc BK101.out 1).trans rfl
   have hfz26_0 := zkz BK101.out 0
   have hfz26_1 := zkz BK101.out 1
   have hcz27_0 : wc.cell? ⟨gb102, 0, none⟩ = some (.int .i64 a1_0) := (zkc BK102.out 0).trans rfl
   have hcz27_1 : wc.cell? ⟨gb102, 1, none⟩ = some (.int .i64 a1_1) := (zkc BK102.out 1).trans rfl
   have hfz27_0 := zkz BK102.out 0
   have hfz27_1 := zkz BK102.out 1
   go_upto_region 7 with (first | ((with_reducible refine zgc (f := 27) rfl ?_); refine goesL_ (some 29) rfl rfl Try.func27 (by kernel_rfl) rfl #[.agg #[.int .i64 a0_0, .int .i64 a0_1], .agg #[.int .i64 a1_0, .int .i64 a1_1]] rfl (by (try simp only [zmt, List.map_cons, List.map_nil]); first | done | rfl | (simp only [zld, zlt]; rfl)) ?_; (with_reducible refine (bound_Add.calls kj2 a0_0 a0_1 a1_0 a1_1 t106 t107 t108 _ A20.out).mono ?_); rintro e w28 ⟨rfl, hb⟩; refine ⟨_, rfl, ?_⟩; have n0_ := zam (zkb (g := gb101) (o := .cells #[.int .i64 a0_0, .int .i64 a0_1] 32 (0, 0)) (by (with_reducible repeat (first | refine zkn ?_ _ | refine zkd ?_ | refine zka ?_ _)); exact BK101.out) hb); have n1_ := zam (zkb (g := gb102) (o := .cells #[.int .i64 a1_0, .int .i64 a1_1] 32 (0, 0)) (by (with_reducible repeat (first | refine zkn ?_ _ | refine zkd ?_ | refine zka ?_ _)); exact BK102.out) hb); have n2_ := zam (zbt (by repeat (first | (with_reducible first | exact HB.out | apply zba | apply zbn | apply zb1 | refine zbs ?_ GE101.out | refine zbs ?_ GE102.out) | exact HB.out)) hb); clear BK101; clear BK102; clear HB; have BK101 := n0_; have BK102 := n1_; have HB := n2_; clear n0_ n1_ n2_; (try clear hb); (try clear hb2); (try clear hk); (try clear hi)) | ((with_reducible refine zgd (N := 5) rfl ?_); refine box_event ?hg (N := 5) ?hd (cs := #[.int .i64 0, .int .i64 0]) (t := 32) ?hr ?_; (case hd => rfl); (case hg => rfl); (case hr => first | (go_simp; done) | (go_simp; rfl)); intro gb109 hg w29 hbox hb; have n0_ := zam (zkb (g := gb101) (o := .cells #[.int .i64 a0_0, .int .i64 a0_1] 32 (0, 0)) (by (with_reducible repeat (first | refine zkn ?_ _ | refine zkd ?_ | refine zka ?_ _)); exact BK101.out) hb); have n1_ := zam (zkb (g := gb102) (o := .cells #[.int .i64 a1_0, .int .i64 a1_1] 32 (0, 0)) (by (with_reducible repeat (first | refine zkn ?_ _ | refine zkd ?_ | refine zka ?_ _)); exact BK102.out) hb); have n2_ := zam (zbt (by repeat (first | (with_reducible first | exact HB.out | apply zba | apply zbn | apply zb1 | refine zbs ?_ GE101.out | refine zbs ?_ GE102.out) | exact HB.out)) hb); have n3_ := zam (hbox); have n4_ := zam ((by rw [hg]; exact (zbz (by repeat (first | (with_reducible first | exact HB.out | apply zba | apply zbn | apply zb1 | refine zbs ?_ GE101.out | refine zbs ?_ GE102.out) | exact HB.out))) : w.heap.size ≤ gb109)); have n5_ := zam ((by rw [hg]; exact (zbz (by repeat (first | (with_reducible first | exact HB.out | apply zba | apply zbn | apply zb1 | refine zbs ?_ GE101.out | refine zbs ?_ GE102.out) | exact HB.out))) : w.heap.size ≤ gb109)); have n6_ := zam ((by rw [hg]; exact Nat.ne_of_lt (blk_lt (g := gb101) (o := .cells #[.int .i64 a0_0, .int .i64 a0_1] 32 (0, 0)) (by (with_reducible repeat (first | refine zkn ?_ _ | refine zkd ?_ | refine zka ?_ _)); exact BK101.out)) : gb101 ≠ gb109)); have n7_ := zam ((by rw [hg]; exact Nat.ne_of_gt (blk_lt (g := gb101) (o := .cells #[.int .i64 a0_0, .int .i64 a0_1] 32 (0, 0)) (by (with_reducible repeat (first | refine zkn ?_ _ | refine zkd ?_ | refine zka ?_ _)); exact BK101.out)) : gb109 ≠ gb101)); have n8_ := zam ((by rw [hg]; exact Nat.ne_of_lt (blk_lt (g := gb102) (o := .cells #[.int .i64 a1_0, .int .i64 a1_1] 32 (0, 0)) (by (with_reducible repeat (first | refine zkn ?_ _ | refine zkd ?_ | refine zka ?_ _)); exact BK102.out)) : gb102 ≠ gb109)); have n9_ := zam ((by rw [hg]; exact Nat.ne_of_gt (blk_lt (g := gb102) (o := .cells #[.int .i64 a1_0, .int .i64 a1_1] 32 (0, 0)) (by (with_reducible repeat (first | refine zkn ?_ _ | refine zkd ?_ | refine zka ?_ _)); exact BK102.out)) : gb109 ≠ gb102)); clear BK101; clear BK102; clear HB; have BK101 := n0_; have BK102 := n1_; have HB := n2_; have BK109 := n3_; have GW109 := n4_; have GE109 := n5_; have NB101_109 := n6_; have NB109_101 := n7_; have NB102_109 := n8_; have NB109_102 := n9_; clear n0_ n1_ n2_ n3_ n4_ n5_ n6_ n7_ n8_ n9_; clear hb hbox hg; have hnb30 := NB109_101.out; have hnc30 := NB101_109.out; have hnb31 := NB109_102.out; have hnc31 := NB102_109.out; have hcz32_0 : w29.cell? ⟨gb109, 0, none⟩ = some (.int .i64 0) := (zkc BK109.out 0).trans rfl; have hcz32_1 : w29.cell? ⟨gb109, 1, none⟩ = some (.int .i64 0) := (zkc BK109.out 1).trans rfl; have hfz32_0 := zkz BK109.out 0; have hfz32_1 := zkz BK109.out 1; have hcz33_0 : w29.cell? ⟨gb102, 0, none⟩ = some (.int .i64 a1_0) := (zkc BK102.out 0).trans rfl; have hcz33_1 : w29.cell? ⟨gb102, 1, none⟩ = some (.int .i64 a1_1) := (zkc BK102.out 1).trans rfl; have hfz33_0 := zkz BK102.out 0; have hfz33_1 := zkz BK102.out 1; have hcz34_0 : w29.cell? ⟨gb101, 0, none⟩ = some (.int .i64 a0_0) := (zkc BK101.out 0).trans rfl; have hcz34_1 : w29.cell? ⟨gb101, 1, none⟩ = some (.int .i64 a0_1) := (zkc BK101.out 1).trans rfl; have hfz34_0 := zkz BK101.out 0; have hfz34_1 := zkz BK101.out 1) | ((with_reducible refine zgc (f := 27) rfl ?_); refine goesL_ (some 35) rfl rfl Try.func27 (by kernel_rfl) rfl #[.agg #[.int .i64 a1_0, .int .i64 a1_1], .agg #[.int .i64 a0_0, .int .i64 a0_1]] rfl (by (try simp only [zmt, List.map_cons, List.map_nil]); first | done | rfl | (simp only [zld, zlt]; rfl)) ?_; (with_reducible refine (bound_Add.calls kj2 a1_0 a1_1 a0_0 a0_1 t110 t111 t112 _ A21.out).mono ?_); rintro e w35 ⟨rfl, hb⟩; refine ⟨_, rfl, ?_⟩; have n0_ := zam (zkb (g := gb101) (o := .cells #[.int .i64 a0_0, .int .i64 a0_1] 32 (0, 0)) (by (with_reducible repeat (first | refine zkn ?_ _ | refine zkd ?_ | refine zka ?_ _)); refine blk_far ?_ NB101_109.out _; (with_reducible repeat (first | refine zkn ?_ _ | refine zkd ?_ | refine zka ?_ _)); refine blk_far ?_ NB101_109.out _; (with_reducible repeat (first | refine zkn ?_ _ | refine zkd ?_ | refine zka ?_ _)); exact BK101.out) hb); have n1_ := zam (zkb (g := gb102) (o := .cells #[.int .i64 a1_0, .int .i64 a1_1] 32 (0, 0)) (by (with_reducible repeat (first | refine zkn ?_ _ | refine zkd ?_ | refine zka ?_ _)); refine blk_far ?_ NB102_109.out _; (with_reducible repeat (first | refine zkn ?_ _ | refine zkd ?_ | refine zka ?_ _)); refine blk_far ?_ NB102_109.out _; (with_reducible repeat (first | refine zkn ?_ _ | refine zkd ?_ | refine zka ?_ _)); exact BK102.out) hb); have n2_ := zam (zkb (g := gb109) (o := .cells #[.int .i64 t106, .int .i64 t107] 32 (0, 0)) (by (with_reducible repeat (first | refine zkn ?_ _ | refine zkd ?_ | refine zka ?_ _)); refine blk_put (cs := #[.int .i64 t106, .int .i64 0]) ?_ 1 _ rfl; (with_reducible repeat (first | refine zkn ?_ _ | refine zkd ?_ | refine zka ?_ _)); refine blk_put (cs := #[.int .i64 0, .int .i64 0]) ?_ 0 _ rfl; (with_reducible repeat (first | refine zkn ?_ _ | refine zkd ?_ | refine zka ?_ _)); exact BK109.out) hb); have n3_ := zam (zbt (by repeat (first | (with_reducible first | exact HB.out | apply zba | apply zbn | apply zb1 | refine zbs ?_ GE101.out | refine zbs ?_ GE102.out | refine zbs ?_ GE109.out) | exact HB.out)) hb); clear BK101; clear BK102; clear BK109; clear HB; have BK101 := n0_; have BK102 := n1_; have BK109 := n2_; have HB := n3_; clear n0_ n1_ n2_ n3_; (try clear hb); (try clear hb2); (try clear hk); (try clear hi)) | ((with_reducible refine zgd (N := 7) rfl ?_); refine box_event ?hg (N := 7) ?hd (cs := #[.int .i64 0, .int .i64 0]) (t := 32) ?hr ?_; (case hd => rfl); (case hg => rfl); (case hr => first | (go_simp; done) | (go_simp; rfl)); intro gb113 hg w36 hbox hb; have n0_ := zam (zkb (g := gb101) (o := .cells #[.int .i64 a0_0, .int .i64 a0_1] 32 (0, 0)) (by (with_reducible repeat (first | refine zkn ?_ _ | refine zkd ?_ | refine zka ?_ _)); exact BK101.out) hb); have n1_ := zam (zkb (g := gb102) (o := .cells #[.int .i64 a1_0, .int .i64 a1_1] 32 (0, 0)) (by (with_reducible repeat (first | refine zkn ?_ _ | refine zkd ?_ | refine zka ?_ _)); exact BK102.out) hb); have n2_ := zam (zkb (g := gb109) (o := .cells #[.int .i64 t106, .int .i64 t107] 32 (0, 0)) (by (with_reducible repeat (first | refine zkn ?_ _ | refine zkd ?_ | refine zka ?_ _)); exact BK109.out) hb); have n3_ := zam (zbt (by repeat (first | (with_reducible first | exact HB.out | apply zba | apply zbn | apply zb1 | refine zbs ?_ GE101.out | refine zbs ?_ GE102.out | refine zbs ?_ GE109.out) | exact HB.out)) hb); have n4_ := zam (hbox); have n5_ := zam ((by rw [hg]; exact (zbz (by repeat (first | (with_reducible first | exact HB.out | apply zba | apply zbn | apply zb1 | refine zbs ?_ GE101.out | refine zbs ?_ GE102.out | refine zbs ?_ GE109.out) | exact HB.out))) : w.heap.size ≤ gb113)); have n6_ := zam ((by rw [hg]; exact (zbz (by repeat (first | (with_reducible first | exact HB.out | apply zba | apply zbn | apply zb1 | refine zbs ?_ GE101.out | refine zbs ?_ GE102.out | refine zbs ?_ GE109.out) | exact HB.out))) : w.heap.size ≤ gb113)); have n7_ := zam ((by rw [hg]; exact Nat.ne_of_lt (blk_lt (g := gb101) (o := .cells #[.int .i64 a0_0, .int .i64 a0_1] 32 (0, 0)) (by (with_reducible repeat (first | refine zkn ?_ _ | refine zkd ?_ | refine zka ?_ _)); exact BK101.out)) : gb101 ≠ gb113)); have n8_ := zam ((by rw [hg]; exact Nat.ne_of_gt (blk_lt (g := gb101) (o := .cells #[.int .i64 a0_0, .int .i64 a0_1] 32 (0, 0)) (by (with_reducible repeat (first | refine zkn ?_ _ | refine zkd ?_ | refine zka ?_ _)); exact BK101.out)) : gb113 ≠ gb101)); have n9_ := zam ((by rw [hg]; exact Nat.ne_of_lt (blk_lt (g := gb102) (o := .cells #[.int .i64 a1_0, .int .i64 a1_1] 32 (0, 0)) (by (with_reducible repeat (first | refine zkn ?_ _ | refine zkd ?_ | refine zka ?_ _)); exact BK102.out)) : gb102 ≠ gb113)); have n10_ := zam ((by rw [hg]; exact Nat.ne_of_gt (blk_lt (g := gb102) (o := .cells #[.int .i64 a1_0, .int .i64 a1_1] 32 (0, 0)) (by (with_reducible repeat (first | refine zkn ?_ _ | refine zkd ?_ | refine zka ?_ _)); exact BK102.out)) : gb113 ≠ gb102)); have n11_ := zam ((by rw [hg]; exact Nat.ne_of_lt (blk_lt (g := gb109) (o := .cells #[.int .i64 t106, .int .i64 t107] 32 (0, 0)) (by (with_reducible repeat (first | refine zkn ?_ _ | refine zkd ?_ | refine zka ?_ _)); exact BK109.out)) : gb109 ≠ gb113)); have n12_ := zam ((by rw [hg]; exact Nat.ne_of_gt (blk_lt (g := gb109) (o := .cells #[.int .i64 t106, .int .i64 t107] 32 (0, 0)) (by (with_reducible repeat (first | refine zkn ?_ _ | refine zkd ?_ | refine zka ?_ _)); exact BK109.out)) : gb113 ≠ gb109)); clear BK101; clear BK102; clear BK109; clear HB; have BK101 := n0_; have BK102 := n1_; have BK109 := n2_; have HB := n3_; have BK113 := n4_; have GW113 := n5_; have GE113 := n6_; have NB101_113 := n7_; have NB113_101 := n8_; have NB102_113 := n9_; have NB113_102 := n10_; have NB109_113 := n11_; have NB113_109 := n12_; clear n0_ n1_ n2_ n3_ n4_ n5_ n6_ n7_ n8_ n9_ n10_ n11_ n12_; clear hb hbox hg; have hnb37 := NB113_101.out; have hnc37 := NB101_113.out; have hnb38 := NB113_102.out; have hnc38 := NB102_113.out; have hnb39 := NB113_109.out; have hnc39 := NB109_113.out; have hcz40_0 : w36.cell? ⟨gb113, 0, none⟩ = some (.int .i64 0) := (zkc BK113.out 0).trans rfl; have hcz40_1 : w36.cell? ⟨gb113, 1, none⟩ = some (.int .i64 0) := (zkc BK113.out 1).trans rfl; have hfz40_0 := zkz BK113.out 0; have hfz40_1 := zkz BK113.out 1; have hcz41_0 : w36.cell? ⟨gb101, 0, none⟩ = some (.int .i64 a0_0) := (zkc BK101.out 0).trans rfl; have hcz41_1 : w36.cell? ⟨gb101, 1, none⟩ = some (.int .i64 a0_1) := (zkc BK101.out 1).trans rfl; have hfz41_0 := zkz BK101.out 0; have hfz41_1 := zkz BK101.out 1; have hcz42_0 : w36.cell? ⟨gb102, 0, none⟩ = some (.int .i64 a1_0) := (zkc BK102.out 0).trans rfl; have hcz42_1 : w36.cell? ⟨gb102, 1, none⟩ = some (.int .i64 a1_1) := (zkc BK102.out 1).trans rfl; have hfz42_0 := zkz BK102.out 0; have hfz42_1 := zkz BK102.out 1) | ((with_reducible refine zgc (f := 28) rfl ?_); refine goesL_ (some 41) rfl rfl Try.func28 (by kernel_rfl) rfl #[.agg #[.int .i64 a0_0, .int .i64 a0_1], .agg #[.int .i64 a1_0, .int .i64 a1_1]] rfl (by (try simp only [zmt, List.map_cons, List.map_nil]); first | done | rfl | (simp only [zld, zlt]; rfl)) ?_; (with_reducible refine (bound_Mul.calls kj2 a0_0 a0_1 a1_0 a1_1 t114 t115 t116 _ A22.out).mono ?_); rintro e w43 ⟨rfl, hb⟩; refine ⟨_, rfl, ?_⟩; have n0_ := zam (zkb (g := gb101) (o := .cells #[.int .i64 a0_0, .int .i64 a0_1] 32 (0, 0)) (by (with_reducible repeat (first | refine zkn ?_ _ | refine zkd ?_ | refine zka ?_ _)); refine blk_far ?_ NB101_113.out _; (with_reducible repeat (first | refine zkn ?_ _ | refine zkd ?_ | refine zka ?_ _)); refine blk_far ?_ NB101_113.out _; (with_reducible repeat (first | refine zkn ?_ _ | refine zkd ?_ | refine zka ?_ _)); exact BK101.out) hb); have n1_ := zam (zkb (g := gb102) (o := .cells #[.int .i64 a1_0, .int .i64 a1_1] 32 (0, 0)) (by (with_reducible repeat (first | refine zkn ?_ _ | refine zkd ?_ | refine zka ?_ _)); refine blk_far ?_ NB102_113.out _; (with_reducible repeat (first | refine zkn ?_ _ | refine zkd ?_ | refine zka ?_ _)); refine blk_far ?_ NB102_113.out _; (with_reducible repeat (first | refine zkn ?_ _ | refine zkd ?_ | refine zka ?_ _)); exact BK102.out) hb); have n2_ := zam (zkb (g := gb109) (o := .cells #[.int .i64 t106, .int .i64 t107] 32 (0, 0)) (by (with_reducible repeat (first | refine zkn ?_ _ | refine zkd ?_ | refine zka ?_ _)); refine blk_far ?_ NB109_113.out _; (with_reducible repeat (first | refine zkn ?_ _ | refine zkd ?_ | refine zka ?_ _)); refine blk_far ?_ NB109_113.out _; (with_reducible repeat (first | refine zkn ?_ _ | refine zkd ?_ | refine zka ?_ _)); exact BK109.out) hb); have n3_ := zam (zkb (g := gb113) (o := .cells #[.int .i64 t110, .int .i64 t111] 32 (0, 0)) (by (with_reducible repeat (first | refine zkn ?_ _ | refine zkd ?_ | refine zka ?_ _)); refine blk_put (cs := #[.int .i64 t110, .int .i64 0]) ?_ 1 _ rfl; (with_reducible repeat (first | refine zkn ?_ _ | refine zkd ?_ | refine zka ?_ _)); refine blk_put (cs := #[.int .i64 0, .int .i64 0]) ?_ 0 _ rfl; (with_reducible repeat (first | refine zkn ?_ _ | refine zkd ?_ | refine zka ?_ _)); exact BK113.out) hb); have n4_ := zam (zbt (by repeat (first | (with_reducible first | exact HB.out | apply zba | apply zbn | apply zb1 | refine zbs ?_ GE101.out | refine zbs ?_ GE102.out | refine zbs ?_ GE109.out | refine zbs ?_ GE113.out) | exact HB.out)) hb); clear BK101; clear BK102; clear BK109; clear BK113; clear HB; have BK101 := n0_; have BK102 := n1_; have BK109 := n2_; have BK113 := n3_; have HB := n4_; clear n0_ n1_ n2_ n3_ n4_; (try clear hb); (try clear hb2); (try clear hk); (try clear hi)) | ((with_reducible refine zgd (N := 9) rfl ?_); refine box_event ?hg (N := 9) ?hd (cs := #[.int .i64 0, .int .i64 0]) (t := 32) ?hr ?_; (case hd => rfl); (case hg => rfl); (case hr => first | (go_simp; done) | (go_simp; rfl)); intro gb117 hg w44 hbox hb; have n0_ := zam (zkb (g := gb101) (o := .cells #[.int .i64 a0_0, .int .i64 a0_1] 32 (0, 0)) (by (with_reducible repeat (first | refine zkn ?_ _ | refine zkd ?_ | refine zka ?_ _)); exact BK101.out) hb); have n1_ := zam (zkb (g := gb102) (o := .cells #[.int .i64 a1_0, .int .i64 a1_1] 32 (0, 0)) (by (with_reducible repeat (first | refine zkn ?_ _ | refine zkd ?_ | refine zka ?_ _)); exact BK102.out) hb); have n2_ := zam (zkb (g := gb109) (o := .cells #[.int .i64 t106, .int .i64 t107] 32 (0, 0)) (by (with_reducible repeat (first | refine zkn ?_ _ | refine zkd ?_ | refine zka ?_ _)); exact BK109.out) hb); have n3_ := zam (zkb (g := gb113) (o := .cells #[.int .i64 t110, .int .i64 t111] 32 (0, 0)) (by (with_reducible repeat (first | refine zkn ?_ _ | refine zkd ?_ | refine zka ?_ _)); exact BK113.out) hb); have n4_ := zam (zbt (by repeat (first | (with_reducible first | exact HB.out | apply zba | apply zbn | apply zb1 | refine zbs ?_ GE101.out | refine zbs ?_ GE102.out | refine zbs ?_ GE109.out | refine zbs ?_ GE113.out) | exact HB.out)) hb); have n5_ := zam (hbox); have n6_ := zam ((by rw [hg]; exact (zbz (by repeat (first | (with_reducible first | exact HB.out | apply zba | apply zbn | apply zb1 | refine zbs ?_ GE101.out | refine zbs ?_ GE102.out | refine zbs ?_ GE109.out | refine zbs ?_ GE113.out) | exact HB.out))) : w.heap.size ≤ gb117)); have n7_ := zam ((by rw [hg]; exact (zbz (by repeat (first | (with_reducible first | exact HB.out | apply zba | apply zbn | apply zb1 | refine zbs ?_ GE101.out | refine zbs ?_ GE102.out | refine zbs ?_ GE109.out | refine zbs ?_ GE113.out) | exact HB.out))) : w.heap.size ≤ gb117)); have n8_ := zam ((by rw [hg]; exact Nat.ne_of_lt (blk_lt (g := gb101) (o := .cells #[.int .i64 a0_0, .int .i64 a0_1] 32 (0, 0)) (by (with_reducible repeat (first | refine zkn ?_ _ | refine zkd ?_ | refine zka ?_ _)); exact BK101.out)) : gb101 ≠ gb117)); have n9_ := zam ((by rw [hg]; exact Nat.ne_of_gt (blk_lt (g := gb101) (o := .cells #[.int .i64 a0_0, .int .i64 a0_1] 32 (0, 0)) (by (with_reducible repeat (first | refine zkn ?_ _ | refine zkd ?_ | refine zka ?_ _)); exact BK101.out)) : gb117 ≠ gb101)); have n10_ := zam ((by rw [hg]; exact Nat.ne_of_lt (blk_lt (g := gb102) (o := .cells #[.int .i64 a1_0, .int .i64 a1_1] 32 (0, 0)) (by (with_reducible repeat (first | refine zkn ?_ _ | refine zkd ?_ | refine zka ?_ _)); exact BK102.out)) : gb102 ≠ gb117)); have n11_ := zam ((by rw [hg]; exact Nat.ne_of_gt (blk_lt (g := gb102) (o := .cells #[.int .i64 a1_0, .int .i64 a1_1] 32 (0, 0)) (by (with_reducible repeat (first | refine zkn ?_ _ | refine zkd ?_ | refine zka ?_ _)); exact BK102.out)) : gb117 ≠ gb102)); have n12_ := zam ((by rw [hg]; exact Nat.ne_of_lt (blk_lt (g := gb109) (o := .cells #[.int .i64 t106, .int .i64 t107] 32 (0, 0)) (by (with_reducible repeat (first | refine zkn ?_ _ | refine zkd ?_ | refine zka ?_ _)); exact BK109.out)) : gb109 ≠ gb117)); have n13_ := zam ((by rw [hg]; exact Nat.ne_of_gt (blk_lt (g := gb109) (o := .cells #[.int .i64 t106, .int .i64 t107] 32 (0, 0)) (by (with_reducible repeat (first | refine zkn ?_ _ | refine zkd ?_ | refine zka ?_ _)); exact BK109.out)) : gb117 ≠ gb109)); have n14_ := zam ((by rw [hg]; exact Nat.ne_of_lt (blk_lt (g := gb113) (o := .cells #[.int .i64 t110, .int .i64 t111] 32 (0, 0)) (by (with_reducible repeat (first | refine zkn ?_ _ | refine zkd ?_ | refine zka ?_ _)); exact BK113.out)) : gb113 ≠ gb117)); have n15_ := zam ((by rw [hg]; exact Nat.ne_of_gt (blk_lt (g := gb113) (o := .cells #[.int .i64 t110, .int .i64 t111] 32 (0, 0)) (by (with_reducible repeat (first | refine zkn ?_ _ | refine zkd ?_ | refine zka ?_ _)); exact BK113.out)) : gb117 ≠ gb113)); clear BK101; clear BK102; clear BK109; clear BK113; clear HB; have BK101 := n0_; have BK102 := n1_; have BK109 := n2_; have BK113 := n3_; have HB := n4_; have BK117 := n5_; have GW117 := n6_; have GE117 := n7_; have NB101_117 := n8_; have NB117_101 := n9_; have NB102_117 := n10_; have NB117_102 := n11_; have NB109_117 := n12_; have NB117_109 := n13_; have NB113_117 := n14_; have NB117_113 := n15_; clear n0_ n1_ n2_ n3_ n4_ n5_ n6_ n7_ n8_ n9_ n10_ n11_ n12_ n13_ n14_ n15_; clear hb hbox hg; have hnb45 := NB117_101.out; have hnc45 := NB101_117.out; have hnb46 := NB117_102.out; have hnc46 := NB102_117.out; have hnb47 := NB117_109.out; have hnc47 := NB109_117.out; have hnb48 := NB117_113.out; have hnc48 := NB113_117.out; have hcz49_0 : w44.cell? ⟨gb117, 0, none⟩ = some (.int .i64 0) := (zkc BK117.out 0).trans rfl; have hcz49_1 : w44.cell? ⟨gb117, 1, none⟩ = some (.int .i64 0) := (zkc BK117.out 1).trans rfl; have hfz49_0 := zkz BK117.out 0; have hfz49_1 := zkz BK117.out 1; have hcz50_0 : w44.cell? ⟨gb102, 0, none⟩ = some (.int .i64 a1_0) := (zkc BK102.out 0).trans rfl; have hcz50_1 : w44.cell? ⟨gb102, 1, none⟩ = some (.int .i64 a1_1) := (zkc BK102.out 1).trans rfl; have hfz50_0 := zkz BK102.out 0; have hfz50_1 := zkz BK102.out 1; have hcz51_0 : w44.cell? ⟨gb101, 0, none⟩ = some (.int .i64 a0_0) := (zkc BK101.out 0).trans rfl; have hcz51_1 : w44.cell? ⟨gb101, 1, none⟩ = some (.int .i64 a0_1) := (zkc BK101.out 1).trans rfl; have hfz51_0 := zkz BK101.out 0; have hfz51_1 := zkz BK101.out 1) | ((with_reducible refine zgc (f := 28) rfl ?_); refine goesL_ (some 47) rfl rfl Try.func28 (by kernel_rfl) rfl #[.agg #[.int .i64 a1_0, .int .i64 a1_1], .agg #[.int .i64 a0_0, .int .i64 a0_1]] rfl (by (try simp only [zmt, List.map_cons, List.map_nil]); first | done | rfl | (simp only [zld, zlt]; rfl)) ?_; (with_reducible refine (bound_Mul.calls kj2 a1_0 a1_1 a0_0 a0_1 t118 t119 t120 _ A23.out).mono ?_); rintro e w52 ⟨rfl, hb⟩; refine ⟨_, rfl, ?_⟩; have n0_ := zam (zkb (g := gb101) (o := .cells #[.int .i64 a0_0, .int .i64 a0_1] 32 (0, 0)) (by (with_reducible repeat (first | refine zkn ?_ _ | refine zkd ?_ | refine zka ?_ _)); refine blk_far ?_ NB101_117.out _; (with_reducible repeat (first | refine zkn ?_ _ | refine zkd ?_ | refine zka ?_ _)); refine blk_far ?_ NB101_117.out _; (with_reducible repeat (first | refine zkn ?_ _ | refine zkd ?_ | refine zka ?_ _)); exact BK101.out) hb); have n1_ := zam (zkb (g := gb102) (o := .cells #[.int .i64 a1_0, .int .i64 a1_1] 32 (0, 0)) (by (with_reducible repeat (first | refine zkn ?_ _ | refine zkd ?_ | refine zka ?_ _)); refine blk_far ?_ NB102_117.out _; (with_reducible repeat (first | refine zkn ?_ _ | refine zkd ?_ | refine zka ?_ _)); refine blk_far ?_ NB102_117.out _; (with_reducible repeat (first | refine zkn ?_ _ | refine zkd ?_ | refine zka ?_ _)); exact BK102.out) hb); have n2_ := zam (zkb (g := gb109) (o := .cells #[.int .i64 t106, .int .i64 t107] 32 (0, 0)) (by (with_reducible repeat (first | refine zkn ?_ _ | refine zkd ?_ | refine zka ?_ _)); refine blk_far ?_ NB109_117.out _; (with_reducible repeat (first | refine zkn ?_ _ | refine zkd ?_ | refine zka ?_ _)); refine blk_far ?_ NB109_117.out _; (with_reducible repeat (first | refine zkn ?_ _ | refine zkd ?_ | refine zka ?_ _)); exact BK109.out) hb); have n3_ := zam (zkb (g := gb113) (o := .cells #[.int .i64 t110, .int .i64 t111] 32 (0, 0)) (by (with_reducible repeat (first | refine zkn ?_ _ | refine zkd ?_ | refine zka ?_ _)); refine blk_far ?_ NB113_117.out _; (with_reducible repeat (first | refine zkn ?_ _ | refine zkd ?_ | refine zka ?_ _)); refine blk_far ?_ NB113_117.out _; (with_reducible repeat (first | refine zkn ?_ _ | refine zkd ?_ | refine zka ?_ _)); exact BK113.out) hb); have n4_ := zam (zkb (g := gb117) (o := .cells #[.int .i64 t114, .int .i64 t115] 32 (0, 0)) (by (with_reducible repeat (first | refine zkn ?_ _ | refine zkd ?_ | refine zka ?_ _)); refine blk_put (cs := #[.int .i64 t114, .int .i64 0]) ?_ 1 _ rfl; (with_reducible repeat (first | refine zkn ?_ _ | refine zkd ?_ | refine zka ?_ _)); refine blk_put (cs := #[.int .i64 0, .int .i64 0]) ?_ 0 _ rfl; (with_reducible repeat (first | refine zkn ?_ _ | refine zkd ?_ | refine zka ?_ _)); exact BK117.out) hb); have n5_ := zam (zbt (by repeat (first | (with_reducible first | exact HB.out | apply zba | apply zbn | apply zb1 | refine zbs ?_ GE101.out | refine zbs ?_ GE102.out | refine zbs ?_ GE109.out | refine zbs ?_ GE113.out | refine zbs ?_ GE117.out) | exact HB.out)) hb); clear BK101; clear BK102; clear BK109; clear BK113; clear BK117; clear HB; have BK101 := n0_; have BK102 := n1_; have BK109 := n2_; have BK113 := n3_; have BK117 := n4_; have HB := n5_; clear n0_ n1_ n2_ n3_ n4_ n5_; (try clear hb); (try clear hb2); (try clear hk); (try clear hi)) | ((with_reducible refine zgd (N := 11) rfl ?_); refine box_event ?hg (N := 11) ?hd (cs := #[.int .i64 0, .int .i64 0]) (t := 32) ?hr ?_; (case hd => rfl); (case hg => rfl); (case hr => first | (go_simp; done) | (go_simp; rfl)); intro gb121 hg w53 hbox hb; have n0_ := zam (zkb (g := gb101) (o := .cells #[.int .i64 a0_0, .int .i64 a0_1] 32 (0, 0)) (by (with_reducible repeat (first | refine zkn ?_ _ | refine zkd ?_ | refine zka ?_ _)); exact BK101.out) hb); have n1_ := zam (zkb (g := gb102) (o := .cells #[.int .i64 a1_0, .int .i64 a1_1] 32 (0, 0)) (by (with_reducible repeat (first | refine zkn ?_ _ | refine zkd ?_ | refine zka ?_ _)); exact BK102.out) hb); have n2_ := zam (zkb (g := gb109) (o := .cells #[.int .i64 t106, .int .i64 t107] 32 (0, 0)) (by (with_reducible repeat (first | refine zkn ?_ _ | refine zkd ?_ | refine zka ?_ _)); exact BK109.out) hb); have n3_ := zam (zkb (g := gb113) (o := .cells #[.int .i64 t110, .int .i64 t111] 32 (0, 0)) (by (with_reducible repeat (first | refine zkn ?_ _ | refine zkd ?_ | refine zka ?_ _)); exact BK113.out) hb); have n4_ := zam (zkb (g := gb117) (o := .cells #[.int .i64 t114, .int .i64 t115] 32 (0, 0)) (by (with_reducible repeat (first | refine zkn ?_ _ | refine zkd ?_ | refine zka ?_ _)); exact BK117.out) hb); have n5_ := zam (zbt (by repeat (first | (with_reducible first | exact HB.out | apply zba | apply zbn | apply zb1 | refine zbs ?_ GE101.out | refine zbs ?_ GE102.out | refine zbs ?_ GE109.out | refine zbs ?_ GE113.out | refine zbs ?_ GE117.out) | exact HB.out)) hb); have n6_ := zam (hbox); have n7_ := zam ((by rw [hg]; exact (zbz (by repeat (first | (with_reducible first | exact HB.out | apply zba | apply zbn | apply zb1 | refine zbs ?_ GE101.out | refine zbs ?_ GE102.out | refine zbs ?_ GE109.out | refine zbs ?_ GE113.out | refine zbs ?_ GE117.out) | exact HB.out))) : w.heap.size ≤ gb121)); have n8_ := zam ((by rw [hg]; exact (zbz (by repeat (first | (with_reducible first | exact HB.out | apply zba | apply zbn | apply zb1 | refine zbs ?_ GE101.out | refine zbs ?_ GE102.out | refine zbs ?_ GE109.out | refine zbs ?_ GE113.out | refine zbs ?_ GE117.out) | exact HB.out))) : w.heap.size ≤ gb121)); have n9_ := zam ((by rw [hg]; exact Nat.ne_of_lt (blk_lt (g := gb101) (o := .cells #[.int .i64 a0_0, .int .i64 a0_1] 32 (0, 0)) (by (with_reducible repeat (first | refine zkn ?_ _ | refine zkd ?_ | refine zka ?_ _)); exact BK101.out)) : gb101 ≠ gb121)); have n10_ := zam ((by rw [hg]; exact Nat.ne_of_gt (blk_lt (g := gb101) (o := .cells #[.int .i64 a0_0, .int .i64 a0_1] 32 (0, 0)) (by (with_reducible repeat (first | refine zkn ?_ _ | refine zkd ?_ | refine zka ?_ _)); exact BK101.out)) : gb121 ≠ gb101)); have n11_ := zam ((by rw [hg]; exact Nat.ne_of_lt (blk_lt (g := gb102) (o := .cells #[.int .i64 a1_0, .int .i64 a1_1] 32 (0, 0)) (by (with_reducible repeat (first | refine zkn ?_ _ | refine zkd ?_ | refine zka ?_ _)); exact BK102.out)) : gb102 ≠ gb121)); have n12_ := zam ((by rw [hg]; exact Nat.ne_of_gt (blk_lt (g := gb102) (o := .cells #[.int .i64 a1_0, .int .i64 a1_1] 32 (0, 0)) (by (with_reducible repeat (first | refine zkn ?_ _ | refine zkd ?_ | refine zka ?_ _)); exact BK102.out)) : gb121 ≠ gb102)); have n13_ := zam ((by rw [hg]; exact Nat.ne_of_lt (blk_lt (g := gb109) (o := .cells #[.int .i64 t106, .int .i64 t107] 32 (0, 0)) (by (with_reducible repeat (first | refine zkn ?_ _ | refine zkd ?_ | refine zka ?_ _)); exact BK109.out)) : gb109 ≠ gb121)); have n14_ := zam ((by rw [hg]; exact Nat.ne_of_gt (blk_lt (g := gb109) (o := .cells #[.int .i64 t106, .int .i64 t107] 32 (0, 0)) (by (with_reducible repeat (first | refine zkn ?_ _ | refine zkd ?_ | refine zka ?_ _)); exact BK109.out)) : gb121 ≠ gb109)); have n15_ := zam ((by rw [hg]; exact Nat.ne_of_lt (blk_lt (g := gb113) (o := .cells #[.int .i64 t110, .int .i64 t111] 32 (0, 0)) (by (with_reducible repeat (first | refine zkn ?_ _ | refine zkd ?_ | refine zka ?_ _)); exact BK113.out)) : gb113 ≠ gb121)); have n16_ := zam ((by rw [hg]; exact Nat.ne_of_gt (blk_lt (g := gb113) (o := .cells #[.int .i64 t110, .int .i64 t111] 32 (0, 0)) (by (with_reducible repeat (first | refine zkn ?_ _ | refine zkd ?_ | refine zka ?_ _)); exact BK113.out)) : gb121 ≠ gb113)); have n17_ := zam ((by rw [hg]; exact Nat.ne_of_lt (blk_lt (g := gb117) (o := .cells #[.int .i64 t114, .int .i64 t115] 32 (0, 0)) (by (with_reducible repeat (first | refine zkn ?_ _ | refine zkd ?_ | refine zka ?_ _)); exact BK117.out)) : gb117 ≠ gb121)); have n18_ := zam ((by rw [hg]; exact Nat.ne_of_gt (blk_lt (g := gb117) (o := .cells #[.int .i64 t114, .int .i64 t115] 32 (0, 0)) (by (with_reducible repeat (first | refine zkn ?_ _ | refine zkd ?_ | refine zka ?_ _)); exact BK117.out)) : gb121 ≠ gb117)); clear BK101; clear BK102; clear BK109; clear BK113; clear BK117; clear HB; have BK101 := n0_; have BK102 := n1_; have BK109 := n2_; have BK113 := n3_; have BK117 := n4_; have HB := n5_; have BK121 := n6_; have GW121 := n7_; have GE121 := n8_; have NB101_121 := n9_; have NB121_101 := n10_; have NB102_121 := n11_; have NB121_102 := n12_; have NB109_121 := n13_; have NB121_109 := n14_; have NB113_121 := n15_; have NB121_113 := n16_; have NB117_121 := n17_; have NB121_117 := n18_; clear n0_ n1_ n2_ n3_ n4_ n5_ n6_ n7_ n8_ n9_ n10_ n11_ n12_ n13_ n14_ n15_ n16_ n17_ n18_; clear hb hbox hg; have hnb54 := NB121_101.out; have hnc54 := NB101_121.out; have hnb55 := NB121_102.out; have hnc55 := NB102_121.out; have hnb56 := NB121_109.out; have hnc56 := NB109_121.out; have hnb57 := NB121_113.out; have hnc57 := NB113_121.out; have hnb58 := NB121_117.out; have hnc58 := NB117_121.out; have hcz59_0 : w53.cell? ⟨gb121, 0, none⟩ = some (.int .i64 0) := (zkc BK121.out 0).trans rfl; have hcz59_1 : w53.cell? ⟨gb121, 1, none⟩ = some (.int .i64 0) := (zkc BK121.out 1).trans rfl; have hfz59_0 := zkz BK121.out 0; have hfz59_1 := zkz BK121.out 1))
   (try simp only [Act.put, zsa, zsz, zss])
   go_cut [67] (fun v67 wc => ∃ (kq : Nat) (x67_23 : Bool), v67 = .bool x67_23 ∧ Aside0 (isobathlaw01_BoundAlgebra.j1 kq x67_23 a0_0 a0_1 a1_0 a1_1 = some r) ∧ Aside0 (kq ≤ kj2) ∧ Aside0 (wc.heap[gb101]? = some (.cells #[.int .i64 a0_0, .int .i64 a0_1] 32 (0, 0))) ∧ Aside0 (wc.heap[gb102]? = some (.cells #[.int .i64 a1_0, .int .i64 a1_1] 32 (0, 0))) ∧ Aside0 (wc.heap[gb109]? = some (.cells #[.int .i64 t106, .int .i64 t107] 32 (0, 0))) ∧ Aside0 (wc.heap[gb113]? = some (.cells #[.int .i64 t110, .int .i64 t111] 32 (0, 0))) ∧ Aside0 (wc.heap[gb117]? = some (.cells #[.int .i64 t114, .int .i64 t115] 32 (0, 0))) ∧ Aside0 (wc.heap[gb121]? = some (.cells #[.int .i64 t118, .int .i64 t119] 32 (0, 0))) ∧ Aside0 (Below w.heap.size w wc))
   case first =>
    have H := HC24.out
    clear HC24
    by_cases c60 : (!(t106 == t110) || (!(t107 == t111))) = true
    ·rw [if_pos c60] at H
     exact absurd H (by simp)
    rw [if_neg c60] at H
    have c60b0 : (!(t106 == t110) || (!(t107 == t111))) = false := by simpa using c60
    clear c60
    (first | rw [c60b0] | (simp only [i64_w, i32_w]; rw [c60b0]) | skip)
    by_cases c61 : t108 = t112
    ·rw [if_pos c61] at H
     have c61b0 : (t108 == t112) = true := beq_iff_eq.mpr c61
     have c61b1 : (t108 != t112) = false := bne_eq_false_iff_eq.mpr c61
     clear c61
     by_cases c62 : (!(t114 == t118) || (!(t115 == t119))) = true
     ·rw [if_pos c62] at H
      exact absurd H (by simp)
     rw [if_neg c62] at H
     have c62b0 : (!(t114 == t118) || (!(t115 == t119))) = false := by simpa using c62
     clear c62
     have H' := zam H
     clear H
     have hnb63 := NB109_101.out
     have hnc63 := NB101_109.out
     have hnb64 := NB109_102.out
     have hnc64 := NB102_109.out
     have hnb65 := NB109_113.out
     have hnc65 := NB113_109.out
     have hnb66 := NB109_117.out
     have hnc66 := NB117_109.out
     have hnb67 := NB109_121.out
     have hnc67 := NB121_109.out
     have hcz68_0 : w53.cell? ⟨gb109, 0, none⟩ = some (.int .i64 t106) := (zkc BK109.out 0).trans rfl
     have hcz68_1 : w53.cell? ⟨gb109, 1, none⟩ = some (.int .i64 t107) := (zkc BK109.out 1).trans rfl
     have hfz68_0 := zkz BK109.out 0
     have hfz68_1 := zkz BK109.out 1
     have hnb69 := NB113_101.out
     have hnc69 := NB101_113.out
     have hnb70 := NB113_102.out
     have hnc70 := NB102_113.out
     have hnb71 := NB113_117.out
     have hnc71 := NB117_113.out
     have hnb72 := NB113_121.out
     have hnc72 := NB121_113.out
     have hcz73_0 : w53.cell? ⟨gb113, 0, none⟩ = some (.int .i64 t110) := (zkc BK113.out 0).trans rfl
     have hcz73_1 : w53.cell? ⟨gb113, 1, none⟩ = some (.int .i64 t111) := (zkc BK113.out 1).trans rfl
     have hfz73_0 := zkz BK113.out 0
     have hfz73_1 := zkz BK113.out 1
     have hnb74 := NB117_101.out
     have hnc74 := NB101_117.out
     have hnb75 := NB117_102.out
     have hnc75 := NB102_117.out
     have hnb76 := NB117_121.out
     have hnc76 := NB121_117.out
     have hcz77_0 : w53.cell? ⟨gb117, 0, none⟩ = some (.int .i64 t114) := (zkc BK117.out 0).trans rfl
     have hcz77_1 : w53.cell? ⟨gb117, 1, none⟩ = some (.int .i64 t115) := (zkc BK117.out 1).trans rfl
     have hfz77_0 := zkz BK117.out 0
     have hfz77_1 := zkz BK117.out 1
     have hnb78 := NB121_101.out
     have hnc78 := NB101_121.out
     have hnb79 := NB121_102.out
     have hnc79 := NB102_121.out
     have hcz80_0 : w53.cell? ⟨gb121, 0, none⟩ = some (.int .i64 0) := (zkc BK121.out 0).trans rfl
     have hcz80_1 : w53.cell? ⟨gb121, 1, none⟩ = some (.int .i64 0) := (zkc BK121.out 1).trans rfl
     have hfz80_0 := zkz BK121.out 0
     have hfz80_1 := zkz BK121.out 1
     go_wp2
     go_meet
     case rel => exact ⟨_, ((t116 != t120)), (by first | rfl | (simp; done) | (simp [*]; done)), H', ⟨by have := HJ2.out; first | omega | exact Nat.le_refl _⟩, ⟨by (with_reducible repeat (first | refine zkn ?_ _ | refine zkd ?_ | refine zka ?_ _)); refine blk_far ?_ NB101_121.out _; (with_reducible repeat (first | refine zkn ?_ _ | refine zkd ?_ | refine zka ?_ _)); refine blk_far ?_ NB101_121.out _; (with_reducible repeat (first | refine zkn ?_ _ | refine zkd ?_ | refine zka ?_ _)); exact BK101.out⟩, ⟨by (with_reducible repeat (first | refine zkn ?_ _ | refine zkd ?_ | refine zka ?_ _)); refine blk_far ?_ NB102_121.out _; (with_reducible repeat (first | refine zkn ?_ _ | refine zkd ?_ | refine zka ?_ _)); refine blk_far ?_ NB102_121.out _; (with_reducible repeat (first | refine zkn ?_ _ | refine zkd ?_ | refine zka ?_ _)); exact BK102.out⟩, ⟨by (with_reducible repeat (first | refine zkn ?_ _ | refine zkd ?_ | refine zka ?_ _)); refine blk_far ?_ NB109_121.out _; (with_reducible repeat (first | refine zkn ?_ _ | refine zkd ?_ | refine zka ?_ _)); refine blk_far ?_ NB109_121.out _; (with_reducible repeat (first | refine zkn ?_ _ | refine zkd ?_ | refine zka ?_ _)); exact BK109.out⟩, ⟨by (with_reducible repeat (first | refine zkn ?_ _ | refine zkd ?_ | refine zka ?_ _)); refine blk_far ?_ NB113_121.out _; (with_reducible repeat (first | refine zkn ?_ _ | refine zkd ?_ | refine zka ?_ _)); refine blk_far ?_ NB113_121.out _; (with_reducible repeat (first | refine zkn ?_ _ | refine zkd ?_ | refine zka ?_ _)); exact BK113.out⟩, ⟨by (with_reducible repeat (first | refine zkn ?_ _ | refine zkd ?_ | refine zka ?_ _)); refine blk_far ?_ NB117_121.out _; (with_reducible repeat (first | refine zkn ?_ _ | refine zkd ?_ | refine zka ?_ _)); refine blk_far ?_ NB117_121.out _; (with_reducible repeat (first | refine zkn ?_ _ | refine zkd ?_ | refine zka ?_ _)); exact BK117.out⟩, ⟨by (with_reducible repeat (first | refine zkn ?_ _ | refine zkd ?_ | refine zka ?_ _)); refine blk_put (cs := #[.int .i64 t118, .int .i64 0]) ?_ 1 _ rfl; (with_reducible repeat (first | refine zkn ?_ _ | refine zkd ?_ | refine zka ?_ _)); refine blk_put (cs := #[.int .i64 0, .int .i64 0]) ?_ 0 _ rfl; (with_reducible repeat (first | refine zkn ?_ _ | refine zkd ?_ | refine zka ?_ _)); exact BK121.out⟩, ⟨by repeat (first | (with_reducible first | exact HB.out | apply zba | apply zbn | apply zb1 | refine zbs ?_ GE101.out | refine zbs ?_ GE102.out | refine zbs ?_ GE109.out | refine zbs ?_ GE113.out | refine zbs ?_ GE117.out | refine zbs ?_ GE121.out) | exact HB.out)⟩⟩
    rw [if_neg c61] at H
    exact absurd H (by simp)
   case rest =>
    clear HC24
    try clear c1
    try clear c2
    try clear p2
    try clear c3
    try clear c4
    try clear c5
    try clear c6
    try clear c7
    try clear c9
    try clear c14
    try clear c17
    try clear c18
    try clear c22
    try clear c25
    try clear c27
    try clear c28
    try clear c30
    try clear c31
    try clear c37
    try clear c38
    try clear c39
    try clear c45
    try clear c46
    try clear c47
    try clear c48
    try clear c54
    try clear c55
    try clear c56
    try clear c57
    try clear c58
    try clear c60
    try clear c60b0
    try clear c61
    try clear c61b0
    try clear c61b1
    try clear c62
    try clear c62b0
    try clear c63
    try clear c64
    try clear c65
    try clear c66
    try clear c67
    try clear c69
    try clear c70
    try clear c71
    try clear c72
    try clear c74
    try clear c75
    try clear c76
    try clear c78
    try clear c79
    try clear hcz10_0
    try clear hcz10_1
    try clear hcz12_0
    try clear hcz12_1
    try clear hcz15_0
    try clear hcz15_1
    try clear hcz26_0
    try clear hcz26_1
    try clear hcz27_0
    try clear hcz27_1
    try clear hcz32_0
    try clear hcz32_1
    try clear hcz33_0
    try clear hcz33_1
    try clear hcz34_0
    try clear hcz34_1
    try clear hcz40_0
    try clear hcz40_1
    try clear hcz41_0
    try clear hcz41_1
    try clear hcz42_0
    try clear hcz42_1
    try clear hcz49_0
    try clear hcz49_1
    try clear hcz50_0
    try clear hcz50_1
    try clear hcz51_0
    try clear hcz51_1
    try clear hcz59_0
    try clear hcz59_1
    try clear hcz68_0
    try clear hcz68_1
    try clear hcz73_0
    try clear hcz73_1
    try clear hcz77_0
    try clear hcz77_1
    try clear hcz80_0
    try clear hcz80_1
    try clear hfz10_0
    try clear hfz10_1
    try clear hfz12_0
    try clear hfz12_1
    try clear hfz15_0
    try clear hfz15_1
    try clear hfz26_0
    try clear hfz26_1
    try clear hfz27_0
    try clear hfz27_1
    try clear hfz32_0
    try clear hfz32_1
    try clear hfz33_0
    try clear hfz33_1
    try clear hfz34_0
    try clear hfz34_1
    try clear hfz40_0
    try clear hfz40_1
    try clear hfz41_0
    try clear hfz41_1
    try clear hfz42_0
    try clear hfz42_1
    try clear hfz49_0
    try clear hfz49_1
    try clear hfz50_0
    try clear hfz50_1
    try clear hfz51_0
    try clear hfz51_1
    try clear hfz59_0
    try clear hfz59_1
    try clear hfz68_0
    try clear hfz68_1
    try clear hfz73_0
    try clear hfz73_1
    try clear hfz77_0
    try clear hfz77_1
    try clear hfz80_0
    try clear hfz80_1
    try clear p2
    obtain ⟨kq, x67_23, rfl, HA, HJ23, BK101, BK102, BK109, BK113, BK117, BK121, HB⟩ := hcut
    cases kq with
    | zero => exact absurd HA.out (by simp [isobathlaw01_BoundAlgebra.j1])
    | succ kj23 =>
     have H := HA.out
     clear HA
     simp only [isobathlaw01_BoundAlgebra.j1] at H
     by_cases c81 : x67_23 = true
     ·subst c81
      have H1 : (none) = some r := by rw [if_pos rfl] at H; exact H
      clear H
      have H := H1
      clear H1
      exact absurd H (by simp)
     replace c81 := Bool.eq_false_iff.mpr c81
     subst c81
     have H1 : ((bound_Scale.f kj23 a1_0 a1_1 (-1) 1).bind fun bt122 => (if bt122.2.2 = 0 then ((bound_Add.f kj23 a0_0 a0_1 bt122.1 bt122.2.1).bind fun bt126 => ((bound_Sub.f kj23 a0_0 a0_1 a1_0 a1_1).bind fun bt129 => ((bound_Scale.f kj23 a0_0 a0_1 1 1).bind fun bt132 => (if (!(bt126.1 == bt129.1) || (!(bt126.2.1 == bt129.2.1))) = true then (none) else (if bt126.2.2 = bt129.2.2 then (if bt132.2.2 = 0 then (isobathlaw01_BoundAlgebra.j2 kj23 (!(bt132.1 == a0_0) || (!(bt132.2.1 == a0_1))) a0_0 a0_1 a1_0 a1_1) else (none)) else (none)))))) else (none))) = some r := by rw [if_neg (show ¬ (false = true) by decide)] at H; exact H
     clear H
     have H := H1
     clear H1
     replace H := Option.bind_eq_some_iff.mp H
     obtain ⟨⟨t122, t123, t124⟩, A820, H⟩ := H
     replace H : (if t124 = 0 then ((bound_Add.f kj23 a0_0 a0_1 t122 t123).bind fun bt126 => ((bound_Sub.f kj23 a0_0 a0_1 a1_0 a1_1).bind fun bt129 => ((bound_Scale.f kj23 a0_0 a0_1 1 1).bind fun bt132 => (if (!(bt126.1 == bt129.1) || (!(bt126.2.1 == bt129.2.1))) = true then (none) else (if bt126.2.2 = bt129.2.2 then (if bt132.2.2 = 0 then (isobathlaw01_BoundAlgebra.j2 kj23 (!(bt132.1 == a0_0) || (!(bt132.2.1 == a0_1))) a0_0 a0_1 a1_0 a1_1) else (none)) else (none)))))) else (none)) = some r := H
     have A82 := zam A820
     clear A820
     by_cases c83 : t124 = 0
     ·rw [if_pos c83] at H
      have c83b0 : (t124 == 0) = true := beq_iff_eq.mpr c83
      have c83b1 : (t124 != 0) = false := bne_eq_false_iff_eq.mpr c83
      clear c83
      replace H := Option.bind_eq_some_iff.mp H
      obtain ⟨⟨t126, t127, t128⟩, A840, H⟩ := H
      replace H : ((bound_Sub.f kj23 a0_0 a0_1 a1_0 a1_1).bind fun bt129 => ((bound_Scale.f kj23 a0_0 a0_1 1 1).bind fun bt132 => (if (!(t126 == bt129.1) || (!(t127 == bt129.2.1))) = true then (none) else (if t128 = bt129.2.2 then (if bt132.2.2 = 0 then (isobathlaw01_BoundAlgebra.j2 kj23 (!(bt132.1 == a0_0) || (!(bt132.2.1 == a0_1))) a0_0 a0_1 a1_0 a1_1) else (none)) else (none))))) = some r := H
      have A84 := zam A840
      clear A840
      replace H := Option.bind_eq_some_iff.mp H
      obtain ⟨⟨t129, t130, t131⟩, A850, H⟩ := H
      replace H : ((bound_Scale.f kj23 a0_0 a0_1 1 1).bind fun bt132 => (if (!(t126 == t129) || (!(t127 == t130))) = true then (none) else (if t128 = t131 then (if bt132.2.2 = 0 then (isobathlaw01_BoundAlgebra.j2 kj23 (!(bt132.1 == a0_0) || (!(bt132.2.1 == a0_1))) a0_0 a0_1 a1_0 a1_1) else (none)) else (none)))) = some r := H
      have A85 := zam A850
      clear A850
      replace H := Option.bind_eq_some_iff.mp H
      obtain ⟨⟨t132, t133, t134⟩, A860, H⟩ := H
      replace H : (if (!(t126 == t129) || (!(t127 == t130))) = true then (none) else (if t128 = t131 then (if t134 = 0 then (isobathlaw01_BoundAlgebra.j2 kj23 (!(t132 == a0_0) || (!(t133 == a0_1))) a0_0 a0_1 a1_0 a1_1) else (none)) else (none))) = some r := H
      have A86 := zam A860
      clear A860
      have HC87 := zam H
      clear H
      have hnb88 := NB102_101.out
      have hnc88 := NB101_102.out
      have hnb89 := NB102_109.out
      have hnc89 := NB109_102.out
      have hnb90 := NB102_113.out
      have hnc90 := NB113_102.out
      have hnb91 := NB102_117.out
      have hnc91 := NB117_102.out
      have hnb92 := NB102_121.out
      have hnc92 := NB121_102.out
      have hcz93_0 : wc.cell? ⟨gb102, 0, none⟩ = some (.int .i64 a1_0) := (zkc BK102.out 0).trans rfl
      have hcz93_1 : wc.cell? ⟨gb102, 1, none⟩ = some (.int .i64 a1_1) := (zkc BK102.out 1).trans rfl
      have hfz93_0 := zkz BK102.out 0
      have hfz93_1 := zkz BK102.out 1
      go_upto_region 15 with (first | ((with_reducible refine zgc (f := 29) rfl ?_); refine goesL_ (some 70) rfl rfl Try.func29 (by kernel_rfl) rfl #[.agg #[.int .i64 a1_0, .int .i64 a1_1], .int .i64 (-1), .int .i64 1] rfl (by (try simp only [zmt, List.map_cons, List.map_nil]); first | done | rfl | (simp only [zld, zlt]; rfl)) ?_; (with_reducible refine (bound_Scale.calls kj23 a1_0 a1_1 (-1) 1 t122 t123 t124 _ A82.out).mono ?_); rintro e w94 ⟨rfl, hb⟩; refine ⟨_, rfl, ?_⟩; have n0_ := zam (zkb (g := gb101) (o := .cells #[.int .i64 a0_0, .int .i64 a0_1] 32 (0, 0)) (by (with_reducible repeat (first | refine zkn ?_ _ | refine zkd ?_ | refine zka ?_ _)); exact BK101.out) hb); have n1_ := zam (zkb (g := gb102) (o := .cells #[.int .i64 a1_0, .int .i64 a1_1] 32 (0, 0)) (by (with_reducible repeat (first | refine zkn ?_ _ | refine zkd ?_ | refine zka ?_ _)); exact BK102.out) hb); have n2_ := zam (zkb (g := gb109) (o := .cells #[.int .i64 t106, .int .i64 t107] 32 (0, 0)) (by (with_reducible repeat (first | refine zkn ?_ _ | refine zkd ?_ | refine zka ?_ _)); exact BK109.out) hb); have n3_ := zam (zkb (g := gb113) (o := .cells #[.int .i64 t110, .int .i64 t111] 32 (0, 0)) (by (with_reducible repeat (first | refine zkn ?_ _ | refine zkd ?_ | refine zka ?_ _)); exact BK113.out) hb); have n4_ := zam (zkb (g := gb117) (o := .cells #[.int .i64 t114, .int .i64 t115] 32 (0, 0)) (by (with_reducible repeat (first | refine zkn ?_ _ | refine zkd ?_ | refine zka ?_ _)); exact BK117.out) hb); have n5_ := zam (zkb (g := gb121) (o := .cells #[.int .i64 t118, .int .i64 t119] 32 (0, 0)) (by (with_reducible repeat (first | refine zkn ?_ _ | refine zkd ?_ | refine zka ?_ _)); exact BK121.out) hb); have n6_ := zam (zbt (by repeat (first | (with_reducible first | exact HB.out | apply zba | apply zbn | apply zb1 | refine zbs ?_ GE101.out | refine zbs ?_ GE102.out | refine zbs ?_ GE109.out | refine zbs ?_ GE113.out | refine zbs ?_ GE117.out | refine zbs ?_ GE121.out) | exact HB.out)) hb); clear BK101; clear BK102; clear BK109; clear BK113; clear BK117; clear BK121; clear HB; have BK101 := n0_; have BK102 := n1_; have BK109 := n2_; have BK113 := n3_; have BK117 := n4_; have BK121 := n5_; have HB := n6_; clear n0_ n1_ n2_ n3_ n4_ n5_ n6_; (try clear hb); (try clear hb2); (try clear hk); (try clear hi)) | ((with_reducible refine zgd (N := 13) rfl ?_); refine box_event ?hg (N := 13) ?hd (cs := #[.int .i64 0, .int .i64 0]) (t := 32) ?hr ?_; (case hd => rfl); (case hg => rfl); (case hr => first | (go_simp; done) | (go_simp; rfl)); intro gb125 hg w95 hbox hb; have n0_ := zam (zkb (g := gb101) (o := .cells #[.int .i64 a0_0, .int .i64 a0_1] 32 (0, 0)) (by (with_reducible repeat (first | refine zkn ?_ _ | refine zkd ?_ | refine zka ?_ _)); exact BK101.out) hb); have n1_ := zam (zkb (g := gb102) (o := .cells #[.int .i64 a1_0, .int .i64 a1_1] 32 (0, 0)) (by (with_reducible repeat (first | refine zkn ?_ _ | refine zkd ?_ | refine zka ?_ _)); exact BK102.out) hb); have n2_ := zam (zkb (g := gb109) (o := .cells #[.int .i64 t106, .int .i64 t107] 32 (0, 0)) (by (with_reducible repeat (first | refine zkn ?_ _ | refine zkd ?_ | refine zka ?_ _)); exact BK109.out) hb); have n3_ := zam (zkb (g := gb113) (o := .cells #[.int .i64 t110, .int .i64 t111] 32 (0, 0)) (by (with_reducible repeat (first | refine zkn ?_ _ | refine zkd ?_ | refine zka ?_ _)); exact BK113.out) hb); have n4_ := zam (zkb (g := gb117) (o := .cells #[.int .i64 t114, .int .i64 t115] 32 (0, 0)) (by (with_reducible repeat (first | refine zkn ?_ _ | refine zkd ?_ | refine zka ?_ _)); exact BK117.out) hb); have n5_ := zam (zkb (g := gb121) (o := .cells #[.int .i64 t118, .int .i64 t119] 32 (0, 0)) (by (with_reducible repeat (first | refine zkn ?_ _ | refine zkd ?_ | refine zka ?_ _)); exact BK121.out) hb); have n6_ := zam (zbt (by repeat (first | (with_reducible first | exact HB.out | apply zba | apply zbn | apply zb1 | refine zbs ?_ GE101.out | refine zbs ?_ GE102.out | refine zbs ?_ GE109.out | refine zbs ?_ GE113.out | refine zbs ?_ GE117.out | refine zbs ?_ GE121.out) | exact HB.out)) hb); have n7_ := zam (hbox); have n8_ := zam ((by rw [hg]; exact (zbz (by repeat (first | (with_reducible first | exact HB.out | apply zba | apply zbn | apply zb1 | refine zbs ?_ GE101.out | refine zbs ?_ GE102.out | refine zbs ?_ GE109.out | refine zbs ?_ GE113.out | refine zbs ?_ GE117.out | refine zbs ?_ GE121.out) | exact HB.out))) : w.heap.size ≤ gb125)); have n9_ := zam ((by rw [hg]; exact (zbz (by repeat (first | (with_reducible first | exact HB.out | apply zba | apply zbn | apply zb1 | refine zbs ?_ GE101.out | refine zbs ?_ GE102.out | refine zbs ?_ GE109.out | refine zbs ?_ GE113.out | refine zbs ?_ GE117.out | refine zbs ?_ GE121.out) | exact HB.out))) : w.heap.size ≤ gb125)); have n10_ := zam ((by rw [hg]; exact Nat.ne_of_lt (blk_lt (g := gb101) (o := .cells #[.int .i64 a0_0, .int .i64 a0_1] 32 (0, 0)) (by (with_reducible repeat (first | refine zkn ?_ _ | refine zkd ?_ | refine zka ?_ _)); exact BK101.out)) : gb101 ≠ gb125)); have n11_ := zam ((by rw [hg]; exact Nat.ne_of_gt (blk_lt (g := gb101) (o := .cells #[.int .i64 a0_0, .int .i64 a0_1] 32 (0, 0)) (by (with_reducible repeat (first | refine zkn ?_ _ | refine zkd ?_ | refine zka ?_ _)); exact BK101.out)) : gb125 ≠ gb101)); have n12_ := zam ((by rw [hg]; exact Nat.ne_of_lt (blk_lt (g := gb102) (o := .cells #[.int .i64 a1_0, .int .i64 a1_1] 32 (0, 0)) (by (with_reducible repeat (first | refine zkn ?_ _ | refine zkd ?_ | refine zka ?_ _)); exact BK102.out)) : gb102 ≠ gb125)); have n13_ := zam ((by rw [hg]; exact Nat.ne_of_gt (blk_lt (g := gb102) (o := .cells #[.int .i64 a1_0, .int .i64 a1_1] 32 (0, 0)) (by (with_reducible repeat (first | refine zkn ?_ _ | refine zkd ?_ | refine zka ?_ _)); exact BK102.out)) : gb125 ≠ gb102)); have n14_ := zam ((by rw [hg]; exact Nat.ne_of_lt (blk_lt (g := gb109) (o := .cells #[.int .i64 t106, .int .i64 t107] 32 (0, 0)) (by (with_reducible repeat (first | refine zkn ?_ _ | refine zkd ?_ | refine zka ?_ _)); exact BK109.out)) : gb109 ≠ gb125)); have n15_ := zam ((by rw [hg]; exact Nat.ne_of_gt (blk_lt (g := gb109) (o := .cells #[.int .i64 t106, .int .i64 t107] 32 (0, 0)) (by (with_reducible repeat (first | refine zkn ?_ _ | refine zkd ?_ | refine zka ?_ _)); exact BK109.out)) : gb125 ≠ gb109)); have n16_ := zam ((by rw [hg]; exact Nat.ne_of_lt (blk_lt (g := gb113) (o := .cells #[.int .i64 t110, .int .i64 t111] 32 (0, 0)) (by (with_reducible repeat (first | refine zkn ?_ _ | refine zkd ?_ | refine zka ?_ _)); exact BK113.out)) : gb113 ≠ gb125)); have n17_ := zam ((by rw [hg]; exact Nat.ne_of_gt (blk_lt (g := gb113) (o := .cells #[.int .i64 t110, .int .i64 t111] 32 (0, 0)) (by (with_reducible repeat (first | refine zkn ?_ _ | refine zkd ?_ | refine zka ?_ _)); exact BK113.out)) : gb125 ≠ gb113)); have n18_ := zam ((by rw [hg]; exact Nat.ne_of_lt (blk_lt (g := gb117) (o := .cells #[.int .i64 t114, .int .i64 t115] 32 (0, 0)) (by (with_reducible repeat (first | refine zkn ?_ _ | refine zkd ?_ | refine zka ?_ _)); exact BK117.out)) : gb117 ≠ gb125)); have n19_ := zam ((by rw [hg]; exact Nat.ne_of_gt (blk_lt (g := gb117) (o := .cells #[.int .i64 t114, .int .i64 t115] 32 (0, 0)) (by (with_reducible repeat (first | refine zkn ?_ _ | refine zkd ?_ | refine zka ?_ _)); exact BK117.out)) : gb125 ≠ gb117)); have n20_ := zam ((by rw [hg]; exact Nat.ne_of_lt (blk_lt (g := gb121) (o := .cells #[.int .i64 t118, .int .i64 t119] 32 (0, 0)) (by (with_reducible repeat (first | refine zkn ?_ _ | refine zkd ?_ | refine zka ?_ _)); exact BK121.out)) : gb121 ≠ gb125)); have n21_ := zam ((by rw [hg]; exact Nat.ne_of_gt (blk_lt (g := gb121) (o := .cells #[.int .i64 t118, .int .i64 t119] 32 (0, 0)) (by (with_reducible repeat (first | refine zkn ?_ _ | refine zkd ?_ | refine zka ?_ _)); exact BK121.out)) : gb125 ≠ gb121)); clear BK101; clear BK102; clear BK109; clear BK113; clear BK117; clear BK121; clear HB; have BK101 := n0_; have BK102 := n1_; have BK109 := n2_; have BK113 := n3_; have BK117 := n4_; have BK121 := n5_; have HB := n6_; have BK125 := n7_; have GW125 := n8_; have GE125 := n9_; have NB101_125 := n10_; have NB125_101 := n11_; have NB102_125 := n12_; have NB125_102 := n13_; have NB109_125 := n14_; have NB125_109 := n15_; have NB113_125 := n16_; have NB125_113 := n17_; have NB117_125 := n18_; have NB125_117 := n19_; have NB121_125 := n20_; have NB125_121 := n21_; clear n0_ n1_ n2_ n3_ n4_ n5_ n6_ n7_ n8_ n9_ n10_ n11_ n12_ n13_ n14_ n15_ n16_ n17_ n18_ n19_ n20_ n21_; clear hb hbox hg; have hnb96 := NB125_101.out; have hnc96 := NB101_125.out; have hnb97 := NB125_102.out; have hnc97 := NB102_125.out; have hnb98 := NB125_109.out; have hnc98 := NB109_125.out; have hnb99 := NB125_113.out; have hnc99 := NB113_125.out; have hnb100 := NB125_117.out; have hnc100 := NB117_125.out; have hnb101 := NB125_121.out; have hnc101 := NB121_125.out; have hcz102_0 : w95.cell? ⟨gb125, 0, none⟩ = some (.int .i64 0) := (zkc BK125.out 0).trans rfl; have hcz102_1 : w95.cell? ⟨gb125, 1, none⟩ = some (.int .i64 0) := (zkc BK125.out 1).trans rfl; have hfz102_0 := zkz BK125.out 0; have hfz102_1 := zkz BK125.out 1; have hnb103 := NB101_109.out; have hnc103 := NB109_101.out; have hnb104 := NB101_113.out; have hnc104 := NB113_101.out; have hnb105 := NB101_117.out; have hnc105 := NB117_101.out; have hnb106 := NB101_121.out; have hnc106 := NB121_101.out; have hcz107_0 : w95.cell? ⟨gb101, 0, none⟩ = some (.int .i64 a0_0) := (zkc BK101.out 0).trans rfl; have hcz107_1 : w95.cell? ⟨gb101, 1, none⟩ = some (.int .i64 a0_1) := (zkc BK101.out 1).trans rfl; have hfz107_0 := zkz BK101.out 0; have hfz107_1 := zkz BK101.out 1) | ((with_reducible refine zgc (f := 27) rfl ?_); refine goesL_ (some 78) rfl rfl Try.func27 (by kernel_rfl) rfl #[.agg #[.int .i64 a0_0, .int .i64 a0_1], .agg #[.int .i64 t122, .int .i64 t123]] rfl (by (try simp only [zmt, List.map_cons, List.map_nil]); first | done | rfl | (simp only [zld, zlt]; rfl)) ?_; (with_reducible refine (bound_Add.calls kj23 a0_0 a0_1 t122 t123 t126 t127 t128 _ A84.out).mono ?_); rintro e w108 ⟨rfl, hb⟩; refine ⟨_, rfl, ?_⟩; have n0_ := zam (zkb (g := gb101) (o := .cells #[.int .i64 a0_0, .int .i64 a0_1] 32 (0, 0)) (by (with_reducible repeat (first | refine zkn ?_ _ | refine zkd ?_ | refine zka ?_ _)); refine blk_far ?_ NB101_125.out _; (with_reducible repeat (first | refine zkn ?_ _ | refine zkd ?_ | refine zka ?_ _)); refine blk_far ?_ NB101_125.out _; (with_reducible repeat (first | refine zkn ?_ _ | refine zkd ?_ | refine zka ?_ _)); exact BK101.out) hb); have n1_ := zam (zkb (g := gb102) (o := .cells #[.int .i64 a1_0, .int .i64 a1_1] 32 (0, 0)) (by (with_reducible repeat (first | refine zkn ?_ _ | refine zkd ?_ | refine zka ?_ _)); refine blk_far ?_ NB102_125.out _; (with_reducible repeat (first | refine zkn ?_ _ | refine zkd ?_ | refine zka ?_ _)); refine blk_far ?_ NB102_125.out _; (with_reducible repeat (first | refine zkn ?_ _ | refine zkd ?_ | refine zka ?_ _)); exact BK102.out) hb); have n2_ := zam (zkb (g := gb109) (o := .cells #[.int .i64 t106, .int .i64 t107] 32 (0, 0)) (by (with_reducible repeat (first | refine zkn ?_ _ | refine zkd ?_ | refine zka ?_ _)); refine blk_far ?_ NB109_125.out _; (with_reducible repeat (first | refine zkn ?_ _ | refine zkd ?_ | refine zka ?_ _)); refine blk_far ?_ NB109_125.out _; (with_reducible repeat (first | refine zkn ?_ _ | refine zkd ?_ | refine zka ?_ _)); exact BK109.out) hb); have n3_ := zam (zkb (g := gb113) (o := .cells #[.int .i64 t110, .int .i64 t111] 32 (0, 0)) (by (with_reducible repeat (first | refine zkn ?_ _ | refine zkd ?_ | refine zka ?_ _)); refine blk_far ?_ NB113_125.out _; (with_reducible repeat (first | refine zkn ?_ _ | refine zkd ?_ | refine zka ?_ _)); refine blk_far ?_ NB113_125.out _; (with_reducible repeat (first | refine zkn ?_ _ | refine zkd ?_ | refine zka ?_ _)); exact BK113.out) hb); have n4_ := zam (zkb (g := gb117) (o := .cells #[.int .i64 t114, .int .i64 t115] 32 (0, 0)) (by (with_reducible repeat (first | refine zkn ?_ _ | refine zkd ?_ | refine zka ?_ _)); refine blk_far ?_ NB117_125.out _; (with_reducible repeat (first | refine zkn ?_ _ | refine zkd ?_ | refine zka ?_ _)); refine blk_far ?_ NB117_125.out _; (with_reducible repeat (first | refine zkn ?_ _ | refine zkd ?_ | refine zka ?_ _)); exact BK117.out) hb); have n5_ := zam (zkb (g := gb121) (o := .cells #[.int .i64 t118, .int .i64 t119] 32 (0, 0)) (by (with_reducible repeat (first | refine zkn ?_ _ | refine zkd ?_ | refine zka ?_ _)); refine blk_far ?_ NB121_125.out _; (with_reducible repeat (first | refine zkn ?_ _ | refine zkd ?_ | refine zka ?_ _)); refine blk_far ?_ NB121_125.out _; (with_reducible repeat (first | refine zkn ?_ _ | refine zkd ?_ | refine zka ?_ _)); exact BK121.out) hb); have n6_ := zam (zkb (g := gb125) (o := .cells #[.int .i64 t122, .int .i64 t123] 32 (0, 0)) (by (with_reducible repeat (first | refine zkn ?_ _ | refine zkd ?_ | refine zka ?_ _)); refine blk_put (cs := #[.int .i64 t122, .int .i64 0]) ?_ 1 _ rfl; (with_reducible repeat (first | refine zkn ?_ _ | refine zkd ?_ | refine zka ?_ _)); refine blk_put (cs := #[.int .i64 0, .int .i64 0]) ?_ 0 _ rfl; (with_reducible repeat (first | refine zkn ?_ _ | refine zkd ?_ | refine zka ?_ _)); exact BK125.out) hb); have n7_ := zam (zbt (by repeat (first | (with_reducible first | exact HB.out | apply zba | apply zbn | apply zb1 | refine zbs ?_ GE101.out | refine zbs ?_ GE102.out | refine zbs ?_ GE109.out | refine zbs ?_ GE113.out | refine zbs ?_ GE117.out | refine zbs ?_ GE121.out | refine zbs ?_ GE125.out) | exact HB.out)) hb); clear BK101; clear BK102; clear BK109; clear BK113; clear BK117; clear BK121; clear BK125; clear HB; have BK101 := n0_; have BK102 := n1_; have BK109 := n2_; have BK113 := n3_; have BK117 := n4_; have BK121 := n5_; have BK125 := n6_; have HB := n7_; clear n0_ n1_ n2_ n3_ n4_ n5_ n6_ n7_; (try clear hb); (try clear hb2); (try clear hk); (try clear hi); have hnb109 := NB109_113.out; have hnc109 := NB113_109.out; have hnb110 := NB109_117.out; have hnc110 := NB117_109.out; have hnb111 := NB109_121.out; have hnc111 := NB121_109.out; have hcz112_0 : w108.cell? ⟨gb109, 0, none⟩ = some (.int .i64 t106) := (zkc BK109.out 0).trans rfl; have hcz112_1 : w108.cell? ⟨gb109, 1, none⟩ = some (.int .i64 t107) := (zkc BK109.out 1).trans rfl; have hfz112_0 := zkz BK109.out 0; have hfz112_1 := zkz BK109.out 1; have hcz113_0 : w108.cell? ⟨gb101, 0, none⟩ = some (.int .i64 a0_0) := (zkc BK101.out 0).trans rfl; have hcz113_1 : w108.cell? ⟨gb101, 1, none⟩ = some (.int .i64 a0_1) := (zkc BK101.out 1).trans rfl; have hfz113_0 := zkz BK101.out 0; have hfz113_1 := zkz BK101.out 1; have hcz114_0 : w108.cell? ⟨gb102, 0, none⟩ = some (.int .i64 a1_0) := (zkc BK102.out 0).trans rfl; have hcz114_1 : w108.cell? ⟨gb102, 1, none⟩ = some (.int .i64 a1_1) := (zkc BK102.out 1).trans rfl; have hfz114_0 := zkz BK102.out 0; have hfz114_1 := zkz BK102.out 1) | ((with_reducible refine zgc (f := 30) rfl ?_); refine goesL_ (some 84) rfl rfl Try.func30 (by kernel_rfl) rfl #[.agg #[.int .i64 a0_0, .int .i64 a0_1], .agg #[.int .i64 a1_0, .int .i64 a1_1]] rfl (by (try simp only [zmt, List.map_cons, List.map_nil]); first | done | rfl | (simp only [zld, zlt]; rfl)) ?_; (with_reducible refine (bound_Sub.calls kj23 a0_0 a0_1 a1_0 a1_1 t129 t130 t131 _ A85.out).mono ?_); rintro e w115 ⟨rfl, hb⟩; refine ⟨_, rfl, ?_⟩; have n0_ := zam (zkb (g := gb101) (o := .cells #[.int .i64 a0_0, .int .i64 a0_1] 32 (0, 0)) (by (with_reducible repeat (first | refine zkn ?_ _ | refine zkd ?_ | refine zka ?_ _)); refine blk_far ?_ NB101_109.out _; (with_reducible repeat (first | refine zkn ?_ _ | refine zkd ?_ | refine zka ?_ _)); refine blk_far ?_ NB101_109.out _; (with_reducible repeat (first | refine zkn ?_ _ | refine zkd ?_ | refine zka ?_ _)); exact BK101.out) hb); have n1_ := zam (zkb (g := gb102) (o := .cells #[.int .i64 a1_0, .int .i64 a1_1] 32 (0, 0)) (by (with_reducible repeat (first | refine zkn ?_ _ | refine zkd ?_ | refine zka ?_ _)); refine blk_far ?_ NB102_109.out _; (with_reducible repeat (first | refine zkn ?_ _ | refine zkd ?_ | refine zka ?_ _)); refine blk_far ?_ NB102_109.out _; (with_reducible repeat (first | refine zkn ?_ _ | refine zkd ?_ | refine zka ?_ _)); exact BK102.out) hb); have n2_ := zam (zkb (g := gb109) (o := .cells #[.int .i64 t126, .int .i64 t127] 32 (0, 0)) (by (with_reducible repeat (first | refine zkn ?_ _ | refine zkd ?_ | refine zka ?_ _)); refine blk_put (cs := #[.int .i64 t126, .int .i64 t107]) ?_ 1 _ rfl; (with_reducible repeat (first | refine zkn ?_ _ | refine zkd ?_ | refine zka ?_ _)); refine blk_put (cs := #[.int .i64 t106, .int .i64 t107]) ?_ 0 _ rfl; (with_reducible repeat (first | refine zkn ?_ _ | refine zkd ?_ | refine zka ?_ _)); exact BK109.out) hb); have n3_ := zam (zkb (g := gb113) (o := .cells #[.int .i64 t110, .int .i64 t111] 32 (0, 0)) (by (with_reducible repeat (first | refine zkn ?_ _ | refine zkd ?_ | refine zka ?_ _)); refine blk_far ?_ NB113_109.out _; (with_reducible repeat (first | refine zkn ?_ _ | refine zkd ?_ | refine zka ?_ _)); refine blk_far ?_ NB113_109.out _; (with_reducible repeat (first | refine zkn ?_ _ | refine zkd ?_ | refine zka ?_ _)); exact BK113.out) hb); have n4_ := zam (zkb (g := gb117) (o := .cells #[.int .i64 t114, .int .i64 t115] 32 (0, 0)) (by (with_reducible repeat (first | refine zkn ?_ _ | refine zkd ?_ | refine zka ?_ _)); refine blk_far ?_ NB117_109.out _; (with_reducible repeat (first | refine zkn ?_ _ | refine zkd ?_ | refine zka ?_ _)); refine blk_far ?_ NB117_109.out _; (with_reducible repeat (first | refine zkn ?_ _ | refine zkd ?_ | refine zka ?_ _)); exact BK117.out) hb); have n5_ := zam (zkb (g := gb121) (o := .cells #[.int .i64 t118, .int .i64 t119] 32 (0, 0)) (by (with_reducible repeat (first | refine zkn ?_ _ | refine zkd ?_ | refine zka ?_ _)); refine blk_far ?_ NB121_109.out _; (with_reducible repeat (first | refine zkn ?_ _ | refine zkd ?_ | refine zka ?_ _)); refine blk_far ?_ NB121_109.out _; (with_reducible repeat (first | refine zkn ?_ _ | refine zkd ?_ | refine zka ?_ _)); exact BK121.out) hb); have n6_ := zam (zkb (g := gb125) (o := .cells #[.int .i64 t122, .int .i64 t123] 32 (0, 0)) (by (with_reducible repeat (first | refine zkn ?_ _ | refine zkd ?_ | refine zka ?_ _)); refine blk_far ?_ NB125_109.out _; (with_reducible repeat (first | refine zkn ?_ _ | refine zkd ?_ | refine zka ?_ _)); refine blk_far ?_ NB125_109.out _; (with_reducible repeat (first | refine zkn ?_ _ | refine zkd ?_ | refine zka ?_ _)); exact BK125.out) hb); have n7_ := zam (zbt (by repeat (first | (with_reducible first | exact HB.out | apply zba | apply zbn | apply zb1 | refine zbs ?_ GE101.out | refine zbs ?_ GE102.out | refine zbs ?_ GE109.out | refine zbs ?_ GE113.out | refine zbs ?_ GE117.out | refine zbs ?_ GE121.out | refine zbs ?_ GE125.out) | exact HB.out)) hb); clear BK101; clear BK102; clear BK109; clear BK113; clear BK117; clear BK121; clear BK125; clear HB; have BK101 := n0_; have BK102 := n1_; have BK109 := n2_; have BK113 := n3_; have BK117 := n4_; have BK121 := n5_; have BK125 := n6_; have HB := n7_; clear n0_ n1_ n2_ n3_ n4_ n5_ n6_ n7_; (try clear hb); (try clear hb2); (try clear hk); (try clear hi); have hnb116 := NB113_117.out; have hnc116 := NB117_113.out; have hnb117 := NB113_121.out; have hnc117 := NB121_113.out; have hcz118_0 : w115.cell? ⟨gb113, 0, none⟩ = some (.int .i64 t110) := (zkc BK113.out 0).trans rfl; have hcz118_1 : w115.cell? ⟨gb113, 1, none⟩ = some (.int .i64 t111) := (zkc BK113.out 1).trans rfl; have hfz118_0 := zkz BK113.out 0; have hfz118_1 := zkz BK113.out 1; have hcz119_0 : w115.cell? ⟨gb101, 0, none⟩ = some (.int .i64 a0_0) := (zkc BK101.out 0).trans rfl; have hcz119_1 : w115.cell? ⟨gb101, 1, none⟩ = some (.int .i64 a0_1) := (zkc BK101.out 1).trans rfl; have hfz119_0 := zkz BK101.out 0; have hfz119_1 := zkz BK101.out 1) | ((with_reducible refine zgc (f := 29) rfl ?_); refine goesL_ (some 89) rfl rfl Try.func29 (by kernel_rfl) rfl #[.agg #[.int .i64 a0_0, .int .i64 a0_1], .int .i64 1, .int .i64 1] rfl (by (try simp only [zmt, List.map_cons, List.map_nil]); first | done | rfl | (simp only [zld, zlt]; rfl)) ?_; (with_reducible refine (bound_Scale.calls kj23 a0_0 a0_1 1 1 t132 t133 t134 _ A86.out).mono ?_); rintro e w120 ⟨rfl, hb⟩; refine ⟨_, rfl, ?_⟩; have n0_ := zam (zkb (g := gb101) (o := .cells #[.int .i64 a0_0, .int .i64 a0_1] 32 (0, 0)) (by (with_reducible repeat (first | refine zkn ?_ _ | refine zkd ?_ | refine zka ?_ _)); refine blk_far ?_ NB101_113.out _; (with_reducible repeat (first | refine zkn ?_ _ | refine zkd ?_ | refine zka ?_ _)); refine blk_far ?_ NB101_113.out _; (with_reducible repeat (first | refine zkn ?_ _ | refine zkd ?_ | refine zka ?_ _)); exact BK101.out) hb); have n1_ := zam (zkb (g := gb102) (o := .cells #[.int .i64 a1_0, .int .i64 a1_1] 32 (0, 0)) (by (with_reducible repeat (first | refine zkn ?_ _ | refine zkd ?_ | refine zka ?_ _)); refine blk_far ?_ NB102_113.out _; (with_reducible repeat (first | refine zkn ?_ _ | refine zkd ?_ | refine zka ?_ _)); refine blk_far ?_ NB102_113.out _; (with_reducible repeat (first | refine zkn ?_ _ | refine zkd ?_ | refine zka ?_ _)); exact BK102.out) hb); have n2_ := zam (zkb (g := gb109) (o := .cells #[.int .i64 t126, .int .i64 t127] 32 (0, 0)) (by (with_reducible repeat (first | refine zkn ?_ _ | refine zkd ?_ | refine zka ?_ _)); refine blk_far ?_ NB109_113.out _; (with_reducible repeat (first | refine zkn ?_ _ | refine zkd ?_ | refine zka ?_ _)); refine blk_far ?_ NB109_113.out _; (with_reducible repeat (first | refine zkn ?_ _ | refine zkd ?_ | refine zka ?_ _)); exact BK109.out) hb); have n3_ := zam (zkb (g := gb113) (o := .cells #[.int .i64 t129, .int .i64 t130] 32 (0, 0)) (by (with_reducible repeat (first | refine zkn ?_ _ | refine zkd ?_ | refine zka ?_ _)); refine blk_put (cs := #[.int .i64 t129, .int .i64 t111]) ?_ 1 _ rfl; (with_reducible repeat (first | refine zkn ?_ _ | refine zkd ?_ | refine zka ?_ _)); refine blk_put (cs := #[.int .i64 t110, .int .i64 t111]) ?_ 0 _ rfl; (with_reducible repeat (first | refine zkn ?_ _ | refine zkd ?_ | refine zka ?_ _)); exact BK113.out) hb); have n4_ := zam (zkb (g := gb117) (o := .cells #[.int .i64 t114, .int .i64 t115] 32 (0, 0)) (by (with_reducible repeat (first | refine zkn ?_ _ | refine zkd ?_ | refine zka ?_ _)); refine blk_far ?_ NB117_113.out _; (with_reducible repeat (first | refine zkn ?_ _ | refine zkd ?_ | refine zka ?_ _)); refine blk_far ?_ NB117_113.out _; (with_reducible repeat (first | refine zkn ?_ _ | refine zkd ?_ | refine zka ?_ _)); exact BK117.out) hb); have n5_ := zam (zkb (g := gb121) (o := .cells #[.int .i64 t118, .int .i64 t119] 32 (0, 0)) (by (with_reducible repeat (first | refine zkn ?_ _ | refine zkd ?_ | refine zka ?_ _)); refine blk_far ?_ NB121_113.out _; (with_reducible repeat (first | refine zkn ?_ _ | refine zkd ?_ | refine zka ?_ _)); refine blk_far ?_ NB121_113.out _; (with_reducible repeat (first | refine zkn ?_ _ | refine zkd ?_ | refine zka ?_ _)); exact BK121.out) hb); have n6_ := zam (zkb (g := gb125) (o := .cells #[.int .i64 t122, .int .i64 t123] 32 (0, 0)) (by (with_reducible repeat (first | refine zkn ?_ _ | refine zkd ?_ | refine zka ?_ _)); refine blk_far ?_ NB125_113.out _; (with_reducible repeat (first | refine zkn ?_ _ | refine zkd ?_ | refine zka ?_ _)); refine blk_far ?_ NB125_113.out _; (with_reducible repeat (first | refine zkn ?_ _ | refine zkd ?_ | refine zka ?_ _)); exact BK125.out) hb); have n7_ := zam (zbt (by repeat (first | (with_reducible first | exact HB.out | apply zba | apply zbn | apply zb1 | refine zbs ?_ GE101.out | refine zbs ?_ GE102.out | refine zbs ?_ GE109.out | refine zbs ?_ GE113.out | refine zbs ?_ GE117.out | refine zbs ?_ GE121.out | refine zbs ?_ GE125.out) | exact HB.out)) hb); clear BK101; clear BK102; clear BK109; clear BK113; clear BK117; clear BK121; clear BK125; clear HB; have BK101 := n0_; have BK102 := n1_; have BK109 := n2_; have BK113 := n3_; have BK117 := n4_; have BK121 := n5_; have BK125 := n6_; have HB := n7_; clear n0_ n1_ n2_ n3_ n4_ n5_ n6_ n7_; (try clear hb); (try clear hb2); (try clear hk); (try clear hi)) | ((with_reducible refine zgd (N := 14) rfl ?_); refine box_event ?hg (N := 14) ?hd (cs := #[.int .i64 0, .int .i64 0]) (t := 32) ?hr ?_; (case hd => rfl); (case hg => rfl); (case hr => first | (go_simp; done) | (go_simp; rfl)); intro gb135 hg w121 hbox hb; have n0_ := zam (zkb (g := gb101) (o := .cells #[.int .i64 a0_0, .int .i64 a0_1] 32 (0, 0)) (by (with_reducible repeat (first | refine zkn ?_ _ | refine zkd ?_ | refine zka ?_ _)); exact BK101.out) hb); have n1_ := zam (zkb (g := gb102) (o := .cells #[.int .i64 a1_0, .int .i64 a1_1] 32 (0, 0)) (by (with_reducible repeat (first | refine zkn ?_ _ | refine zkd ?_ | refine zka ?_ _)); exact BK102.out) hb); have n2_ := zam (zkb (g := gb109) (o := .cells #[.int .i64 t126, .int .i64 t127] 32 (0, 0)) (by (with_reducible repeat (first | refine zkn ?_ _ | refine zkd ?_ | refine zka ?_ _)); exact BK109.out) hb); have n3_ := zam (zkb (g := gb113) (o := .cells #[.int .i64 t129, .int .i64 t130] 32 (0, 0)) (by (with_reducible repeat (first | refine zkn ?_ _ | refine zkd ?_ | refine zka ?_ _)); exact BK113.out) hb); have n4_ := zam (zkb (g := gb117) (o := .cells #[.int .i64 t114, .int .i64 t115] 32 (0, 0)) (by (with_reducible repeat (first | refine zkn ?_ _ | refine zkd ?_ | refine zka ?_ _)); exact BK117.out) hb); have n5_ := zam (zkb (g := gb121) (o := .cells #[.int .i64 t118, .int .i64 t119] 32 (0, 0)) (by (with_reducible repeat (first | refine zkn ?_ _ | refine zkd ?_ | refine zka ?_ _)); exact BK121.out) hb); have n6_ := zam (zkb (g := gb125) (o := .cells #[.int .i64 t122, .int .i64 t123] 32 (0, 0)) (by (with_reducible repeat (first | refine zkn ?_ _ | refine zkd ?_ | refine zka ?_ _)); exact BK125.out) hb); have n7_ := zam (zbt (by repeat (first | (with_reducible first | exact HB.out | apply zba | apply zbn | apply zb1 | refine zbs ?_ GE101.out | refine zbs ?_ GE102.out | refine zbs ?_ GE109.out | refine zbs ?_ GE113.out | refine zbs ?_ GE117.out | refine zbs ?_ GE121.out | refine zbs ?_ GE125.out) | exact HB.out)) hb); have n8_ := zam (hbox); have n9_ := zam ((by rw [hg]; exact (zbz (by repeat (first | (with_reducible first | exact HB.out | apply zba | apply zbn | apply zb1 | refine zbs ?_ GE101.out | refine zbs ?_ GE102.out | refine zbs ?_ GE109.out | refine zbs ?_ GE113.out | refine zbs ?_ GE117.out | refine zbs ?_ GE121.out | refine zbs ?_ GE125.out) | exact HB.out))) : w.heap.size ≤ gb135)); have n10_ := zam ((by rw [hg]; exact (zbz (by repeat (first | (with_reducible first | exact HB.out | apply zba | apply zbn | apply zb1 | refine zbs ?_ GE101.out | refine zbs ?_ GE102.out | refine zbs ?_ GE109.out | refine zbs ?_ GE113.out | refine zbs ?_ GE117.out | refine zbs ?_ GE121.out | refine zbs ?_ GE125.out) | exact HB.out))) : w.heap.size ≤ gb135)); have n11_ := zam ((by rw [hg]; exact Nat.ne_of_lt (blk_lt (g := gb101) (o := .cells #[.int .i64 a0_0, .int .i64 a0_1] 32 (0, 0)) (by (with_reducible repeat (first | refine zkn ?_ _ | refine zkd ?_ | refine zka ?_ _)); exact BK101.out)) : gb101 ≠ gb135)); have n12_ := zam ((by rw [hg]; exact Nat.ne_of_gt (blk_lt (g := gb101) (o := .cells #[.int .i64 a0_0, .int .i64 a0_1] 32 (0, 0)) (by (with_reducible repeat (first | refine zkn ?_ _ | refine zkd ?_ | refine zka ?_ _)); exact BK101.out)) : gb135 ≠ gb101)); have n13_ := zam ((by rw [hg]; exact Nat.ne_of_lt (blk_lt (g := gb102) (o := .cells #[.int .i64 a1_0, .int .i64 a1_1] 32 (0, 0)) (by (with_reducible repeat (first | refine zkn ?_ _ | refine zkd ?_ | refine zka ?_ _)); exact BK102.out)) : gb102 ≠ gb135)); have n14_ := zam ((by rw [hg]; exact Nat.ne_of_gt (blk_lt (g := gb102) (o := .cells #[.int .i64 a1_0, .int .i64 a1_1] 32 (0, 0)) (by (with_reducible repeat (first | refine zkn ?_ _ | refine zkd ?_ | refine zka ?_ _)); exact BK102.out)) : gb135 ≠ gb102)); have n15_ := zam ((by rw [hg]; exact Nat.ne_of_lt (blk_lt (g := gb109) (o := .cells #[.int .i64 t126, .int .i64 t127] 32 (0, 0)) (by (with_reducible repeat (first | refine zkn ?_ _ | refine zkd ?_ | refine zka ?_ _)); exact BK109.out)) : gb109 ≠ gb135)); have n16_ := zam ((by rw [hg]; exact Nat.ne_of_gt (blk_lt (g := gb109) (o := .cells #[.int .i64 t126, .int .i64 t127] 32 (0, 0)) (by (with_reducible repeat (first | refine zkn ?_ _ | refine zkd ?_ | refine zka ?_ _)); exact BK109.out)) : gb135 ≠ gb109)); have n17_ := zam ((by rw [hg]; exact Nat.ne_of_lt (blk_lt (g := gb113) (o := .cells #[.int .i64 t129, .int .i64 t130] 32 (0, 0)) (by (with_reducible repeat (first | refine zkn ?_ _ | refine zkd ?_ | refine zka ?_ _)); exact BK113.out)) : gb113 ≠ gb135)); have n18_ := zam ((by rw [hg]; exact Nat.ne_of_gt (blk_lt (g := gb113) (o := .cells #[.int .i64 t129, .int .i64 t130] 32 (0, 0)) (by (with_reducible repeat (first | refine zkn ?_ _ | refine zkd ?_ | refine zka ?_ _)); exact BK113.out)) : gb135 ≠ gb113)); have n19_ := zam ((by rw [hg]; exact Nat.ne_of_lt (blk_lt (g := gb117) (o := .cells #[.int .i64 t114, .int .i64 t115] 32 (0, 0)) (by (with_reducible repeat (first | refine zkn ?_ _ | refine zkd ?_ | refine zka ?_ _)); exact BK117.out)) : gb117 ≠ gb135)); have n20_ := zam ((by rw [hg]; exact Nat.ne_of_gt (blk_lt (g := gb117) (o := .cells #[.int .i64 t114, .int .i64 t115] 32 (0, 0)) (by (with_reducible repeat (first | refine zkn ?_ _ | refine zkd ?_ | refine zka ?_ _)); exact BK117.out)) : gb135 ≠ gb117)); have n21_ := zam ((by rw [hg]; exact Nat.ne_of_lt (blk_lt (g := gb121) (o := .cells #[.int .i64 t118, .int .i64 t119] 32 (0, 0)) (by (with_reducible repeat (first | refine zkn ?_ _ | refine zkd ?_ | refine zka ?_ _)); exact BK121.out)) : gb121 ≠ gb135)); have n22_ := zam ((by rw [hg]; exact Nat.ne_of_gt (blk_lt (g := gb121) (o := .cells #[.int .i64 t118, .int .i64 t119] 32 (0, 0)) (by (with_reducible repeat (first | refine zkn ?_ _ | refine zkd ?_ | refine zka ?_ _)); exact BK121.out)) : gb135 ≠ gb121)); have n23_ := zam ((by rw [hg]; exact Nat.ne_of_lt (blk_lt (g := gb125) (o := .cells #[.int .i64 t122, .int .i64 t123] 32 (0, 0)) (by (with_reducible repeat (first | refine zkn ?_ _ | refine zkd ?_ | refine zka ?_ _)); exact BK125.out)) : gb125 ≠ gb135)); have n24_ := zam ((by rw [hg]; exact Nat.ne_of_gt (blk_lt (g := gb125) (o := .cells #[.int .i64 t122, .int .i64 t123] 32 (0, 0)) (by (with_reducible repeat (first | refine zkn ?_ _ | refine zkd ?_ | refine zka ?_ _)); exact BK125.out)) : gb135 ≠ gb125)); clear BK101; clear BK102; clear BK109; clear BK113; clear BK117; clear BK121; clear BK125; clear HB; have BK101 := n0_; have BK102 := n1_; have BK109 := n2_; have BK113 := n3_; have BK117 := n4_; have BK121 := n5_; have BK125 := n6_; have HB := n7_; have BK135 := n8_; have GW135 := n9_; have GE135 := n10_; have NB101_135 := n11_; have NB135_101 := n12_; have NB102_135 := n13_; have NB135_102 := n14_; have NB109_135 := n15_; have NB135_109 := n16_; have NB113_135 := n17_; have NB135_113 := n18_; have NB117_135 := n19_; have NB135_117 := n20_; have NB121_135 := n21_; have NB135_121 := n22_; have NB125_135 := n23_; have NB135_125 := n24_; clear n0_ n1_ n2_ n3_ n4_ n5_ n6_ n7_ n8_ n9_ n10_ n11_ n12_ n13_ n14_ n15_ n16_ n17_ n18_ n19_ n20_ n21_ n22_ n23_ n24_; clear hb hbox hg; have hnb122 := NB135_101.out; have hnc122 := NB101_135.out; have hnb123 := NB135_102.out; have hnc123 := NB102_135.out; have hnb124 := NB135_109.out; have hnc124 := NB109_135.out; have hnb125 := NB135_113.out; have hnc125 := NB113_135.out; have hnb126 := NB135_117.out; have hnc126 := NB117_135.out; have hnb127 := NB135_121.out; have hnc127 := NB121_135.out; have hnb128 := NB135_125.out; have hnc128 := NB125_135.out; have hcz129_0 : w121.cell? ⟨gb135, 0, none⟩ = some (.int .i64 0) := (zkc BK135.out 0).trans rfl; have hcz129_1 : w121.cell? ⟨gb135, 1, none⟩ = some (.int .i64 0) := (zkc BK135.out 1).trans rfl; have hfz129_0 := zkz BK135.out 0; have hfz129_1 := zkz BK135.out 1))
      (try simp only [Act.put, zsa, zsz, zss])
      go_cut [108] (fun v108 wc => ∃ (kq : Nat) (x108_86 : Bool), v108 = .bool x108_86 ∧ Aside0 (isobathlaw01_BoundAlgebra.j2 kq x108_86 a0_0 a0_1 a1_0 a1_1 = some r) ∧ Aside0 (kq ≤ kj23) ∧ Aside0 (wc.heap[gb101]? = some (.cells #[.int .i64 a0_0, .int .i64 a0_1] 32 (0, 0))) ∧ Aside0 (wc.heap[gb102]? = some (.cells #[.int .i64 a1_0, .int .i64 a1_1] 32 (0, 0))) ∧ Aside0 (wc.heap[gb109]? = some (.cells #[.int .i64 t126, .int .i64 t127] 32 (0, 0))) ∧ Aside0 (wc.heap[gb113]? = some (.cells #[.int .i64 t129, .int .i64 t130] 32 (0, 0))) ∧ Aside0 (wc.heap[gb117]? = some (.cells #[.int .i64 t114, .int .i64 t115] 32 (0, 0))) ∧ Aside0 (wc.heap[gb121]? = some (.cells #[.int .i64 t118, .int .i64 t119] 32 (0, 0))) ∧ Aside0 (wc.heap[gb125]? = some (.cells #[.int .i64 t122, .int .i64 t123] 32 (0, 0))) ∧ Aside0 (wc.heap[gb135]? = some (.cells #[.int .i64 t132, .int .i64 t133] 32 (0, 0))) ∧ Aside0 (Below w.heap.size w wc))
      case first =>
       have H := HC87.out
       clear HC87
       by_cases c130 : (!(t126 == t129) || (!(t127 == t130))) = true
       ·rw [if_pos c130] at H
        exact absurd H (by simp)
       rw [if_neg c130] at H
       have c130b0 : (!(t126 == t129) || (!(t127 == t130))) = false := by simpa using c130
       clear c130
       (first | rw [c130b0] | (simp only [i64_w, i32_w]; rw [c130b0]) | skip)
       by_cases c131 : t128 = t131
       ·rw [if_pos c131] at H
        have c131b0 : (t128 == t131) = true := beq_iff_eq.mpr c131
        have c131b1 : (t128 != t131) = false := bne_eq_false_iff_eq.mpr c131
        clear c131
        by_cases c132 : t134 = 0
        ·rw [if_pos c132] at H
         have c132b0 : (t134 == 0) = true := beq_iff_eq.mpr c132
         have c132b1 : (t134 != 0) = false := bne_eq_false_iff_eq.mpr c132
         clear c132
         have H' := zam H
         clear H
         have hnb133 := NB109_101.out
         have hnc133 := NB101_109.out
         have hnb134 := NB109_102.out
         have hnc134 := NB102_109.out
         have hnb135 := NB109_113.out
         have hnc135 := NB113_109.out
         have hnb136 := NB109_117.out
         have hnc136 := NB117_109.out
         have hnb137 := NB109_121.out
         have hnc137 := NB121_109.out
         have hnb138 := NB109_125.out
         have hnc138 := NB125_109.out
         have hnb139 := NB109_135.out
         have hnc139 := NB135_109.out
         have hcz140_0 : w121.cell? ⟨gb109, 0, none⟩ = some (.int .i64 t126) := (zkc BK109.out 0).trans rfl
         have hcz140_1 : w121.cell? ⟨gb109, 1, none⟩ = some (.int .i64 t127) := (zkc BK109.out 1).trans rfl
         have hfz140_0 := zkz BK109.out 0
         have hfz140_1 := zkz BK109.out 1
         have hnb141 := NB113_101.out
         have hnc141 := NB101_113.out
         have hnb142 := NB113_102.out
         have hnc142 := NB102_113.out
         have hnb143 := NB113_117.out
         have hnc143 := NB117_113.out
         have hnb144 := NB113_121.out
         have hnc144 := NB121_113.out
         have hnb145 := NB113_125.out
         have hnc145 := NB125_113.out
         have hnb146 := NB113_135.out
         have hnc146 := NB135_113.out
         have hcz147_0 : w121.cell? ⟨gb113, 0, none⟩ = some (.int .i64 t129) := (zkc BK113.out 0).trans rfl
         have hcz147_1 : w121.cell? ⟨gb113, 1, none⟩ = some (.int .i64 t130) := (zkc BK113.out 1).trans rfl
         have hfz147_0 := zkz BK113.out 0
         have hfz147_1 := zkz BK113.out 1
         have hnb148 := NB135_101.out
         have hnc148 := NB101_135.out
         have hnb149 := NB135_102.out
         have hnc149 := NB102_135.out
         have hnb150 := NB135_117.out
         have hnc150 := NB117_135.out
         have hnb151 := NB135_121.out
         have hnc151 := NB121_135.out
         have hnb152 := NB135_125.out
         have hnc152 := NB125_135.out
         have hcz153_0 : w121.cell? ⟨gb135, 0, none⟩ = some (.int .i64 0) := (zkc BK135.out 0).trans rfl
         have hcz153_1 : w121.cell? ⟨gb135, 1, none⟩ = some (.int .i64 0) := (zkc BK135.out 1).trans rfl
         have hfz153_0 := zkz BK135.out 0
         have hfz153_1 := zkz BK135.out 1
         have hnb154 := NB101_102.out
         have hnc154 := NB102_101.out
         have hnb155 := NB101_117.out
         have hnc155 := NB117_101.out
         have hnb156 := NB101_121.out
         have hnc156 := NB121_101.out
         have hnb157 := NB101_125.out
         have hnc157 := NB125_101.out
         have hcz158_0 : w121.cell? ⟨gb101, 0, none⟩ = some (.int .i64 a0_0) := (zkc BK101.out 0).trans rfl
         have hcz158_1 : w121.cell? ⟨gb101, 1, none⟩ = some (.int .i64 a0_1) := (zkc BK101.out 1).trans rfl
         have hfz158_0 := zkz BK101.out 0
         have hfz158_1 := zkz BK101.out 1
         go_wp2
         go_meet
         case rel => exact ⟨_, ((!(t132 == a0_0) || (!(t133 == a0_1)))), (by first | rfl | (simp; done) | (simp [*]; done)), H', ⟨by have := HJ2.out; have := HJ23.out; first | omega | exact Nat.le_refl _⟩, ⟨by (with_reducible repeat (first | refine zkn ?_ _ | refine zkd ?_ | refine zka ?_ _)); refine blk_far ?_ NB101_135.out _; (with_reducible repeat (first | refine zkn ?_ _ | refine zkd ?_ | refine zka ?_ _)); refine blk_far ?_ NB101_135.out _; (with_reducible repeat (first | refine zkn ?_ _ | refine zkd ?_ | refine zka ?_ _)); exact BK101.out⟩, ⟨by (with_reducible repeat (first | refine zkn ?_ _ | refine zkd ?_ | refine zka ?_ _)); refine blk_far ?_ NB102_135.out _; (with_reducible repeat (first | refine zkn ?_ _ | refine zkd ?_ | refine zka ?_ _)); refine blk_far ?_ NB102_135.out _; (with_reducible repeat (first | refine zkn ?_ _ | refine zkd ?_ | refine zka ?_ _)); exact BK102.out⟩, ⟨by (with_reducible repeat (first | refine zkn ?_ _ | refine zkd ?_ | refine zka ?_ _)); refine blk_far ?_ NB109_135.out _; (with_reducible repeat (first | refine zkn ?_ _ | refine zkd ?_ | refine zka ?_ _)); refine blk_far ?_ NB109_135.out _; (with_reducible repeat (first | refine zkn ?_ _ | refine zkd ?_ | refine zka ?_ _)); exact BK109.out⟩, ⟨by (with_reducible repeat (first | refine zkn ?_ _ | refine zkd ?_ | refine zka ?_ _)); refine blk_far ?_ NB113_135.out _; (with_reducible repeat (first | refine zkn ?_ _ | refine zkd ?_ | refine zka ?_ _)); refine blk_far ?_ NB113_135.out _; (with_reducible repeat (first | refine zkn ?_ _ | refine zkd ?_ | refine zka ?_ _)); exact BK113.out⟩, ⟨by (with_reducible repeat (first | refine zkn ?_ _ | refine zkd ?_ | refine zka ?_ _)); refine blk_far ?_ NB117_135.out _; (with_reducible repeat (first | refine zkn ?_ _ | refine zkd ?_ | refine zka ?_ _)); refine blk_far ?_ NB117_135.out _; (with_reducible repeat (first | refine zkn ?_ _ | refine zkd ?_ | refine zka ?_ _)); exact BK117.out⟩, ⟨by (with_reducible repeat (first | refine zkn ?_ _ | refine zkd ?_ | refine zka ?_ _)); refine blk_far ?_ NB121_135.out _; (with_reducible repeat (first | refine zkn ?_ _ | refine zkd ?_ | refine zka ?_ _)); refine blk_far ?_ NB121_135.out _; (with_reducible repeat (first | refine zkn ?_ _ | refine zkd ?_ | refine zka ?_ _)); exact BK121.out⟩, ⟨by (with_reducible repeat (first | refine zkn ?_ _ | refine zkd ?_ | refine zka ?_ _)); refine blk_far ?_ NB125_135.out _; (with_reducible repeat (first | refine zkn ?_ _ | refine zkd ?_ | refine zka ?_ _)); refine blk_far ?_ NB125_135.out _; (with_reducible repeat (first | refine zkn ?_ _ | refine zkd ?_ | refine zka ?_ _)); exact BK125.out⟩, ⟨by (with_reducible repeat (first | refine zkn ?_ _ | refine zkd ?_ | refine zka ?_ _)); refine blk_put (cs := #[.int .i64 t132, .int .i64 0]) ?_ 1 _ rfl; (with_reducible repeat (first | refine zkn ?_ _ | refine zkd ?_ | refine zka ?_ _)); refine blk_put (cs := #[.int .i64 0, .int .i64 0]) ?_ 0 _ rfl; (with_reducible repeat (first | refine zkn ?_ _ | refine zkd ?_ | refine zka ?_ _)); exact BK135.out⟩, ⟨by repeat (first | (with_reducible first | exact HB.out | apply zba | apply zbn | apply zb1 | refine zbs ?_ GE101.out | refine zbs ?_ GE102.out | refine zbs ?_ GE109.out | refine zbs ?_ GE113.out | refine zbs ?_ GE117.out | refine zbs ?_ GE121.out | refine zbs ?_ GE125.out | refine zbs ?_ GE135.out) | exact HB.out)⟩⟩
        rw [if_neg c132] at H
        exact absurd H (by simp)
       rw [if_neg c131] at H
       exact absurd H (by simp)
      case rest =>
       clear HC87
       try clear c1
       try clear c2
       try clear p2
       try clear c3
       try clear c4
       try clear c5
       try clear c6
       try clear c7
       try clear c8
       try clear c9
       try clear c10
       try clear c11
       try clear c12
       try clear c13
       try clear c14
       try clear c15
       try clear c17
       try clear c18
       try clear c22
       try clear c25
       try clear c27
       try clear c28
       try clear c29
       try clear c30
       try clear c31
       try clear c37
       try clear c38
       try clear c39
       try clear c45
       try clear c46
       try clear c47
       try clear c48
       try clear c54
       try clear c55
       try clear c56
       try clear c57
       try clear c58
       try clear c60
       try clear c60b0
       try clear c61
       try clear c61b0
       try clear c61b1
       try clear c62
       try clear c62b0
       try clear c63
       try clear c64
       try clear c65
       try clear c66
       try clear c67
       try clear c69
       try clear c70
       try clear c71
       try clear c72
       try clear c74
       try clear c75
       try clear c76
       try clear c78
       try clear c79
       try clear c81
       try clear c83
       try clear c83b0
       try clear c83b1
       try clear c88
       try clear c89
       try clear c90
       try clear c91
       try clear c92
       try clear c96
       try clear c97
       try clear c98
       try clear c99
       try clear c100
       try clear c101
       try clear c103
       try clear c104
       try clear c105
       try clear c106
       try clear c109
       try clear c110
       try clear c111
       try clear c116
       try clear c117
       try clear c122
       try clear c123
       try clear c124
       try clear c125
       try clear c126
       try clear c127
       try clear c128
       try clear c130
       try clear c130b0
       try clear c131
       try clear c131b0
       try clear c131b1
       try clear c132
       try clear c132b0
       try clear c132b1
       try clear c133
       try clear c134
       try clear c135
       try clear c136
       try clear c137
       try clear c138
       try clear c139
       try clear c141
       try clear c142
       try clear c143
       try clear c144
       try clear c145
       try clear c146
       try clear c148
       try clear c149
       try clear c150
       try clear c151
       try clear c152
       try clear c154
       try clear c155
       try clear c156
       try clear c157
       try clear hcz102_0
       try clear hcz102_1
       try clear hcz107_0
       try clear hcz107_1
       try clear hcz10_0
       try clear hcz10_1
       try clear hcz112_0
       try clear hcz112_1
       try clear hcz113_0
       try clear hcz113_1
       try clear hcz114_0
       try clear hcz114_1
       try clear hcz118_0
       try clear hcz118_1
       try clear hcz119_0
       try clear hcz119_1
       try clear hcz129_0
       try clear hcz129_1
       try clear hcz12_0
       try clear hcz12_1
       try clear hcz140_0
       try clear hcz140_1
       try clear hcz147_0
       try clear hcz147_1
       try clear hcz153_0
       try clear hcz153_1
       try clear hcz158_0
       try clear hcz158_1
       try clear hcz15_0
       try clear hcz15_1
       try clear hcz26_0
       try clear hcz26_1
       try clear hcz27_0
       try clear hcz27_1
       try clear hcz32_0
       try clear hcz32_1
       try clear hcz33_0
       try clear hcz33_1
       try clear hcz34_0
       try clear hcz34_1
       try clear hcz40_0
       try clear hcz40_1
       try clear hcz41_0
       try clear hcz41_1
       try clear hcz42_0
       try clear hcz42_1
       try clear hcz49_0
       try clear hcz49_1
       try clear hcz50_0
       try clear hcz50_1
       try clear hcz51_0
       try clear hcz51_1
       try clear hcz59_0
       try clear hcz59_1
       try clear hcz68_0
       try clear hcz68_1
       try clear hcz73_0
       try clear hcz73_1
       try clear hcz77_0
       try clear hcz77_1
       try clear hcz80_0
       try clear hcz80_1
       try clear hcz93_0
       try clear hcz93_1
       try clear hfz102_0
       try clear hfz102_1
       try clear hfz107_0
       try clear hfz107_1
       try clear hfz10_0
       try clear hfz10_1
       try clear hfz112_0
       try clear hfz112_1
       try clear hfz113_0
       try clear hfz113_1
       try clear hfz114_0
       try clear hfz114_1
       try clear hfz118_0
       try clear hfz118_1
       try clear hfz119_0
       try clear hfz119_1
       try clear hfz129_0
       try clear hfz129_1
       try clear hfz12_0
       try clear hfz12_1
       try clear hfz140_0
       try clear hfz140_1
       try clear hfz147_0
       try clear hfz147_1
       try clear hfz153_0
       try clear hfz153_1
       try clear hfz158_0
       try clear hfz158_1
       try clear hfz15_0
       try clear hfz15_1
       try clear hfz26_0
       try clear hfz26_1
       try clear hfz27_0
       try clear hfz27_1
       try clear hfz32_0
       try clear hfz32_1
       try clear hfz33_0
       try clear hfz33_1
       try clear hfz34_0
       try clear hfz34_1
       try clear hfz40_0
       try clear hfz40_1
       try clear hfz41_0
       try clear hfz41_1
       try clear hfz42_0
       try clear hfz42_1
       try clear hfz49_0
       try clear hfz49_1
       try clear hfz50_0
       try clear hfz50_1
       try clear hfz51_0
       try clear hfz51_1
       try clear hfz59_0
       try clear hfz59_1
       try clear hfz68_0
       try clear hfz68_1
       try clear hfz73_0
       try clear hfz73_1
       try clear hfz77_0
       try clear hfz77_1
       try clear hfz80_0
       try clear hfz80_1
       try clear hfz93_0
       try clear hfz93_1
       try clear p2
       obtain ⟨kq, x108_86, rfl, HA, HJ86, BK101, BK102, BK109, BK113, BK117, BK121, BK125, BK135, HB⟩ := hcut
       cases kq with
       | zero => exact absurd HA.out (by simp [isobathlaw01_BoundAlgebra.j2])
       | succ kj86 =>
        have H := HA.out
        clear HA
        simp only [isobathlaw01_BoundAlgebra.j2] at H
        by_cases c159 : x108_86 = true
        ·subst c159
         have H1 : (none) = some r := by rw [if_pos rfl] at H; exact H
         clear H
         have H := H1
         clear H1
         exact absurd H (by simp)
        replace c159 := Bool.eq_false_iff.mpr c159
        subst c159
        have H1 : ((bound_Hull.f kj86 a0_0 a0_1 a1_0 a1_1).bind fun bt136 => ((bound_Meet.f kj86 a0_0 a0_1 a1_0 a1_1).bind fun bt140 => (if bt136.2.2 = 0 then ((isobathlaw01_inside.f a0_0 a0_1 bt136.1 bt136.2.1).bind fun t144 => (if t144 = true then ((isobathlaw01_inside.f a1_0 a1_1 bt136.1 bt136.2.1).bind fun t145 => (isobathlaw01_BoundAlgebra.j3 kj86 bt140.2.2 (!t145) a0_0 a0_1 a1_0 a1_1 bt140.1 bt140.2.1)) else (none))) else (none)))) = some r := by rw [if_neg (show ¬ (false = true) by decide)] at H; exact H
        clear H
        have H := H1
        clear H1
        replace H := Option.bind_eq_some_iff.mp H
        obtain ⟨⟨t136, t137, t138⟩, A1600, H⟩ := H
        replace H : ((bound_Meet.f kj86 a0_0 a0_1 a1_0 a1_1).bind fun bt140 => (if t138 = 0 then ((isobathlaw01_inside.f a0_0 a0_1 t136 t137).bind fun t144 => (if t144 = true then ((isobathlaw01_inside.f a1_0 a1_1 t136 t137).bind fun t145 => (isobathlaw01_BoundAlgebra.j3 kj86 bt140.2.2 (!t145) a0_0 a0_1 a1_0 a1_1 bt140.1 bt140.2.1)) else (none))) else (none))) = some r := H
        have A160 := zam A1600
        clear A1600
        replace H := Option.bind_eq_some_iff.mp H
        obtain ⟨⟨t140, t141, t142⟩, A1610, H⟩ := H
        replace H : (if t138 = 0 then ((isobathlaw01_inside.f a0_0 a0_1 t136 t137).bind fun t144 => (if t144 = true then ((isobathlaw01_inside.f a1_0 a1_1 t136 t137).bind fun t145 => (isobathlaw01_BoundAlgebra.j3 kj86 t142 (!t145) a0_0 a0_1 a1_0 a1_1 t140 t141)) else (none))) else (none)) = some r := H
        have A161 := zam A1610
        clear A1610
        have HC162 := zam H
        clear H
        have hnb163 := NB101_102.out
        have hnc163 := NB102_101.out
        have hnb164 := NB101_109.out
        have hnc164 := NB109_101.out
        have hnb165 := NB101_113.out
        have hnc165 := NB113_101.out
        have hnb166 := NB101_117.out
        have hnc166 := NB117_101.out
        have hnb167 := NB101_121.out
        have hnc167 := NB121_101.out
        have hnb168 := NB101_125.out
        have hnc168 := NB125_101.out
        have hnb169 := NB101_135.out
        have hnc169 := NB135_101.out
        have hcz170_0 : wc.cell? ⟨gb101, 0, none⟩ = some (.int .i64 a0_0) := (zkc BK101.out 0).trans rfl
        have hcz170_1 : wc.cell? ⟨gb101, 1, none⟩ = some (.int .i64 a0_1) := (zkc BK101.out 1).trans rfl
        have hfz170_0 := zkz BK101.out 0
        have hfz170_1 := zkz BK101.out 1
        have hnb171 := NB102_109.out
        have hnc171 := NB109_102.out
        have hnb172 := NB102_113.out
        have hnc172 := NB113_102.out
        have hnb173 := NB102_117.out
        have hnc173 := NB117_102.out
        have hnb174 := NB102_121.out
        have hnc174 := NB121_102.out
        have hnb175 := NB102_125.out
        have hnc175 := NB125_102.out
        have hnb176 := NB102_135.out
        have hnc176 := NB135_102.out
        have hcz177_0 : wc.cell? ⟨gb102, 0, none⟩ = some (.int .i64 a1_0) := (zkc BK102.out 0).trans rfl
        have hcz177_1 : wc.cell? ⟨gb102, 1, none⟩ = some (.int .i64 a1_1) := (zkc BK102.out 1).trans rfl
        have hfz177_0 := zkz BK102.out 0
        have hfz177_1 := zkz BK102.out 1
        go_upto_region 19 with (first | ((with_reducible refine zgc (f := 31) rfl ?_); refine goesL_ (some 112) rfl rfl Try.func31 (by kernel_rfl) rfl #[.agg #[.int .i64 a0_0, .int .i64 a0_1], .agg #[.int .i64 a1_0, .int .i64 a1_1]] rfl (by (try simp only [zmt, List.map_cons, List.map_nil]); first | done | rfl | (simp only [zld, zlt]; rfl)) ?_; (with_reducible refine (bound_Hull.calls kj86 a0_0 a0_1 a1_0 a1_1 t136 t137 t138 _ A160.out).mono ?_); rintro e w178 ⟨rfl, hb⟩; refine ⟨_, rfl, ?_⟩; have n0_ := zam (zkb (g := gb101) (o := .cells #[.int .i64 a0_0, .int .i64 a0_1] 32 (0, 0)) (by (with_reducible repeat (first | refine zkn ?_ _ | refine zkd ?_ | refine zka ?_ _)); exact BK101.out) hb); have n1_ := zam (zkb (g := gb102) (o := .cells #[.int .i64 a1_0, .int .i64 a1_1] 32 (0, 0)) (by (with_reducible repeat (first | refine zkn ?_ _ | refine zkd ?_ | refine zka ?_ _)); exact BK102.out) hb); have n2_ := zam (zkb (g := gb109) (o := .cells #[.int .i64 t126, .int .i64 t127] 32 (0, 0)) (by (with_reducible repeat (first | refine zkn ?_ _ | refine zkd ?_ | refine zka ?_ _)); exact BK109.out) hb); have n3_ := zam (zkb (g := gb113) (o := .cells #[.int .i64 t129, .int .i64 t130] 32 (0, 0)) (by (with_reducible repeat (first | refine zkn ?_ _ | refine zkd ?_ | refine zka ?_ _)); exact BK113.out) hb); have n4_ := zam (zkb (g := gb117) (o := .cells #[.int .i64 t114, .int .i64 t115] 32 (0, 0)) (by (with_reducible repeat (first | refine zkn ?_ _ | refine zkd ?_ | refine zka ?_ _)); exact BK117.out) hb); have n5_ := zam (zkb (g := gb121) (o := .cells #[.int .i64 t118, .int .i64 t119] 32 (0, 0)) (by (with_reducible repeat (first | refine zkn ?_ _ | refine zkd ?_ | refine zka ?_ _)); exact BK121.out) hb); have n6_ := zam (zkb (g := gb125) (o := .cells #[.int .i64 t122, .int .i64 t123] 32 (0, 0)) (by (with_reducible repeat (first | refine zkn ?_ _ | refine zkd ?_ | refine zka ?_ _)); exact BK125.out) hb); have n7_ := zam (zkb (g := gb135) (o := .cells #[.int .i64 t132, .int .i64 t133] 32 (0, 0)) (by (with_reducible repeat (first | refine zkn ?_ _ | refine zkd ?_ | refine zka ?_ _)); exact BK135.out) hb); have n8_ := zam (zbt (by repeat (first | (with_reducible first | exact HB.out | apply zba | apply zbn | apply zb1 | refine zbs ?_ GE101.out | refine zbs ?_ GE102.out | refine zbs ?_ GE109.out | refine zbs ?_ GE113.out | refine zbs ?_ GE117.out | refine zbs ?_ GE121.out | refine zbs ?_ GE125.out | refine zbs ?_ GE135.out) | exact HB.out)) hb); clear BK101; clear BK102; clear BK109; clear BK113; clear BK117; clear BK121; clear BK125; clear BK135; clear HB; have BK101 := n0_; have BK102 := n1_; have BK109 := n2_; have BK113 := n3_; have BK117 := n4_; have BK121 := n5_; have BK125 := n6_; have BK135 := n7_; have HB := n8_; clear n0_ n1_ n2_ n3_ n4_ n5_ n6_ n7_ n8_; (try clear hb); (try clear hb2); (try clear hk); (try clear hi)) | ((with_reducible refine zgd (N := 15) rfl ?_); refine box_event ?hg (N := 15) ?hd (cs := #[.int .i64 0, .int .i64 0]) (t := 32) ?hr ?_; (case hd => rfl); (case hg => rfl); (case hr => first | (go_simp; done) | (go_simp; rfl)); intro gb139 hg w179 hbox hb; have n0_ := zam (zkb (g := gb101) (o := .cells #[.int .i64 a0_0, .int .i64 a0_1] 32 (0, 0)) (by (with_reducible repeat (first | refine zkn ?_ _ | refine zkd ?_ | refine zka ?_ _)); exact BK101.out) hb); have n1_ := zam (zkb (g := gb102) (o := .cells #[.int .i64 a1_0, .int .i64 a1_1] 32 (0, 0)) (by (with_reducible repeat (first | refine zkn ?_ _ | refine zkd ?_ | refine zka ?_ _)); exact BK102.out) hb); have n2_ := zam (zkb (g := gb109) (o := .cells #[.int .i64 t126, .int .i64 t127] 32 (0, 0)) (by (with_reducible repeat (first | refine zkn ?_ _ | refine zkd ?_ | refine zka ?_ _)); exact BK109.out) hb); have n3_ := zam (zkb (g := gb113) (o := .cells #[.int .i64 t129, .int .i64 t130] 32 (0, 0)) (by (with_reducible repeat (first | refine zkn ?_ _ | refine zkd ?_ | refine zka ?_ _)); exact BK113.out) hb); have n4_ := zam (zkb (g := gb117) (o := .cells #[.int .i64 t114, .int .i64 t115] 32 (0, 0)) (by (with_reducible repeat (first | refine zkn ?_ _ | refine zkd ?_ | refine zka ?_ _)); exact BK117.out) hb); have n5_ := zam (zkb (g := gb121) (o := .cells #[.int .i64 t118, .int .i64 t119] 32 (0, 0)) (by (with_reducible repeat (first | refine zkn ?_ _ | refine zkd ?_ | refine zka ?_ _)); exact BK121.out) hb); have n6_ := zam (zkb (g := gb125) (o := .cells #[.int .i64 t122, .int .i64 t123] 32 (0, 0)) (by (with_reducible repeat (first | refine zkn ?_ _ | refine zkd ?_ | refine zka ?_ _)); exact BK125.out) hb); have n7_ := zam (zkb (g := gb135) (o := .cells #[.int .i64 t132, .int .i64 t133] 32 (0, 0)) (by (with_reducible repeat (first | refine zkn ?_ _ | refine zkd ?_ | refine zka ?_ _)); exact BK135.out) hb); have n8_ := zam (zbt (by repeat (first | (with_reducible first | exact HB.out | apply zba | apply zbn | apply zb1 | refine zbs ?_ GE101.out | refine zbs ?_ GE102.out | refine zbs ?_ GE109.out | refine zbs ?_ GE113.out | refine zbs ?_ GE117.out | refine zbs ?_ GE121.out | refine zbs ?_ GE125.out | refine zbs ?_ GE135.out) | exact HB.out)) hb); have n9_ := zam (hbox); have n10_ := zam ((by rw [hg]; exact (zbz (by repeat (first | (with_reducible first | exact HB.out | apply zba | apply zbn | apply zb1 | refine zbs ?_ GE101.out | refine zbs ?_ GE102.out | refine zbs ?_ GE109.out | refine zbs ?_ GE113.out | refine zbs ?_ GE117.out | refine zbs ?_ GE121.out | refine zbs ?_ GE125.out | refine zbs ?_ GE135.out) | exact HB.out))) : w.heap.size ≤ gb139)); have n11_ := zam ((by rw [hg]; exact (zbz (by repeat (first | (with_reducible first | exact HB.out | apply zba | apply zbn | apply zb1 | refine zbs ?_ GE101.out | refine zbs ?_ GE102.out | refine zbs ?_ GE109.out | refine zbs ?_ GE113.out | refine zbs ?_ GE117.out | refine zbs ?_ GE121.out | refine zbs ?_ GE125.out | refine zbs ?_ GE135.out) | exact HB.out))) : w.heap.size ≤ gb139)); have n12_ := zam ((by rw [hg]; exact Nat.ne_of_lt (blk_lt (g := gb101) (o := .cells #[.int .i64 a0_0, .int .i64 a0_1] 32 (0, 0)) (by (with_reducible repeat (first | refine zkn ?_ _ | refine zkd ?_ | refine zka ?_ _)); exact BK101.out)) : gb101 ≠ gb139)); have n13_ := zam ((by rw [hg]; exact Nat.ne_of_gt (blk_lt (g := gb101) (o := .cells #[.int .i64 a0_0, .int .i64 a0_1] 32 (0, 0)) (by (with_reducible repeat (first | refine zkn ?_ _ | refine zkd ?_ | refine zka ?_ _)); exact BK101.out)) : gb139 ≠ gb101)); have n14_ := zam ((by rw [hg]; exact Nat.ne_of_lt (blk_lt (g := gb102) (o := .cells #[.int .i64 a1_0, .int .i64 a1_1] 32 (0, 0)) (by (with_reducible repeat (first | refine zkn ?_ _ | refine zkd ?_ | refine zka ?_ _)); exact BK102.out)) : gb102 ≠ gb139)); have n15_ := zam ((by rw [hg]; exact Nat.ne_of_gt (blk_lt (g := gb102) (o := .cells #[.int .i64 a1_0, .int .i64 a1_1] 32 (0, 0)) (by (with_reducible repeat (first | refine zkn ?_ _ | refine zkd ?_ | refine zka ?_ _)); exact BK102.out)) : gb139 ≠ gb102)); have n16_ := zam ((by rw [hg]; exact Nat.ne_of_lt (blk_lt (g := gb109) (o := .cells #[.int .i64 t126, .int .i64 t127] 32 (0, 0)) (by (with_reducible repeat (first | refine zkn ?_ _ | refine zkd ?_ | refine zka ?_ _)); exact BK109.out)) : gb109 ≠ gb139)); have n17_ := zam ((by rw [hg]; exact Nat.ne_of_gt (blk_lt (g := gb109) (o := .cells #[.int .i64 t126, .int .i64 t127] 32 (0, 0)) (by (with_reducible repeat (first | refine zkn ?_ _ | refine zkd ?_ | refine zka ?_ _)); exact BK109.out)) : gb139 ≠ gb109)); have n18_ := zam ((by rw [hg]; exact Nat.ne_of_lt (blk_lt (g := gb113) (o := .cells #[.int .i64 t129, .int .i64 t130] 32 (0, 0)) (by (with_reducible repeat (first | refine zkn ?_ _ | refine zkd ?_ | refine zka ?_ _)); exact BK113.out)) : gb113 ≠ gb139)); have n19_ := zam ((by rw [hg]; exact Nat.ne_of_gt (blk_lt (g := gb113) (o := .cells #[.int .i64 t129, .int .i64 t130] 32 (0, 0)) (by (with_reducible repeat (first | refine zkn ?_ _ | refine zkd ?_ | refine zka ?_ _)); exact BK113.out)) : gb139 ≠ gb113)); have n20_ := zam ((by rw [hg]; exact Nat.ne_of_lt (blk_lt (g := gb117) (o := .cells #[.int .i64 t114, .int .i64 t115] 32 (0, 0)) (by (with_reducible repeat (first | refine zkn ?_ _ | refine zkd ?_ | refine zka ?_ _)); exact BK117.out)) : gb117 ≠ gb139)); have n21_ := zam ((by rw [hg]; exact Nat.ne_of_gt (blk_lt (g := gb117) (o := .cells #[.int .i64 t114, .int .i64 t115] 32 (0, 0)) (by (with_reducible repeat (first | refine zkn ?_ _ | refine zkd ?_ | refine zka ?_ _)); exact BK117.out)) : gb139 ≠ gb117)); have n22_ := zam ((by rw [hg]; exact Nat.ne_of_lt (blk_lt (g := gb121) (o := .cells #[.int .i64 t118, .int .i64 t119] 32 (0, 0)) (by (with_reducible repeat (first | refine zkn ?_ _ | refine zkd ?_ | refine zka ?_ _)); exact BK121.out)) : gb121 ≠ gb139)); have n23_ := zam ((by rw [hg]; exact Nat.ne_of_gt (blk_lt (g := gb121) (o := .cells #[.int .i64 t118, .int .i64 t119] 32 (0, 0)) (by (with_reducible repeat (first | refine zkn ?_ _ | refine zkd ?_ | refine zka ?_ _)); exact BK121.out)) : gb139 ≠ gb121)); have n24_ := zam ((by rw [hg]; exact Nat.ne_of_lt (blk_lt (g := gb125) (o := .cells #[.int .i64 t122, .int .i64 t123] 32 (0, 0)) (by (with_reducible repeat (first | refine zkn ?_ _ | refine zkd ?_ | refine zka ?_ _)); exact BK125.out)) : gb125 ≠ gb139)); have n25_ := zam ((by rw [hg]; exact Nat.ne_of_gt (blk_lt (g := gb125) (o := .cells #[.int .i64 t122, .int .i64 t123] 32 (0, 0)) (by (with_reducible repeat (first | refine zkn ?_ _ | refine zkd ?_ | refine zka ?_ _)); exact BK125.out)) : gb139 ≠ gb125)); have n26_ := zam ((by rw [hg]; exact Nat.ne_of_lt (blk_lt (g := gb135) (o := .cells #[.int .i64 t132, .int .i64 t133] 32 (0, 0)) (by (with_reducible repeat (first | refine zkn ?_ _ | refine zkd ?_ | refine zka ?_ _)); exact BK135.out)) : gb135 ≠ gb139)); have n27_ := zam ((by rw [hg]; exact Nat.ne_of_gt (blk_lt (g := gb135) (o := .cells #[.int .i64 t132, .int .i64 t133] 32 (0, 0)) (by (with_reducible repeat (first | refine zkn ?_ _ | refine zkd ?_ | refine zka ?_ _)); exact BK135.out)) : gb139 ≠ gb135)); clear BK101; clear BK102; clear BK109; clear BK113; clear BK117; clear BK121; clear BK125; clear BK135; clear HB; have BK101 := n0_; have BK102 := n1_; have BK109 := n2_; have BK113 := n3_; have BK117 := n4_; have BK121 := n5_; have BK125 := n6_; have BK135 := n7_; have HB := n8_; have BK139 := n9_; have GW139 := n10_; have GE139 := n11_; have NB101_139 := n12_; have NB139_101 := n13_; have NB102_139 := n14_; have NB139_102 := n15_; have NB109_139 := n16_; have NB139_109 := n17_; have NB113_139 := n18_; have NB139_113 := n19_; have NB117_139 := n20_; have NB139_117 := n21_; have NB121_139 := n22_; have NB139_121 := n23_; have NB125_139 := n24_; have NB139_125 := n25_; have NB135_139 := n26_; have NB139_135 := n27_; clear n0_ n1_ n2_ n3_ n4_ n5_ n6_ n7_ n8_ n9_ n10_ n11_ n12_ n13_ n14_ n15_ n16_ n17_ n18_ n19_ n20_ n21_ n22_ n23_ n24_ n25_ n26_ n27_; clear hb hbox hg; have hnb180 := NB139_101.out; have hnc180 := NB101_139.out; have hnb181 := NB139_102.out; have hnc181 := NB102_139.out; have hnb182 := NB139_109.out; have hnc182 := NB109_139.out; have hnb183 := NB139_113.out; have hnc183 := NB113_139.out; have hnb184 := NB139_117.out; have hnc184 := NB117_139.out; have hnb185 := NB139_121.out; have hnc185 := NB121_139.out; have hnb186 := NB139_125.out; have hnc186 := NB125_139.out; have hnb187 := NB139_135.out; have hnc187 := NB135_139.out; have hcz188_0 : w179.cell? ⟨gb139, 0, none⟩ = some (.int .i64 0) := (zkc BK139.out 0).trans rfl; have hcz188_1 : w179.cell? ⟨gb139, 1, none⟩ = some (.int .i64 0) := (zkc BK139.out 1).trans rfl; have hfz188_0 := zkz BK139.out 0; have hfz188_1 := zkz BK139.out 1; have hcz189_0 : w179.cell? ⟨gb101, 0, none⟩ = some (.int .i64 a0_0) := (zkc BK101.out 0).trans rfl; have hcz189_1 : w179.cell? ⟨gb101, 1, none⟩ = some (.int .i64 a0_1) := (zkc BK101.out 1).trans rfl; have hfz189_0 := zkz BK101.out 0; have hfz189_1 := zkz BK101.out 1; have hcz190_0 : w179.cell? ⟨gb102, 0, none⟩ = some (.int .i64 a1_0) := (zkc BK102.out 0).trans rfl; have hcz190_1 : w179.cell? ⟨gb102, 1, none⟩ = some (.int .i64 a1_1) := (zkc BK102.out 1).trans rfl; have hfz190_0 := zkz BK102.out 0; have hfz190_1 := zkz BK102.out 1) | ((with_reducible refine zgc (f := 32) rfl ?_); refine goesL_ (some 118) rfl rfl Try.func32 (by kernel_rfl) rfl #[.agg #[.int .i64 a0_0, .int .i64 a0_1], .agg #[.int .i64 a1_0, .int .i64 a1_1]] rfl (by (try simp only [zmt, List.map_cons, List.map_nil]); first | done | rfl | (simp only [zld, zlt]; rfl)) ?_; (with_reducible refine (bound_Meet.calls kj86 a0_0 a0_1 a1_0 a1_1 t140 t141 t142 _ A161.out).mono ?_); rintro e w191 ⟨rfl, hb⟩; refine ⟨_, rfl, ?_⟩; have n0_ := zam (zkb (g := gb101) (o := .cells #[.int .i64 a0_0, .int .i64 a0_1] 32 (0, 0)) (by (with_reducible repeat (first | refine zkn ?_ _ | refine zkd ?_ | refine zka ?_ _)); refine blk_far ?_ NB101_139.out _; (with_reducible repeat (first | refine zkn ?_ _ | refine zkd ?_ | refine zka ?_ _)); refine blk_far ?_ NB101_139.out _; (with_reducible repeat (first | refine zkn ?_ _ | refine zkd ?_ | refine zka ?_ _)); exact BK101.out) hb); have n1_ := zam (zkb (g := gb102) (o := .cells #[.int .i64 a1_0, .int .i64 a1_1] 32 (0, 0)) (by (with_reducible repeat (first | refine zkn ?_ _ | refine zkd ?_ | refine zka ?_ _)); refine blk_far ?_ NB102_139.out _; (with_reducible repeat (first | refine zkn ?_ _ | refine zkd ?_ | refine zka ?_ _)); refine blk_far ?_ NB102_139.out _; (with_reducible repeat (first | refine zkn ?_ _ | refine zkd ?_ | refine zka ?_ _)); exact BK102.out) hb); have n2_ := zam (zkb (g := gb109) (o := .cells #[.int .i64 t126, .int .i64 t127] 32 (0, 0)) (by (with_reducible repeat (first | refine zkn ?_ _ | refine zkd ?_ | refine zka ?_ _)); refine blk_far ?_ NB109_139.out _; (with_reducible repeat (first | refine zkn ?_ _ | refine zkd ?_ | refine zka ?_ _)); refine blk_far ?_ NB109_139.out _; (with_reducible repeat (first | refine zkn ?_ _ | refine zkd ?_ | refine zka ?_ _)); exact BK109.out) hb); have n3_ := zam (zkb (g := gb113) (o := .cells #[.int .i64 t129, .int .i64 t130] 32 (0, 0)) (by (with_reducible repeat (first | refine zkn ?_ _ | refine zkd ?_ | refine zka ?_ _)); refine blk_far ?_ NB113_139.out _; (with_reducible repeat (first | refine zkn ?_ _ | refine zkd ?_ | refine zka ?_ _)); refine blk_far ?_ NB113_139.out _; (with_reducible repeat (first | refine zkn ?_ _ | refine zkd ?_ | refine zka ?_ _)); exact BK113.out) hb); have n4_ := zam (zkb (g := gb117) (o := .cells #[.int .i64 t114, .int .i64 t115] 32 (0, 0)) (by (with_reducible repeat (first | refine zkn ?_ _ | refine zkd ?_ | refine zka ?_ _)); refine blk_far ?_ NB117_139.out _; (with_reducible repeat (first | refine zkn ?_ _ | refine zkd ?_ | refine zka ?_ _)); refine blk_far ?_ NB117_139.out _; (with_reducible repeat (first | refine zkn ?_ _ | refine zkd ?_ | refine zka ?_ _)); exact BK117.out) hb); have n5_ := zam (zkb (g := gb121) (o := .cells #[.int .i64 t118, .int .i64 t119] 32 (0, 0)) (by (with_reducible repeat (first | refine zkn ?_ _ | refine zkd ?_ | refine zka ?_ _)); refine blk_far ?_ NB121_139.out _; (with_reducible repeat (first | refine zkn ?_ _ | refine zkd ?_ | refine zka ?_ _)); refine blk_far ?_ NB121_139.out _; (with_reducible repeat (first | refine zkn ?_ _ | refine zkd ?_ | refine zka ?_ _)); exact BK121.out) hb); have n6_ := zam (zkb (g := gb125) (o := .cells #[.int .i64 t122, .int .i64 t123] 32 (0, 0)) (by (with_reducible repeat (first | refine zkn ?_ _ | refine zkd ?_ | refine zka ?_ _)); refine blk_far ?_ NB125_139.out _; (with_reducible repeat (first | refine zkn ?_ _ | refine zkd ?_ | refine zka ?_ _)); refine blk_far ?_ NB125_139.out _; (with_reducible repeat (first | refine zkn ?_ _ | refine zkd ?_ | refine zka ?_ _)); exact BK125.out) hb); have n7_ := zam (zkb (g := gb135) (o := .cells #[.int .i64 t132, .int .i64 t133] 32 (0, 0)) (by (with_reducible repeat (first | refine zkn ?_ _ | refine zkd ?_ | refine zka ?_ _)); refine blk_far ?_ NB135_139.out _; (with_reducible repeat (first | refine zkn ?_ _ | refine zkd ?_ | refine zka ?_ _)); refine blk_far ?_ NB135_139.out _; (with_reducible repeat (first | refine zkn ?_ _ | refine zkd ?_ | refine zka ?_ _)); exact BK135.out) hb); have n8_ := zam (zkb (g := gb139) (o := .cells #[.int .i64 t136, .int .i64 t137] 32 (0, 0)) (by (with_reducible repeat (first | refine zkn ?_ _ | refine zkd ?_ | refine zka ?_ _)); refine blk_put (cs := #[.int .i64 t136, .int .i64 0]) ?_ 1 _ rfl; (with_reducible repeat (first | refine zkn ?_ _ | refine zkd ?_ | refine zka ?_ _)); refine blk_put (cs := #[.int .i64 0, .int .i64 0]) ?_ 0 _ rfl; (with_reducible repeat (first | refine zkn ?_ _ | refine zkd ?_ | refine zka ?_ _)); exact BK139.out) hb); have n9_ := zam (zbt (by repeat (first | (with_reducible first | exact HB.out | apply zba | apply zbn | apply zb1 | refine zbs ?_ GE101.out | refine zbs ?_ GE102.out | refine zbs ?_ GE109.out | refine zbs ?_ GE113.out | refine zbs ?_ GE117.out | refine zbs ?_ GE121.out | refine zbs ?_ GE125.out | refine zbs ?_ GE135.out | refine zbs ?_ GE139.out) | exact HB.out)) hb); clear BK101; clear BK102; clear BK109; clear BK113; clear BK117; clear BK121; clear BK125; clear BK135; clear BK139; clear HB; have BK101 := n0_; have BK102 := n1_; have BK109 := n2_; have BK113 := n3_; have BK117 := n4_; have BK121 := n5_; have BK125 := n6_; have BK135 := n7_; have BK139 := n8_; have HB := n9_; clear n0_ n1_ n2_ n3_ n4_ n5_ n6_ n7_ n8_ n9_; (try clear hb); (try clear hb2); (try clear hk); (try clear hi)) | ((with_reducible refine zgd (N := 16) rfl ?_); refine box_event ?hg (N := 16) ?hd (cs := #[.int .i64 0, .int .i64 0]) (t := 32) ?hr ?_; (case hd => rfl); (case hg => rfl); (case hr => first | (go_simp; done) | (go_simp; rfl)); intro gb143 hg w192 hbox hb; have n0_ := zam (zkb (g := gb101) (o := .cells #[.int .i64 a0_0, .int .i64 a0_1] 32 (0, 0)) (by (with_reducible repeat (first | refine zkn ?_ _ | refine zkd ?_ | refine zka ?_ _)); exact BK101.out) hb); have n1_ := zam (zkb (g := gb102) (o := .cells #[.int .i64 a1_0, .int .i64 a1_1] 32 (0, 0)) (by (with_reducible repeat (first | refine zkn ?_ _ | refine zkd ?_ | refine zka ?_ _)); exact BK102.out) hb); have n2_ := zam (zkb (g := gb109) (o := .cells #[.int .i64 t126, .int .i64 t127] 32 (0, 0)) (by (with_reducible repeat (first | refine zkn ?_ _ | refine zkd ?_ | refine zka ?_ _)); exact BK109.out) hb); have n3_ := zam (zkb (g := gb113) (o := .cells #[.int .i64 t129, .int .i64 t130] 32 (0, 0)) (by (with_reducible repeat (first | refine zkn ?_ _ | refine zkd ?_ | refine zka ?_ _)); exact BK113.out) hb); have n4_ := zam (zkb (g := gb117) (o := .cells #[.int .i64 t114, .int .i64 t115] 32 (0, 0)) (by (with_reducible repeat (first | refine zkn ?_ _ | refine zkd ?_ | refine zka ?_ _)); exact BK117.out) hb); have n5_ := zam (zkb (g := gb121) (o := .cells #[.int .i64 t118, .int .i64 t119] 32 (0, 0)) (by (with_reducible repeat (first | refine zkn ?_ _ | refine zkd ?_ | refine zka ?_ _)); exact BK121.out) hb); have n6_ := zam (zkb (g := gb125) (o := .cells #[.int .i64 t122, .int .i64 t123] 32 (0, 0)) (by (with_reducible repeat (first | refine zkn ?_ _ | refine zkd ?_ | refine zka ?_ _)); exact BK125.out) hb); have n7_ := zam (zkb (g := gb135) (o := .cells #[.int .i64 t132, .int .i64 t133] 32 (0, 0)) (by (with_reducible repeat (first | refine zkn ?_ _ | refine zkd ?_ | refine zka ?_ _)); exact BK135.out) hb); have n8_ := zam (zkb (g := gb139) (o := .cells #[.int .i64 t136, .int .i64 t137] 32 (0, 0)) (by (with_reducible repeat (first | refine zkn ?_ _ | refine zkd ?_ | refine zka ?_ _)); exact BK139.out) hb); have n9_ := zam (zbt (by repeat (first | (with_reducible first | exact HB.out | apply zba | apply zbn | apply zb1 | refine zbs ?_ GE101.out | refine zbs ?_ GE102.out | refine zbs ?_ GE109.out | refine zbs ?_ GE113.out | refine zbs ?_ GE117.out | refine zbs ?_ GE121.out | refine zbs ?_ GE125.out | refine zbs ?_ GE135.out | refine zbs ?_ GE139.out) | exact HB.out)) hb); have n10_ := zam (hbox); have n11_ := zam ((by rw [hg]; exact (zbz (by repeat (first | (with_reducible first | exact HB.out | apply zba | apply zbn | apply zb1 | refine zbs ?_ GE101.out | refine zbs ?_ GE102.out | refine zbs ?_ GE109.out | refine zbs ?_ GE113.out | refine zbs ?_ GE117.out | refine zbs ?_ GE121.out | refine zbs ?_ GE125.out | refine zbs ?_ GE135.out | refine zbs ?_ GE139.out) | exact HB.out))) : w.heap.size ≤ gb143)); have n12_ := zam ((by rw [hg]; exact (zbz (by repeat (first | (with_reducible first | exact HB.out | apply zba | apply zbn | apply zb1 | refine zbs ?_ GE101.out | refine zbs ?_ GE102.out | refine zbs ?_ GE109.out | refine zbs ?_ GE113.out | refine zbs ?_ GE117.out | refine zbs ?_ GE121.out | refine zbs ?_ GE125.out | refine zbs ?_ GE135.out | refine zbs ?_ GE139.out) | exact HB.out))) : w.heap.size ≤ gb143)); have n13_ := zam ((by rw [hg]; exact Nat.ne_of_lt (blk_lt (g := gb101) (o := .cells #[.int .i64 a0_0, .int .i64 a0_1] 32 (0, 0)) (by (with_reducible repeat (first | refine zkn ?_ _ | refine zkd ?_ | refine zka ?_ _)); exact BK101.out)) : gb101 ≠ gb143)); have n14_ := zam ((by rw [hg]; exact Nat.ne_of_gt (blk_lt (g := gb101) (o := .cells #[.int .i64 a0_0, .int .i64 a0_1] 32 (0, 0)) (by (with_reducible repeat (first | refine zkn ?_ _ | refine zkd ?_ | refine zka ?_ _)); exact BK101.out)) : gb143 ≠ gb101)); have n15_ := zam ((by rw [hg]; exact Nat.ne_of_lt (blk_lt (g := gb102) (o := .cells #[.int .i64 a1_0, .int .i64 a1_1] 32 (0, 0)) (by (with_reducible repeat (first | refine zkn ?_ _ | refine zkd ?_ | refine zka ?_ _)); exact BK102.out)) : gb102 ≠ gb143)); have n16_ := zam ((by rw [hg]; exact Nat.ne_of_gt (blk_lt (g := gb102) (o := .cells #[.int .i64 a1_0, .int .i64 a1_1] 32 (0, 0)) (by (with_reducible repeat (first | refine zkn ?_ _ | refine zkd ?_ | refine zka ?_ _)); exact BK102.out)) : gb143 ≠ gb102)); have n17_ := zam ((by rw [hg]; exact Nat.ne_of_lt (blk_lt (g := gb109) (o := .cells #[.int .i64 t126, .int .i64 t127] 32 (0, 0)) (by (with_reducible repeat (first | refine zkn ?_ _ | refine zkd ?_ | refine zka ?_ _)); exact BK109.out)) : gb109 ≠ gb143)); have n18_ := zam ((by rw [hg]; exact Nat.ne_of_gt (blk_lt (g := gb109) (o := .cells #[.int .i64 t126, .int .i64 t127] 32 (0, 0)) (by (with_reducible repeat (first | refine zkn ?_ _ | refine zkd ?_ | refine zka ?_ _)); exact BK109.out)) : gb143 ≠ gb109)); have n19_ := zam ((by rw [hg]; exact Nat.ne_of_lt (blk_lt (g := gb113) (o := .cells #[.int .i64 t129, .int .i64 t130] 32 (0, 0)) (by (with_reducible repeat (first | refine zkn ?_ _ | refine zkd ?_ | refine zka ?_ _)); exact BK113.out)) : gb113 ≠ gb143)); have n20_ := zam ((by rw [hg]; exact Nat.ne_of_gt (blk_lt (g := gb113) (o := .cells #[.int .i64 t129, .int .i64 t130] 32 (0, 0)) (by (with_reducible repeat (first | refine zkn ?_ _ | refine zkd ?_ | refine zka ?_ _)); exact BK113.out)) : gb143 ≠ gb113)); have n21_ := zam ((by rw [hg]; exact Nat.ne_of_lt (blk_lt (g := gb117) (o := .cells #[.int .i64 t114, .int .i64 t115] 32 (0, 0)) (by (with_reducible repeat (first | refine zkn ?_ _ | refine zkd ?_ | refine zka ?_ _)); exact BK117.out)) : gb117 ≠ gb143)); have n22_ := zam ((by rw [hg]; exact Nat.ne_of_gt (blk_lt (g := gb117) (o := .cells #[.int .i64 t114, .int .i64 t115] 32 (0, 0)) (by (with_reducible repeat (first | refine zkn ?_ _ | refine zkd ?_ | refine zka ?_ _)); exact BK117.out)) : gb143 ≠ gb117)); have n23_ := zam ((by rw [hg]; exact Nat.ne_of_lt (blk_lt (g := gb121) (o := .cells #[.int .i64 t118, .int .i64 t119] 32 (0, 0)) (by (with_reducible repeat (first | refine zkn ?_ _ | refine zkd ?_ | refine zka ?_ _)); exact BK121.out)) : gb121 ≠ gb143)); have n24_ := zam ((by rw [hg]; exact Nat.ne_of_gt (blk_lt (g := gb121) (o := .cells #[.int .i64 t118, .int .i64 t119] 32 (0, 0)) (by (with_reducible repeat (first | refine zkn ?_ _ | refine zkd ?_ | refine zka ?_ _)); exact BK121.out)) : gb143 ≠ gb121)); have n25_ := zam ((by rw [hg]; exact Nat.ne_of_lt (blk_lt (g := gb125) (o := .cells #[.int .i64 t122, .int .i64 t123] 32 (0, 0)) (by (with_reducible repeat (first | refine zkn ?_ _ | refine zkd ?_ | refine zka ?_ _)); exact BK125.out)) : gb125 ≠ gb143)); have n26_ := zam ((by rw [hg]; exact Nat.ne_of_gt (blk_lt (g := gb125) (o := .cells #[.int .i64 t122, .int .i64 t123] 32 (0, 0)) (by (with_reducible repeat (first | refine zkn ?_ _ | refine zkd ?_ | refine zka ?_ _)); exact BK125.out)) : gb143 ≠ gb125)); have n27_ := zam ((by rw [hg]; exact Nat.ne_of_lt (blk_lt (g := gb135) (o := .cells #[.int .i64 t132, .int .i64 t133] 32 (0, 0)) (by (with_reducible repeat (first | refine zkn ?_ _ | refine zkd ?_ | refine zka ?_ _)); exact BK135.out)) : gb135 ≠ gb143)); have n28_ := zam ((by rw [hg]; exact Nat.ne_of_gt (blk_lt (g := gb135) (o := .cells #[.int .i64 t132, .int .i64 t133] 32 (0, 0)) (by (with_reducible repeat (first | refine zkn ?_ _ | refine zkd ?_ | refine zka ?_ _)); exact BK135.out)) : gb143 ≠ gb135)); have n29_ := zam ((by rw [hg]; exact Nat.ne_of_lt (blk_lt (g := gb139) (o := .cells #[.int .i64 t136, .int .i64 t137] 32 (0, 0)) (by (with_reducible repeat (first | refine zkn ?_ _ | refine zkd ?_ | refine zka ?_ _)); exact BK139.out)) : gb139 ≠ gb143)); have n30_ := zam ((by rw [hg]; exact Nat.ne_of_gt (blk_lt (g := gb139) (o := .cells #[.int .i64 t136, .int .i64 t137] 32 (0, 0)) (by (with_reducible repeat (first | refine zkn ?_ _ | refine zkd ?_ | refine zka ?_ _)); exact BK139.out)) : gb143 ≠ gb139)); clear BK101; clear BK102; clear BK109; clear BK113; clear BK117; clear BK121; clear BK125; clear BK135; clear BK139; clear HB; have BK101 := n0_; have BK102 := n1_; have BK109 := n2_; have BK113 := n3_; have BK117 := n4_; have BK121 := n5_; have BK125 := n6_; have BK135 := n7_; have BK139 := n8_; have HB := n9_; have BK143 := n10_; have GW143 := n11_; have GE143 := n12_; have NB101_143 := n13_; have NB143_101 := n14_; have NB102_143 := n15_; have NB143_102 := n16_; have NB109_143 := n17_; have NB143_109 := n18_; have NB113_143 := n19_; have NB143_113 := n20_; have NB117_143 := n21_; have NB143_117 := n22_; have NB121_143 := n23_; have NB143_121 := n24_; have NB125_143 := n25_; have NB143_125 := n26_; have NB135_143 := n27_; have NB143_135 := n28_; have NB139_143 := n29_; have NB143_139 := n30_; clear n0_ n1_ n2_ n3_ n4_ n5_ n6_ n7_ n8_ n9_ n10_ n11_ n12_ n13_ n14_ n15_ n16_ n17_ n18_ n19_ n20_ n21_ n22_ n23_ n24_ n25_ n26_ n27_ n28_ n29_ n30_; clear hb hbox hg; have hnb193 := NB143_101.out; have hnc193 := NB101_143.out; have hnb194 := NB143_102.out; have hnc194 := NB102_143.out; have hnb195 := NB143_109.out; have hnc195 := NB109_143.out; have hnb196 := NB143_113.out; have hnc196 := NB113_143.out; have hnb197 := NB143_117.out; have hnc197 := NB117_143.out; have hnb198 := NB143_121.out; have hnc198 := NB121_143.out; have hnb199 := NB143_125.out; have hnc199 := NB125_143.out; have hnb200 := NB143_135.out; have hnc200 := NB135_143.out; have hnb201 := NB143_139.out; have hnc201 := NB139_143.out; have hcz202_0 : w192.cell? ⟨gb143, 0, none⟩ = some (.int .i64 0) := (zkc BK143.out 0).trans rfl; have hcz202_1 : w192.cell? ⟨gb143, 1, none⟩ = some (.int .i64 0) := (zkc BK143.out 1).trans rfl; have hfz202_0 := zkz BK143.out 0; have hfz202_1 := zkz BK143.out 1))
        (try simp only [Act.put, zsa, zsz, zss])
        go_cut [134] (fun v134 wc => ∃ (kq : Nat) (x134_161 : Bool), v134 = .bool x134_161 ∧ Aside0 (isobathlaw01_BoundAlgebra.j3 kq t142 x134_161 a0_0 a0_1 a1_0 a1_1 t140 t141 = some r) ∧ Aside0 (kq ≤ kj86) ∧ Aside0 (wc.heap[gb101]? = some (.cells #[.int .i64 a0_0, .int .i64 a0_1] 32 (0, 0))) ∧ Aside0 (wc.heap[gb102]? = some (.cells #[.int .i64 a1_0, .int .i64 a1_1] 32 (0, 0))) ∧ Aside0 (wc.heap[gb109]? = some (.cells #[.int .i64 t126, .int .i64 t127] 32 (0, 0))) ∧ Aside0 (wc.heap[gb113]? = some (.cells #[.int .i64 t129, .int .i64 t130] 32 (0, 0))) ∧ Aside0 (wc.heap[gb117]? = some (.cells #[.int .i64 t114, .int .i64 t115] 32 (0, 0))) ∧ Aside0 (wc.heap[gb121]? = some (.cells #[.int .i64 t118, .int .i64 t119] 32 (0, 0))) ∧ Aside0 (wc.heap[gb125]? = some (.cells #[.int .i64 t122, .int .i64 t123] 32 (0, 0))) ∧ Aside0 (wc.heap[gb135]? = some (.cells #[.int .i64 t132, .int .i64 t133] 32 (0, 0))) ∧ Aside0 (wc.heap[gb139]? = some (.cells #[.int .i64 t136, .int .i64 t137] 32 (0, 0))) ∧ Aside0 (wc.heap[gb143]? = some (.cells #[.int .i64 t140, .int .i64 t141] 32 (0, 0))) ∧ Aside0 (Below w.heap.size w wc))
        case first =>
         have H := HC162.out
         clear HC162
         by_cases c203 : t138 = 0
         ·rw [if_pos c203] at H
          have c203b0 : (t138 == 0) = true := beq_iff_eq.mpr c203
          have c203b1 : (t138 != 0) = false := bne_eq_false_iff_eq.mpr c203
          clear c203
          (first | rw [c203b0] | (simp only [i64_w, i32_w]; rw [c203b0]) | skip)
          replace H := Option.bind_eq_some_iff.mp H
          obtain ⟨t144, A2040, H⟩ := H
          replace H : (if t144 = true then ((isobathlaw01_inside.f a1_0 a1_1 t136 t137).bind fun t145 => (isobathlaw01_BoundAlgebra.j3 kj86 t142 (!t145) a0_0 a0_1 a1_0 a1_1 t140 t141)) else (none)) = some r := H
          have A204 := zam A2040
          clear A2040
          by_cases c205 : t144 = true
          ·subst c205
           have H1 : ((isobathlaw01_inside.f a1_0 a1_1 t136 t137).bind fun t145 => (isobathlaw01_BoundAlgebra.j3 kj86 t142 (!t145) a0_0 a0_1 a1_0 a1_1 t140 t141)) = some r := by rw [if_pos rfl] at H; exact H
           clear H
           have H := H1
           clear H1
           replace H := Option.bind_eq_some_iff.mp H
           obtain ⟨t145, A2060, H⟩ := H
           replace H : (isobathlaw01_BoundAlgebra.j3 kj86 t142 (!t145) a0_0 a0_1 a1_0 a1_1 t140 t141) = some r := H
           have A206 := zam A2060
           clear A2060
           have H' := zam H
           clear H
           have hnb207 := NB101_102.out
           have hnc207 := NB102_101.out
           have hnb208 := NB101_109.out
           have hnc208 := NB109_101.out
           have hnb209 := NB101_113.out
           have hnc209 := NB113_101.out
           have hnb210 := NB101_117.out
           have hnc210 := NB117_101.out
           have hnb211 := NB101_121.out
           have hnc211 := NB121_101.out
           have hnb212 := NB101_125.out
           have hnc212 := NB125_101.out
           have hnb213 := NB101_135.out
           have hnc213 := NB135_101.out
           have hnb214 := NB101_139.out
           have hnc214 := NB139_101.out
           have hnb215 := NB101_143.out
           have hnc215 := NB143_101.out
           have hcz216_0 : w192.cell? ⟨gb101, 0, none⟩ = some (.int .i64 a0_0) := (zkc BK101.out 0).trans rfl
           have hcz216_1 : w192.cell? ⟨gb101, 1, none⟩ = some (.int .i64 a0_1) := (zkc BK101.out 1).trans rfl
           have hfz216_0 := zkz BK101.out 0
           have hfz216_1 := zkz BK101.out 1
           have hnb217 := NB139_102.out
           have hnc217 := NB102_139.out
           have hnb218 := NB139_109.out
           have hnc218 := NB109_139.out
           have hnb219 := NB139_113.out
           have hnc219 := NB113_139.out
           have hnb220 := NB139_117.out
           have hnc220 := NB117_139.out
           have hnb221 := NB139_121.out
           have hnc221 := NB121_139.out
           have hnb222 := NB139_125.out
           have hnc222 := NB125_139.out
           have hnb223 := NB139_135.out
           have hnc223 := NB135_139.out
           have hnb224 := NB139_143.out
           have hnc224 := NB143_139.out
           have hcz225_0 : w192.cell? ⟨gb139, 0, none⟩ = some (.int .i64 t136) := (zkc BK139.out 0).trans rfl
           have hcz225_1 : w192.cell? ⟨gb139, 1, none⟩ = some (.int .i64 t137) := (zkc BK139.out 1).trans rfl
           have hfz225_0 := zkz BK139.out 0
           have hfz225_1 := zkz BK139.out 1
           go_wp2_with (first | (go_at_call 33; (with_reducible refine (isobathlaw01_inside.calls a0_0 a0_1 t136 t137 true _ A204.out).mono ?_); rintro e w226 ⟨rfl, hb⟩; have n0_ := zam (zkb (g := gb101) (o := .cells #[.int .i64 a0_0, .int .i64 a0_1] 32 (0, 0)) (by (with_reducible repeat (first | refine zkn ?_ _ | refine zkd ?_ | refine zka ?_ _)); refine blk_far ?_ NB101_143.out _; (with_reducible repeat (first | refine zkn ?_ _ | refine zkd ?_ | refine zka ?_ _)); refine blk_far ?_ NB101_143.out _; (with_reducible repeat (first | refine zkn ?_ _ | refine zkd ?_ | refine zka ?_ _)); exact BK101.out) hb); have n1_ := zam (zkb (g := gb102) (o := .cells #[.int .i64 a1_0, .int .i64 a1_1] 32 (0, 0)) (by (with_reducible repeat (first | refine zkn ?_ _ | refine zkd ?_ | refine zka ?_ _)); refine blk_far ?_ NB102_143.out _; (with_reducible repeat (first | refine zkn ?_ _ | refine zkd ?_ | refine zka ?_ _)); refine blk_far ?_ NB102_143.out _; (with_reducible repeat (first | refine zkn ?_ _ | refine zkd ?_ | refine zka ?_ _)); exact BK102.out) hb); have n2_ := zam (zkb (g := gb109) (o := .cells #[.int .i64 t126, .int .i64 t127] 32 (0, 0)) (by (with_reducible repeat (first | refine zkn ?_ _ | refine zkd ?_ | refine zka ?_ _)); refine blk_far ?_ NB109_143.out _; (with_reducible repeat (first | refine zkn ?_ _ | refine zkd ?_ | refine zka ?_ _)); refine blk_far ?_ NB109_143.out _; (with_reducible repeat (first | refine zkn ?_ _ | refine zkd ?_ | refine zka ?_ _)); exact BK109.out) hb); have n3_ := zam (zkb (g := gb113) (o := .cells #[.int .i64 t129, .int .i64 t130] 32 (0, 0)) (by (with_reducible repeat (first | refine zkn ?_ _ | refine zkd ?_ | refine zka ?_ _)); refine blk_far ?_ NB113_143.out _; (with_reducible repeat (first | refine zkn ?_ _ | refine zkd ?_ | refine zka ?_ _)); refine blk_far ?_ NB113_143.out _; (with_reducible repeat (first | refine zkn ?_ _ | refine zkd ?_ | refine zka ?_ _)); exact BK113.out) hb); have n4_ := zam (zkb (g := gb117) (o := .cells #[.int .i64 t114, .int .i64 t115] 32 (0, 0)) (by (with_reducible repeat (first | refine zkn ?_ _ | refine zkd ?_ | refine zka ?_ _)); refine blk_far ?_ NB117_143.out _; (with_reducible repeat (first | refine zkn ?_ _ | refine zkd ?_ | refine zka ?_ _)); refine blk_far ?_ NB117_143.out _; (with_reducible repeat (first | refine zkn ?_ _ | refine zkd ?_ | refine zka ?_ _)); exact BK117.out) hb); have n5_ := zam (zkb (g := gb121) (o := .cells #[.int .i64 t118, .int .i64 t119] 32 (0, 0)) (by (with_reducible repeat (first | refine zkn ?_ _ | refine zkd ?_ | refine zka ?_ _)); refine blk_far ?_ NB121_143.out _; (with_reducible repeat (first | refine zkn ?_ _ | refine zkd ?_ | refine zka ?_ _)); refine blk_far ?_ NB121_143.out _; (with_reducible repeat (first | refine zkn ?_ _ | refine zkd ?_ | refine zka ?_ _)); exact BK121.out) hb); have n6_ := zam (zkb (g := gb125) (o := .cells #[.int .i64 t122, .int .i64 t123] 32 (0, 0)) (by (with_reducible repeat (first | refine zkn ?_ _ | refine zkd ?_ | refine zka ?_ _)); refine blk_far ?_ NB125_143.out _; (with_reducible repeat (first | refine zkn ?_ _ | refine zkd ?_ | refine zka ?_ _)); refine blk_far ?_ NB125_143.out _; (with_reducible repeat (first | refine zkn ?_ _ | refine zkd ?_ | refine zka ?_ _)); exact BK125.out) hb); have n7_ := zam (zkb (g := gb135) (o := .cells #[.int .i64 t132, .int .i64 t133] 32 (0, 0)) (by (with_reducible repeat (first | refine zkn ?_ _ | refine zkd ?_ | refine zka ?_ _)); refine blk_far ?_ NB135_143.out _; (with_reducible repeat (first | refine zkn ?_ _ | refine zkd ?_ | refine zka ?_ _)); refine blk_far ?_ NB135_143.out _; (with_reducible repeat (first | refine zkn ?_ _ | refine zkd ?_ | refine zka ?_ _)); exact BK135.out) hb); have n8_ := zam (zkb (g := gb139) (o := .cells #[.int .i64 t136, .int .i64 t137] 32 (0, 0)) (by (with_reducible repeat (first | refine zkn ?_ _ | refine zkd ?_ | refine zka ?_ _)); refine blk_far ?_ NB139_143.out _; (with_reducible repeat (first | refine zkn ?_ _ | refine zkd ?_ | refine zka ?_ _)); refine blk_far ?_ NB139_143.out _; (with_reducible repeat (first | refine zkn ?_ _ | refine zkd ?_ | refine zka ?_ _)); exact BK139.out) hb); have n9_ := zam (zkb (g := gb143) (o := .cells #[.int .i64 t140, .int .i64 t141] 32 (0, 0)) (by (with_reducible repeat (first | refine zkn ?_ _ | refine zkd ?_ | refine zka ?_ _)); refine blk_put (cs := #[.int .i64 t140, .int .i64 0]) ?_ 1 _ rfl; (with_reducible repeat (first | refine zkn ?_ _ | refine zkd ?_ | refine zka ?_ _)); refine blk_put (cs := #[.int .i64 0, .int .i64 0]) ?_ 0 _ rfl; (with_reducible repeat (first | refine zkn ?_ _ | refine zkd ?_ | refine zka ?_ _)); exact BK143.out) hb); have n10_ := zam (zbt (by repeat (first | (with_reducible first | exact HB.out | apply zba | apply zbn | apply zb1 | refine zbs ?_ GE101.out | refine zbs ?_ GE102.out | refine zbs ?_ GE109.out | refine zbs ?_ GE113.out | refine zbs ?_ GE117.out | refine zbs ?_ GE121.out | refine zbs ?_ GE125.out | refine zbs ?_ GE135.out | refine zbs ?_ GE139.out | refine zbs ?_ GE143.out) | exact HB.out)) hb); clear BK101; clear BK102; clear BK109; clear BK113; clear BK117; clear BK121; clear BK125; clear BK135; clear BK139; clear BK143; clear HB; have BK101 := n0_; have BK102 := n1_; have BK109 := n2_; have BK113 := n3_; have BK117 := n4_; have BK121 := n5_; have BK125 := n6_; have BK135 := n7_; have BK139 := n8_; have BK143 := n9_; have HB := n10_; clear n0_ n1_ n2_ n3_ n4_ n5_ n6_ n7_ n8_ n9_ n10_; (try clear hb); (try clear hb2); (try clear hk); (try clear hi); have hnb227 := NB102_109.out; have hnc227 := NB109_102.out; have hnb228 := NB102_113.out; have hnc228 := NB113_102.out; have hnb229 := NB102_117.out; have hnc229 := NB117_102.out; have hnb230 := NB102_121.out; have hnc230 := NB121_102.out; have hnb231 := NB102_125.out; have hnc231 := NB125_102.out; have hnb232 := NB102_135.out; have hnc232 := NB135_102.out; have hnb233 := NB102_143.out; have hnc233 := NB143_102.out; have hcz234_0 : w226.cell? ⟨gb102, 0, none⟩ = some (.int .i64 a1_0) := (zkc BK102.out 0).trans rfl; have hcz234_1 : w226.cell? ⟨gb102, 1, none⟩ = some (.int .i64 a1_1) := (zkc BK102.out 1).trans rfl; have hfz234_0 := zkz BK102.out 0; have hfz234_1 := zkz BK102.out 1; have hcz235_0 : w226.cell? ⟨gb139, 0, none⟩ = some (.int .i64 t136) := (zkc BK139.out 0).trans rfl; have hcz235_1 : w226.cell? ⟨gb139, 1, none⟩ = some (.int .i64 t137) := (zkc BK139.out 1).trans rfl; have hfz235_0 := zkz BK139.out 0; have hfz235_1 := zkz BK139.out 1) | (go_at_call 33; (with_reducible refine (isobathlaw01_inside.calls a1_0 a1_1 t136 t137 t145 _ A206.out).mono ?_); rintro e w236 ⟨rfl, hb⟩; have n0_ := zam (zkb (g := gb101) (o := .cells #[.int .i64 a0_0, .int .i64 a0_1] 32 (0, 0)) (by (with_reducible repeat (first | refine zkn ?_ _ | refine zkd ?_ | refine zka ?_ _)); exact BK101.out) hb); have n1_ := zam (zkb (g := gb102) (o := .cells #[.int .i64 a1_0, .int .i64 a1_1] 32 (0, 0)) (by (with_reducible repeat (first | refine zkn ?_ _ | refine zkd ?_ | refine zka ?_ _)); exact BK102.out) hb); have n2_ := zam (zkb (g := gb109) (o := .cells #[.int .i64 t126, .int .i64 t127] 32 (0, 0)) (by (with_reducible repeat (first | refine zkn ?_ _ | refine zkd ?_ | refine zka ?_ _)); exact BK109.out) hb); have n3_ := zam (zkb (g := gb113) (o := .cells #[.int .i64 t129, .int .i64 t130] 32 (0, 0)) (by (with_reducible repeat (first | refine zkn ?_ _ | refine zkd ?_ | refine zka ?_ _)); exact BK113.out) hb); have n4_ := zam (zkb (g := gb117) (o := .cells #[.int .i64 t114, .int .i64 t115] 32 (0, 0)) (by (with_reducible repeat (first | refine zkn ?_ _ | refine zkd ?_ | refine zka ?_ _)); exact BK117.out) hb); have n5_ := zam (zkb (g := gb121) (o := .cells #[.int .i64 t118, .int .i64 t119] 32 (0, 0)) (by (with_reducible repeat (first | refine zkn ?_ _ | refine zkd ?_ | refine zka ?_ _)); exact BK121.out) hb); have n6_ := zam (zkb (g := gb125) (o := .cells #[.int .i64 t122, .int .i64 t123] 32 (0, 0)) (by (with_reducible repeat (first | refine zkn ?_ _ | refine zkd ?_ | refine zka ?_ _)); exact BK125.out) hb); have n7_ := zam (zkb (g := gb135) (o := .cells #[.int .i64 t132, .int .i64 t133] 32 (0, 0)) (by (with_reducible repeat (first | refine zkn ?_ _ | refine zkd ?_ | refine zka ?_ _)); exact BK135.out) hb); have n8_ := zam (zkb (g := gb139) (o := .cells #[.int .i64 t136, .int .i64 t137] 32 (0, 0)) (by (with_reducible repeat (first | refine zkn ?_ _ | refine zkd ?_ | refine zka ?_ _)); exact BK139.out) hb); have n9_ := zam (zkb (g := gb143) (o := .cells #[.int .i64 t140, .int .i64 t141] 32 (0, 0)) (by (with_reducible repeat (first | refine zkn ?_ _ | refine zkd ?_ | refine zka ?_ _)); exact BK143.out) hb); have n10_ := zam (zbt (by repeat (first | (with_reducible first | exact HB.out | apply zba | apply zbn | apply zb1 | refine zbs ?_ GE101.out | refine zbs ?_ GE102.out | refine zbs ?_ GE109.out | refine zbs ?_ GE113.out | refine zbs ?_ GE117.out | refine zbs ?_ GE121.out | refine zbs ?_ GE125.out | refine zbs ?_ GE135.out | refine zbs ?_ GE139.out | refine zbs ?_ GE143.out) | exact HB.out)) hb); clear BK101; clear BK102; clear BK109; clear BK113; clear BK117; clear BK121; clear BK125; clear BK135; clear BK139; clear BK143; clear HB; have BK101 := n0_; have BK102 := n1_; have BK109 := n2_; have BK113 := n3_; have BK117 := n4_; have BK121 := n5_; have BK125 := n6_; have BK135 := n7_; have BK139 := n8_; have BK143 := n9_; have HB := n10_; clear n0_ n1_ n2_ n3_ n4_ n5_ n6_ n7_ n8_ n9_ n10_; (try clear hb); (try clear hb2); (try clear hk); (try clear hi)))
           go_meet
           case rel => exact ⟨_, (!t145), (by first | rfl | (simp; done) | (simp [*]; done)), H', ⟨by have := HJ2.out; have := HJ23.out; have := HJ86.out; first | omega | exact Nat.le_refl _⟩, ⟨by (with_reducible repeat (first | refine zkn ?_ _ | refine zkd ?_ | refine zka ?_ _)); exact BK101.out⟩, ⟨by (with_reducible repeat (first | refine zkn ?_ _ | refine zkd ?_ | refine zka ?_ _)); exact BK102.out⟩, ⟨by (with_reducible repeat (first | refine zkn ?_ _ | refine zkd ?_ | refine zka ?_ _)); exact BK109.out⟩, ⟨by (with_reducible repeat (first | refine zkn ?_ _ | refine zkd ?_ | refine zka ?_ _)); exact BK113.out⟩, ⟨by (with_reducible repeat (first | refine zkn ?_ _ | refine zkd ?_ | refine zka ?_ _)); exact BK117.out⟩, ⟨by (with_reducible repeat (first | refine zkn ?_ _ | refine zkd ?_ | refine zka ?_ _)); exact BK121.out⟩, ⟨by (with_reducible repeat (first | refine zkn ?_ _ | refine zkd ?_ | refine zka ?_ _)); exact BK125.out⟩, ⟨by (with_reducible repeat (first | refine zkn ?_ _ | refine zkd ?_ | refine zka ?_ _)); exact BK135.out⟩, ⟨by (with_reducible repeat (first | refine zkn ?_ _ | refine zkd ?_ | refine zka ?_ _)); exact BK139.out⟩, ⟨by (with_reducible repeat (first | refine zkn ?_ _ | refine zkd ?_ | refine zka ?_ _)); exact BK143.out⟩, ⟨by repeat (first | (with_reducible first | exact HB.out | apply zba | apply zbn | apply zb1 | refine zbs ?_ GE101.out | refine zbs ?_ GE102.out | refine zbs ?_ GE109.out | refine zbs ?_ GE113.out | refine zbs ?_ GE117.out | refine zbs ?_ GE121.out | refine zbs ?_ GE125.out | refine zbs ?_ GE135.out | refine zbs ?_ GE139.out | refine zbs ?_ GE143.out) | exact HB.out)⟩⟩
          replace c205 := Bool.eq_false_iff.mpr c205
          subst c205
          have H1 : (none) = some r := by rw [if_neg (show ¬ (false = true) by decide)] at H; exact H
          clear H
          have H := H1
          clear H1
          exact absurd H (by simp)
         rw [if_neg c203] at H
         exact absurd H (by simp)
        case rest =>
         clear HC162
         try clear c1
         try clear c2
         try clear p2
         try clear c3
         try clear c4
         try clear c5
         try clear c6
         try clear c7
         try clear c8
         try clear c9
         try clear c10
         try clear c11
         try clear c12
         try clear c13
         try clear c14
         try clear c15
         try clear c16
         try clear c17
         try clear c18
         try clear c19
         try clear c20
         try clear c21
         try clear c22
         try clear c23
         try clear c25
         try clear c27
         try clear c28
         try clear c29
         try clear c30
         try clear c31
         try clear c32
         try clear c37
         try clear c38
         try clear c39
         try clear c45
         try clear c46
         try clear c47
         try clear c48
         try clear c54
         try clear c55
         try clear c56
         try clear c57
         try clear c58
         try clear c60
         try clear c60b0
         try clear c61
         try clear c61b0
         try clear c61b1
         try clear c62
         try clear c62b0
         try clear c63
         try clear c64
         try clear c65
         try clear c66
         try clear c67
         try clear c69
         try clear c70
         try clear c71
         try clear c72
         try clear c74
         try clear c75
         try clear c76
         try clear c78
         try clear c79
         try clear c81
         try clear c83
         try clear c83b0
         try clear c83b1
         try clear c88
         try clear c89
         try clear c90
         try clear c91
         try clear c92
         try clear c96
         try clear c97
         try clear c98
         try clear c99
         try clear c100
         try clear c101
         try clear c103
         try clear c104
         try clear c105
         try clear c106
         try clear c109
         try clear c110
         try clear c111
         try clear c116
         try clear c117
         try clear c122
         try clear c123
         try clear c124
         try clear c125
         try clear c126
         try clear c127
         try clear c128
         try clear c130
         try clear c130b0
         try clear c131
         try clear c131b0
         try clear c131b1
         try clear c132
         try clear c132b0
         try clear c132b1
         try clear c133
         try clear c134
         try clear c135
         try clear c136
         try clear c137
         try clear c138
         try clear c139
         try clear c141
         try clear c142
         try clear c143
         try clear c144
         try clear c145
         try clear c146
         try clear c148
         try clear c149
         try clear c150
         try clear c151
         try clear c152
         try clear c154
         try clear c155
         try clear c156
         try clear c157
         try clear c159
         try clear c163
         try clear c164
         try clear c165
         try clear c166
         try clear c167
         try clear c168
         try clear c169
         try clear c171
         try clear c172
         try clear c173
         try clear c174
         try clear c175
         try clear c176
         try clear c180
         try clear c181
         try clear c182
         try clear c183
         try clear c184
         try clear c185
         try clear c186
         try clear c187
         try clear c193
         try clear c194
         try clear c195
         try clear c196
         try clear c197
         try clear c198
         try clear c199
         try clear c200
         try clear c201
         try clear c203
         try clear c203b0
         try clear c203b1
         try clear c205
         try clear c207
         try clear c208
         try clear c209
         try clear c210
         try clear c211
         try clear c212
         try clear c213
         try clear c214
         try clear c215
         try clear c217
         try clear c218
         try clear c219
         try clear c220
         try clear c221
         try clear c222
         try clear c223
         try clear c224
         try clear c227
         try clear c228
         try clear c229
         try clear c230
         try clear c231
         try clear c232
         try clear c233
         try clear hcz102_0
         try clear hcz102_1
         try clear hcz107_0
         try clear hcz107_1
         try clear hcz10_0
         try clear hcz10_1
         try clear hcz112_0
         try clear hcz112_1
         try clear hcz113_0
         try clear hcz113_1
         try clear hcz114_0
         try clear hcz114_1
         try clear hcz118_0
         try clear hcz118_1
         try clear hcz119_0
         try clear hcz119_1
         try clear hcz129_0
         try clear hcz129_1
         try clear hcz12_0
         try clear hcz12_1
         try clear hcz140_0
         try clear hcz140_1
         try clear hcz147_0
         try clear hcz147_1
         try clear hcz153_0
         try clear hcz153_1
         try clear hcz158_0
         try clear hcz158_1
         try clear hcz15_0
         try clear hcz15_1
         try clear hcz170_0
         try clear hcz170_1
         try clear hcz177_0
         try clear hcz177_1
         try clear hcz188_0
         try clear hcz188_1
         try clear hcz189_0
         try clear hcz189_1
         try clear hcz190_0
         try clear hcz190_1
         try clear hcz202_0
         try clear hcz202_1
         try clear hcz216_0
         try clear hcz216_1
         try clear hcz225_0
         try clear hcz225_1
         try clear hcz234_0
         try clear hcz234_1
         try clear hcz235_0
         try clear hcz235_1
         try clear hcz26_0
         try clear hcz26_1
         try clear hcz27_0
         try clear hcz27_1
         try clear hcz32_0
         try clear hcz32_1
         try clear hcz33_0
         try clear hcz33_1
         try clear hcz34_0
         try clear hcz34_1
         try clear hcz40_0
         try clear hcz40_1
         try clear hcz41_0
         try clear hcz41_1
         try clear hcz42_0
         try clear hcz42_1
         try clear hcz49_0
         try clear hcz49_1
         try clear hcz50_0
         try clear hcz50_1
         try clear hcz51_0
         try clear hcz51_1
         try clear hcz59_0
         try clear hcz59_1
         try clear hcz68_0
         try clear hcz68_1
         try clear hcz73_0
         try clear hcz73_1
         try clear hcz77_0
         try clear hcz77_1
         try clear hcz80_0
         try clear hcz80_1
         try clear hcz93_0
         try clear hcz93_1
         try clear hfz102_0
         try clear hfz102_1
         try clear hfz107_0
         try clear hfz107_1
         try clear hfz10_0
         try clear hfz10_1
         try clear hfz112_0
         try clear hfz112_1
         try clear hfz113_0
         try clear hfz113_1
         try clear hfz114_0
         try clear hfz114_1
         try clear hfz118_0
         try clear hfz118_1
         try clear hfz119_0
         try clear hfz119_1
         try clear hfz129_0
         try clear hfz129_1
         try clear hfz12_0
         try clear hfz12_1
         try clear hfz140_0
         try clear hfz140_1
         try clear hfz147_0
         try clear hfz147_1
         try clear hfz153_0
         try clear hfz153_1
         try clear hfz158_0
         try clear hfz158_1
         try clear hfz15_0
         try clear hfz15_1
         try clear hfz170_0
         try clear hfz170_1
         try clear hfz177_0
         try clear hfz177_1
         try clear hfz188_0
         try clear hfz188_1
         try clear hfz189_0
         try clear hfz189_1
         try clear hfz190_0
         try clear hfz190_1
         try clear hfz202_0
         try clear hfz202_1
         try clear hfz216_0
         try clear hfz216_1
         try clear hfz225_0
         try clear hfz225_1
         try clear hfz234_0
         try clear hfz234_1
         try clear hfz235_0
         try clear hfz235_1
         try clear hfz26_0
         try clear hfz26_1
         try clear hfz27_0
         try clear hfz27_1
         try clear hfz32_0
         try clear hfz32_1
         try clear hfz33_0
         try clear hfz33_1
         try clear hfz34_0
         try clear hfz34_1
         try clear hfz40_0
         try clear hfz40_1
         try clear hfz41_0
         try clear hfz41_1
         try clear hfz42_0
         try clear hfz42_1
         try clear hfz49_0
         try clear hfz49_1
         try clear hfz50_0
         try clear hfz50_1
         try clear hfz51_0
         try clear hfz51_1
         try clear hfz59_0
         try clear hfz59_1
         try clear hfz68_0
         try clear hfz68_1
         try clear hfz73_0
         try clear hfz73_1
         try clear hfz77_0
         try clear hfz77_1
         try clear hfz80_0
         try clear hfz80_1
         try clear hfz93_0
         try clear hfz93_1
         try clear p2
         obtain ⟨kq, x134_161, rfl, HA, HJ161, BK101, BK102, BK109, BK113, BK117, BK121, BK125, BK135, BK139, BK143, HB⟩ := hcut
         cases kq with
         | zero => exact absurd HA.out (by simp [isobathlaw01_BoundAlgebra.j3])
         | succ kj161 =>
          have H := HA.out
          clear HA
          simp only [isobathlaw01_BoundAlgebra.j3] at H
          by_cases c237 : x134_161 = true
          ·subst c237
           have H1 : (none) = some r := by rw [if_pos rfl] at H; exact H
           clear H
           have H := H1
           clear H1
           exact absurd H (by simp)
          replace c237 := Bool.eq_false_iff.mpr c237
          subst c237
          have H1 : (if t142 = 5 then ((isobathlaw01_Works.f kj161).bind fun t146 => (some t146)) else (if t142 = 0 then ((isobathlaw01_inside.f t140 t141 a0_0 a0_1).bind fun t147 => (if t147 = true then ((isobathlaw01_inside.f t140 t141 a1_0 a1_1).bind fun t148 => (if t148 = true then ((isobathlaw01_Works.f kj161).bind fun t149 => (some t149)) else (none))) else (none))) else (none))) = some r := by rw [if_neg (show ¬ (false = true) by decide)] at H; exact H
          clear H
          have H := H1
          clear H1
          by_cases c238 : t142 = 5
          ·rw [if_pos c238] at H
           have c238b0 : (t142 == 5) = true := beq_iff_eq.mpr c238
           have c238b1 : (t142 != 5) = false := bne_eq_false_iff_eq.mpr c238
           clear c238
           replace H := Option.bind_eq_some_iff.mp H
           obtain ⟨t146, A2390, H⟩ := H
           replace H : (some t146) = some r := H
           have A239 := zam A2390
           clear A2390
           obtain rfl := zsi H
           go_wp2_with (first | (go_at_call 18; (with_reducible refine (isobathlaw01_Works.calls kj161  t146 _ A239.out).mono ?_); rintro e w240 ⟨rfl, hb⟩; have n0_ := zam (zkb (g := gb101) (o := .cells #[.int .i64 a0_0, .int .i64 a0_1] 32 (0, 0)) (by (with_reducible repeat (first | refine zkn ?_ _ | refine zkd ?_ | refine zka ?_ _)); exact BK101.out) hb); have n1_ := zam (zkb (g := gb102) (o := .cells #[.int .i64 a1_0, .int .i64 a1_1] 32 (0, 0)) (by (with_reducible repeat (first | refine zkn ?_ _ | refine zkd ?_ | refine zka ?_ _)); exact BK102.out) hb); have n2_ := zam (zkb (g := gb109) (o := .cells #[.int .i64 t126, .int .i64 t127] 32 (0, 0)) (by (with_reducible repeat (first | refine zkn ?_ _ | refine zkd ?_ | refine zka ?_ _)); exact BK109.out) hb); have n3_ := zam (zkb (g := gb113) (o := .cells #[.int .i64 t129, .int .i64 t130] 32 (0, 0)) (by (with_reducible repeat (first | refine zkn ?_ _ | refine zkd ?_ | refine zka ?_ _)); exact BK113.out) hb); have n4_ := zam (zkb (g := gb117) (o := .cells #[.int .i64 t114, .int .i64 t115] 32 (0, 0)) (by (with_reducible repeat (first | refine zkn ?_ _ | refine zkd ?_ | refine zka ?_ _)); exact BK117.out) hb); have n5_ := zam (zkb (g := gb121) (o := .cells #[.int .i64 t118, .int .i64 t119] 32 (0, 0)) (by (with_reducible repeat (first | refine zkn ?_ _ | refine zkd ?_ | refine zka ?_ _)); exact BK121.out) hb); have n6_ := zam (zkb (g := gb125) (o := .cells #[.int .i64 t122, .int .i64 t123] 32 (0, 0)) (by (with_reducible repeat (first | refine zkn ?_ _ | refine zkd ?_ | refine zka ?_ _)); exact BK125.out) hb); have n7_ := zam (zkb (g := gb135) (o := .cells #[.int .i64 t132, .int .i64 t133] 32 (0, 0)) (by (with_reducible repeat (first | refine zkn ?_ _ | refine zkd ?_ | refine zka ?_ _)); exact BK135.out) hb); have n8_ := zam (zkb (g := gb139) (o := .cells #[.int .i64 t136, .int .i64 t137] 32 (0, 0)) (by (with_reducible repeat (first | refine zkn ?_ _ | refine zkd ?_ | refine zka ?_ _)); exact BK139.out) hb); have n9_ := zam (zkb (g := gb143) (o := .cells #[.int .i64 t140, .int .i64 t141] 32 (0, 0)) (by (with_reducible repeat (first | refine zkn ?_ _ | refine zkd ?_ | refine zka ?_ _)); exact BK143.out) hb); have n10_ := zam (zbt (by repeat (first | (with_reducible first | exact HB.out | apply zba | apply zbn | apply zb1 | refine zbs ?_ GE101.out | refine zbs ?_ GE102.out | refine zbs ?_ GE109.out | refine zbs ?_ GE113.out | refine zbs ?_ GE117.out | refine zbs ?_ GE121.out | refine zbs ?_ GE125.out | refine zbs ?_ GE135.out | refine zbs ?_ GE139.out | refine zbs ?_ GE143.out) | exact HB.out)) hb); clear BK101; clear BK102; clear BK109; clear BK113; clear BK117; clear BK121; clear BK125; clear BK135; clear BK139; clear BK143; clear HB; have BK101 := n0_; have BK102 := n1_; have BK109 := n2_; have BK113 := n3_; have BK117 := n4_; have BK121 := n5_; have BK125 := n6_; have BK135 := n7_; have BK139 := n8_; have BK143 := n9_; have HB := n10_; clear n0_ n1_ n2_ n3_ n4_ n5_ n6_ n7_ n8_ n9_ n10_; (try clear hb); (try clear hb2); (try clear hk); (try clear hi)))
           go_ret
           exact ⟨by first | rfl | (simp [errW_none, errW_some] <;> rfl) | (simp [*, errW_none, errW_some] <;> rfl), by repeat (first | (with_reducible first | exact HB.out | apply zba | apply zbn | apply zb1 | refine zbs ?_ GE101.out | refine zbs ?_ GE102.out | refine zbs ?_ GE109.out | refine zbs ?_ GE113.out | refine zbs ?_ GE117.out | refine zbs ?_ GE121.out | refine zbs ?_ GE125.out | refine zbs ?_ GE135.out | refine zbs ?_ GE139.out | refine zbs ?_ GE143.out) | exact HB.out)⟩
          rw [if_neg c238] at H
          have c238b0 : (t142 == 5) = false := beq_eq_false_iff_ne.mpr c238
          have c238b1 : (t142 != 5) = true := bne_iff_ne.mpr c238
          by_cases c241 : t142 = 0
          ·rw [if_pos c241] at H
           have c241b0 : (t142 == 0) = true := beq_iff_eq.mpr c241
           have c241b1 : (t142 != 0) = false := bne_eq_false_iff_eq.mpr c241
           clear c241
           replace H := Option.bind_eq_some_iff.mp H
           obtain ⟨t147, A2420, H⟩ := H
           replace H : (if t147 = true then ((isobathlaw01_inside.f t140 t141 a1_0 a1_1).bind fun t148 => (if t148 = true then ((isobathlaw01_Works.f kj161).bind fun t149 => (some t149)) else (none))) else (none)) = some r := H
           have A242 := zam A2420
           clear A2420
           by_cases c243 : t147 = true
           ·subst c243
            have H1 : ((isobathlaw01_inside.f t140 t141 a1_0 a1_1).bind fun t148 => (if t148 = true then ((isobathlaw01_Works.f kj161).bind fun t149 => (some t149)) else (none))) = some r := by rw [if_pos rfl] at H; exact H
            clear H
            have H := H1
            clear H1
            replace H := Option.bind_eq_some_iff.mp H
            obtain ⟨t148, A2440, H⟩ := H
            replace H : (if t148 = true then ((isobathlaw01_Works.f kj161).bind fun t149 => (some t149)) else (none)) = some r := H
            have A244 := zam A2440
            clear A2440
            by_cases c245 : t148 = true
            ·subst c245
             have H1 : ((isobathlaw01_Works.f kj161).bind fun t149 => (some t149)) = some r := by rw [if_pos rfl] at H; exact H
             clear H
             have H := H1
             clear H1
             replace H := Option.bind_eq_some_iff.mp H
             obtain ⟨t149, A2460, H⟩ := H
             replace H : (some t149) = some r := H
             have A246 := zam A2460
             clear A2460
             obtain rfl := zsi H
             have hnb247 := NB143_101.out
             have hnc247 := NB101_143.out
             have hnb248 := NB143_102.out
             have hnc248 := NB102_143.out
             have hnb249 := NB143_109.out
             have hnc249 := NB109_143.out
             have hnb250 := NB143_113.out
             have hnc250 := NB113_143.out
             have hnb251 := NB143_117.out
             have hnc251 := NB117_143.out
             have hnb252 := NB143_121.out
             have hnc252 := NB121_143.out
             have hnb253 := NB143_125.out
             have hnc253 := NB125_143.out
             have hnb254 := NB143_135.out
             have hnc254 := NB135_143.out
             have hnb255 := NB143_139.out
             have hnc255 := NB139_143.out
             have hcz256_0 : wc.cell? ⟨gb143, 0, none⟩ = some (.int .i64 t140) := (zkc BK143.out 0).trans rfl
             have hcz256_1 : wc.cell? ⟨gb143, 1, none⟩ = some (.int .i64 t141) := (zkc BK143.out 1).trans rfl
             have hfz256_0 := zkz BK143.out 0
             have hfz256_1 := zkz BK143.out 1
             have hnb257 := NB101_102.out
             have hnc257 := NB102_101.out
             have hnb258 := NB101_109.out
             have hnc258 := NB109_101.out
             have hnb259 := NB101_113.out
             have hnc259 := NB113_101.out
             have hnb260 := NB101_117.out
             have hnc260 := NB117_101.out
             have hnb261 := NB101_121.out
             have hnc261 := NB121_101.out
             have hnb262 := NB101_125.out
             have hnc262 := NB125_101.out
             have hnb263 := NB101_135.out
             have hnc263 := NB135_101.out
             have hnb264 := NB101_139.out
             have hnc264 := NB139_101.out
             have hcz265_0 : wc.cell? ⟨gb101, 0, none⟩ = some (.int .i64 a0_0) := (zkc BK101.out 0).trans rfl
             have hcz265_1 : wc.cell? ⟨gb101, 1, none⟩ = some (.int .i64 a0_1) := (zkc BK101.out 1).trans rfl
             have hfz265_0 := zkz BK101.out 0
             have hfz265_1 := zkz BK101.out 1
             go_wp2_with (first | (go_at_call 33; (with_reducible refine (isobathlaw01_inside.calls t140 t141 a0_0 a0_1 true _ A242.out).mono ?_); rintro e w266 ⟨rfl, hb⟩; have n0_ := zam (zkb (g := gb101) (o := .cells #[.int .i64 a0_0, .int .i64 a0_1] 32 (0, 0)) (by (with_reducible repeat (first | refine zkn ?_ _ | refine zkd ?_ | refine zka ?_ _)); exact BK101.out) hb); have n1_ := zam (zkb (g := gb102) (o := .cells #[.int .i64 a1_0, .int .i64 a1_1] 32 (0, 0)) (by (with_reducible repeat (first | refine zkn ?_ _ | refine zkd ?_ | refine zka ?_ _)); exact BK102.out) hb); have n2_ := zam (zkb (g := gb109) (o := .cells #[.int .i64 t126, .int .i64 t127] 32 (0, 0)) (by (with_reducible repeat (first | refine zkn ?_ _ | refine zkd ?_ | refine zka ?_ _)); exact BK109.out) hb); have n3_ := zam (zkb (g := gb113) (o := .cells #[.int .i64 t129, .int .i64 t130] 32 (0, 0)) (by (with_reducible repeat (first | refine zkn ?_ _ | refine zkd ?_ | refine zka ?_ _)); exact BK113.out) hb); have n4_ := zam (zkb (g := gb117) (o := .cells #[.int .i64 t114, .int .i64 t115] 32 (0, 0)) (by (with_reducible repeat (first | refine zkn ?_ _ | refine zkd ?_ | refine zka ?_ _)); exact BK117.out) hb); have n5_ := zam (zkb (g := gb121) (o := .cells #[.int .i64 t118, .int .i64 t119] 32 (0, 0)) (by (with_reducible repeat (first | refine zkn ?_ _ | refine zkd ?_ | refine zka ?_ _)); exact BK121.out) hb); have n6_ := zam (zkb (g := gb125) (o := .cells #[.int .i64 t122, .int .i64 t123] 32 (0, 0)) (by (with_reducible repeat (first | refine zkn ?_ _ | refine zkd ?_ | refine zka ?_ _)); exact BK125.out) hb); have n7_ := zam (zkb (g := gb135) (o := .cells #[.int .i64 t132, .int .i64 t133] 32 (0, 0)) (by (with_reducible repeat (first | refine zkn ?_ _ | refine zkd ?_ | refine zka ?_ _)); exact BK135.out) hb); have n8_ := zam (zkb (g := gb139) (o := .cells #[.int .i64 t136, .int .i64 t137] 32 (0, 0)) (by (with_reducible repeat (first | refine zkn ?_ _ | refine zkd ?_ | refine zka ?_ _)); exact BK139.out) hb); have n9_ := zam (zkb (g := gb143) (o := .cells #[.int .i64 t140, .int .i64 t141] 32 (0, 0)) (by (with_reducible repeat (first | refine zkn ?_ _ | refine zkd ?_ | refine zka ?_ _)); exact BK143.out) hb); have n10_ := zam (zbt (by repeat (first | (with_reducible first | exact HB.out | apply zba | apply zbn | apply zb1 | refine zbs ?_ GE101.out | refine zbs ?_ GE102.out | refine zbs ?_ GE109.out | refine zbs ?_ GE113.out | refine zbs ?_ GE117.out | refine zbs ?_ GE121.out | refine zbs ?_ GE125.out | refine zbs ?_ GE135.out | refine zbs ?_ GE139.out | refine zbs ?_ GE143.out) | exact HB.out)) hb); clear BK101; clear BK102; clear BK109; clear BK113; clear BK117; clear BK121; clear BK125; clear BK135; clear BK139; clear BK143; clear HB; have BK101 := n0_; have BK102 := n1_; have BK109 := n2_; have BK113 := n3_; have BK117 := n4_; have BK121 := n5_; have BK125 := n6_; have BK135 := n7_; have BK139 := n8_; have BK143 := n9_; have HB := n10_; clear n0_ n1_ n2_ n3_ n4_ n5_ n6_ n7_ n8_ n9_ n10_; (try clear hb); (try clear hb2); (try clear hk); (try clear hi); have hcz267_0 : w266.cell? ⟨gb143, 0, none⟩ = some (.int .i64 t140) := (zkc BK143.out 0).trans rfl; have hcz267_1 : w266.cell? ⟨gb143, 1, none⟩ = some (.int .i64 t141) := (zkc BK143.out 1).trans rfl; have hfz267_0 := zkz BK143.out 0; have hfz267_1 := zkz BK143.out 1; have hnb268 := NB102_109.out; have hnc268 := NB109_102.out; have hnb269 := NB102_113.out; have hnc269 := NB113_102.out; have hnb270 := NB102_117.out; have hnc270 := NB117_102.out; have hnb271 := NB102_121.out; have hnc271 := NB121_102.out; have hnb272 := NB102_125.out; have hnc272 := NB125_102.out; have hnb273 := NB102_135.out; have hnc273 := NB135_102.out; have hnb274 := NB102_139.out; have hnc274 := NB139_102.out; have hcz275_0 : w266.cell? ⟨gb102, 0, none⟩ = some (.int .i64 a1_0) := (zkc BK102.out 0).trans rfl; have hcz275_1 : w266.cell? ⟨gb102, 1, none⟩ = some (.int .i64 a1_1) := (zkc BK102.out 1).trans rfl; have hfz275_0 := zkz BK102.out 0; have hfz275_1 := zkz BK102.out 1) | (go_at_call 33; (with_reducible refine (isobathlaw01_inside.calls t140 t141 a1_0 a1_1 true _ A244.out).mono ?_); rintro e w276 ⟨rfl, hb⟩; have n0_ := zam (zkb (g := gb101) (o := .cells #[.int .i64 a0_0, .int .i64 a0_1] 32 (0, 0)) (by (with_reducible repeat (first | refine zkn ?_ _ | refine zkd ?_ | refine zka ?_ _)); exact BK101.out) hb); have n1_ := zam (zkb (g := gb102) (o := .cells #[.int .i64 a1_0, .int .i64 a1_1] 32 (0, 0)) (by (with_reducible repeat (first | refine zkn ?_ _ | refine zkd ?_ | refine zka ?_ _)); exact BK102.out) hb); have n2_ := zam (zkb (g := gb109) (o := .cells #[.int .i64 t126, .int .i64 t127] 32 (0, 0)) (by (with_reducible repeat (first | refine zkn ?_ _ | refine zkd ?_ | refine zka ?_ _)); exact BK109.out) hb); have n3_ := zam (zkb (g := gb113) (o := .cells #[.int .i64 t129, .int .i64 t130] 32 (0, 0)) (by (with_reducible repeat (first | refine zkn ?_ _ | refine zkd ?_ | refine zka ?_ _)); exact BK113.out) hb); have n4_ := zam (zkb (g := gb117) (o := .cells #[.int .i64 t114, .int .i64 t115] 32 (0, 0)) (by (with_reducible repeat (first | refine zkn ?_ _ | refine zkd ?_ | refine zka ?_ _)); exact BK117.out) hb); have n5_ := zam (zkb (g := gb121) (o := .cells #[.int .i64 t118, .int .i64 t119] 32 (0, 0)) (by (with_reducible repeat (first | refine zkn ?_ _ | refine zkd ?_ | refine zka ?_ _)); exact BK121.out) hb); have n6_ := zam (zkb (g := gb125) (o := .cells #[.int .i64 t122, .int .i64 t123] 32 (0, 0)) (by (with_reducible repeat (first | refine zkn ?_ _ | refine zkd ?_ | refine zka ?_ _)); exact BK125.out) hb); have n7_ := zam (zkb (g := gb135) (o := .cells #[.int .i64 t132, .int .i64 t133] 32 (0, 0)) (by (with_reducible repeat (first | refine zkn ?_ _ | refine zkd ?_ | refine zka ?_ _)); exact BK135.out) hb); have n8_ := zam (zkb (g := gb139) (o := .cells #[.int .i64 t136, .int .i64 t137] 32 (0, 0)) (by (with_reducible repeat (first | refine zkn ?_ _ | refine zkd ?_ | refine zka ?_ _)); exact BK139.out) hb); have n9_ := zam (zkb (g := gb143) (o := .cells #[.int .i64 t140, .int .i64 t141] 32 (0, 0)) (by (with_reducible repeat (first | refine zkn ?_ _ | refine zkd ?_ | refine zka ?_ _)); exact BK143.out) hb); have n10_ := zam (zbt (by repeat (first | (with_reducible first | exact HB.out | apply zba | apply zbn | apply zb1 | refine zbs ?_ GE101.out | refine zbs ?_ GE102.out | refine zbs ?_ GE109.out | refine zbs ?_ GE113.out | refine zbs ?_ GE117.out | refine zbs ?_ GE121.out | refine zbs ?_ GE125.out | refine zbs ?_ GE135.out | refine zbs ?_ GE139.out | refine zbs ?_ GE143.out) | exact HB.out)) hb); clear BK101; clear BK102; clear BK109; clear BK113; clear BK117; clear BK121; clear BK125; clear BK135; clear BK139; clear BK143; clear HB; have BK101 := n0_; have BK102 := n1_; have BK109 := n2_; have BK113 := n3_; have BK117 := n4_; have BK121 := n5_; have BK125 := n6_; have BK135 := n7_; have BK139 := n8_; have BK143 := n9_; have HB := n10_; clear n0_ n1_ n2_ n3_ n4_ n5_ n6_ n7_ n8_ n9_ n10_; (try clear hb); (try clear hb2); (try clear hk); (try clear hi)) | (go_at_call 18; (with_reducible refine (isobathlaw01_Works.calls kj161  t149 _ A246.out).mono ?_); rintro e w277 ⟨rfl, hb⟩; have n0_ := zam (zkb (g := gb101) (o := .cells #[.int .i64 a0_0, .int .i64 a0_1] 32 (0, 0)) (by (with_reducible repeat (first | refine zkn ?_ _ | refine zkd ?_ | refine zka ?_ _)); exact BK101.out) hb); have n1_ := zam (zkb (g := gb102) (o := .cells #[.int .i64 a1_0, .int .i64 a1_1] 32 (0, 0)) (by (with_reducible repeat (first | refine zkn ?_ _ | refine zkd ?_ | refine zka ?_ _)); exact BK102.out) hb); have n2_ := zam (zkb (g := gb109) (o := .cells #[.int .i64 t126, .int .i64 t127] 32 (0, 0)) (by (with_reducible repeat (first | refine zkn ?_ _ | refine zkd ?_ | refine zka ?_ _)); exact BK109.out) hb); have n3_ := zam (zkb (g := gb113) (o := .cells #[.int .i64 t129, .int .i64 t130] 32 (0, 0)) (by (with_reducible repeat (first | refine zkn ?_ _ | refine zkd ?_ | refine zka ?_ _)); exact BK113.out) hb); have n4_ := zam (zkb (g := gb117) (o := .cells #[.int .i64 t114, .int .i64 t115] 32 (0, 0)) (by (with_reducible repeat (first | refine zkn ?_ _ | refine zkd ?_ | refine zka ?_ _)); exact BK117.out) hb); have n5_ := zam (zkb (g := gb121) (o := .cells #[.int .i64 t118, .int .i64 t119] 32 (0, 0)) (by (with_reducible repeat (first | refine zkn ?_ _ | refine zkd ?_ | refine zka ?_ _)); exact BK121.out) hb); have n6_ := zam (zkb (g := gb125) (o := .cells #[.int .i64 t122, .int .i64 t123] 32 (0, 0)) (by (with_reducible repeat (first | refine zkn ?_ _ | refine zkd ?_ | refine zka ?_ _)); exact BK125.out) hb); have n7_ := zam (zkb (g := gb135) (o := .cells #[.int .i64 t132, .int .i64 t133] 32 (0, 0)) (by (with_reducible repeat (first | refine zkn ?_ _ | refine zkd ?_ | refine zka ?_ _)); exact BK135.out) hb); have n8_ := zam (zkb (g := gb139) (o := .cells #[.int .i64 t136, .int .i64 t137] 32 (0, 0)) (by (with_reducible repeat (first | refine zkn ?_ _ | refine zkd ?_ | refine zka ?_ _)); exact BK139.out) hb); have n9_ := zam (zkb (g := gb143) (o := .cells #[.int .i64 t140, .int .i64 t141] 32 (0, 0)) (by (with_reducible repeat (first | refine zkn ?_ _ | refine zkd ?_ | refine zka ?_ _)); exact BK143.out) hb); have n10_ := zam (zbt (by repeat (first | (with_reducible first | exact HB.out | apply zba | apply zbn | apply zb1 | refine zbs ?_ GE101.out | refine zbs ?_ GE102.out | refine zbs ?_ GE109.out | refine zbs ?_ GE113.out | refine zbs ?_ GE117.out | refine zbs ?_ GE121.out | refine zbs ?_ GE125.out | refine zbs ?_ GE135.out | refine zbs ?_ GE139.out | refine zbs ?_ GE143.out) | exact HB.out)) hb); clear BK101; clear BK102; clear BK109; clear BK113; clear BK117; clear BK121; clear BK125; clear BK135; clear BK139; clear BK143; clear HB; have BK101 := n0_; have BK102 := n1_; have BK109 := n2_; have BK113 := n3_; have BK117 := n4_; have BK121 := n5_; have BK125 := n6_; have BK135 := n7_; have BK139 := n8_; have BK143 := n9_; have HB := n10_; clear n0_ n1_ n2_ n3_ n4_ n5_ n6_ n7_ n8_ n9_ n10_; (try clear hb); (try clear hb2); (try clear hk); (try clear hi)))
             go_ret
             exact ⟨by first | rfl | (simp [errW_none, errW_some] <;> rfl) | (simp [*, errW_none, errW_some] <;> rfl), by repeat (first | (with_reducible first | exact HB.out | apply zba | apply zbn | apply zb1 | refine zbs ?_ GE101.out | refine zbs ?_ GE102.out | refine zbs ?_ GE109.out | refine zbs ?_ GE113.out | refine zbs ?_ GE117.out | refine zbs ?_ GE121.out | refine zbs ?_ GE125.out | refine zbs ?_ GE135.out | refine zbs ?_ GE139.out | refine zbs ?_ GE143.out) | exact HB.out)⟩
            replace c245 := Bool.eq_false_iff.mpr c245
            subst c245
            have H1 : (none) = some r := by rw [if_neg (show ¬ (false = true) by decide)] at H; exact H
            clear H
            have H := H1
            clear H1
            exact absurd H (by simp)
           replace c243 := Bool.eq_false_iff.mpr c243
           subst c243
           have H1 : (none) = some r := by rw [if_neg (show ¬ (false = true) by decide)] at H; exact H
           clear H
           have H := H1
           clear H1
           exact absurd H (by simp)
          rw [if_neg c241] at H
          exact absurd H (by simp)
     rw [if_neg c83] at H
     exact absurd H (by simp)
end Go.Proofs.Ytlkafgibgipodaa.P
namespace Go.Proofs.Ytlkafgibgipodaa.P
open Go.RowKit Go.Proofs.YtlkafgibgipodaaW.PrintWords Go.Proofs.YtlkafgibgipodaaW.PrintLast Go.Proofs.YtlkafgibgipodaaW.PrintMore
namespace boundAlgebra
open Go.ChangeShapes Go.WideShapes Go.ChangeAt
set_option linter.unusedVariables false
set_option linter.unusedSimpArgs false
def B32 (x : S32) : Prop := (fun n : Int => (Lit.int .i64 n).wf = true) x.f0 ∧ (fun n : Int => (Lit.int .i64 n).wf = true) x.f1
theorem opens32 : Opens Try.prog 32 k32 B32 := Opens.struct (fs := _) Try.underlying32 (fun x : S32 => (x.f0, x.f1)) (fun t => ⟨t.1, t.2⟩) (fun _ => rfl) (OpensF.cons rfl (by kernel_rfl) (Opens.int Try.underlying2) (OpensF.last rfl (by kernel_rfl) (Opens.int Try.underlying2)))
def Pure : Prop := ∀ (x0 : S32) (x1 : S32), B32 x0 → B32 x1 → ∃ k, isobathlaw01_BoundAlgebra.f k x0.f0 x0.f1 x1.f0 x1.f1 = some true
theorem own : ownKnob Try.prog.godebug = none := by kernel_rfl
theorem laidOut : laidOutB Try.prog = true := by kernel_rfl
set_option maxRecDepth 100000 in
theorem lifted (hP : Pure) (os : Os) (started : os.Started) (H : Type) (enc : TypeId × Value → H) :
  ReturnsInHanded {} Try.checked os 5 .any (Rows.boundAlgebraSpec.pre6 enc Try.prog Try.f5 Rows.boundAlgebraRow.domain false) (Rows.boundAlgebraSpec.post enc Try.prog Try.f5 false true false false) := by
 refine returnsInHanded_of_change_sized (C := Try.checked) own started (by kernel_rfl) Try.func5
  (ChangeSpec.witness6 (enc := enc) (C := Try.checked) false ⟨#[], #[.agg #[.int .i64 0, .int .i64 0], .agg #[.int .i64 0, .int .i64 0]], []⟩ 8 (by kernel_rfl) (by kernel_rfl) (by kernel_rfl) (by kernel_rfl)) ?_
 intro W base args ds gs before hval0 hW hcnd hsz0 _
 have hval : ∀ (j : Nat) t v, Try.f5.params[j]? = some t → args[j]? = some v → Value.okWide Try.prog W .any base t v := hval0
 have hW' := hW
 obtain ⟨p, q, hA0, hV, rfl, hfz, hnd⟩ := hW
 have hA : DataW.TrodAll enc Try.prog W 0 (fun _ => true) true Try.f5.params.toList args.toList ds p := hA0
 rw [Try.params5] at hA hval
 obtain ⟨v0, vs0, d0, ds0, p0, q0, hargs, rfl, rfl, h0, r0⟩ := trodAll_cons hA
 obtain ⟨v1, vs1, d1, ds1, p1, q1, rfl, rfl, rfl, h1, r1⟩ := trodAll_cons r0
 obtain ⟨rfl, rfl, rfl⟩ := trodAll_nil r1
 obtain rfl : args = #[v0, v1] := by cases args; simp_all
 obtain ⟨rfl, rfl⟩ := trodVars_none hV
 have k0 := h0
 have lt0 : ∀ x ∈ p0, x.block < W.heap.size := by obtain ⟨m, hm⟩ := k0; exact DataW.trod_lt m _ _ _ hm
 obtain ⟨m0, hm0⟩ := h0
 obtain ⟨x0, hk0, w0⟩ := Opens.run opens32 hm0
 have hcs0 := k32_open hk0
 obtain rfl := cells_agg hcs0 (by simp)
 have k1 := h1
 have lt1 : ∀ x ∈ p1, x.block < W.heap.size := by obtain ⟨m, hm⟩ := k1; exact DataW.trod_lt m _ _ _ hm
 obtain ⟨m1, hm1⟩ := h1
 obtain ⟨x1, hk1, w1⟩ := Opens.run opens32 hm1
 have hcs1 := k32_open hk1
 obtain rfl := cells_agg hcs1 (by simp)
 clear hA0 hval0 hsz0
 obtain ⟨k, hf⟩ := hP x0 x1 w0 w1
 refine (isobathlaw01_BoundAlgebra.calls (k := k) (a0_0 := x0.f0) (a0_1 := x0.f1) (a1_0 := x1.f0) (a1_1 := x1.f1) (r := true) (w := W) (h := hf)).mono fun e W' ⟨he, hd⟩ => ?_
 have bel : Below W.heap.size W W' := by first | exact hd | (obtain ⟨m, rfl⟩ := hd; exact zbn (Below.refl _ _) m)
 subst he
 exact ⟨_, rfl, _, _, _, [], _, [], hW', trodAll_mk1 (shut_bool Try.underlying4 _), (trodAll_cons_mk (Below.trod laidOut (by kernel_rfl) (zod (by kernel_rfl)) k0 bel lt0) (trodAll_cons_mk (Below.trod laidOut (by kernel_rfl) (zod (by kernel_rfl)) k1 bel lt1) trodAll_mk0)), rfl, bel.frame _, fun h => by cases h⟩
theorem over (hP : Pure) : Rows.boundAlgebraRow.holds Try.pinned (OpenSpec.ofChange Rows.boundAlgebraSpec) :=
 OpenClaim.holds_of_wide 5 Try.f5 rfl rfl rfl rfl rfl rfl rfl ⟨rfl, rfl, rfl, rfl, rfl⟩ rfl rfl rfl rfl rfl (by kernel_rfl) Try.func5 (by kernel_rfl)
  (zod (by kernel_rfl)) (by unfold Func.isWrapper; first | (rw [if_pos (by decide +kernel)]; kernel_rfl) | (rw [if_neg (by decide +kernel)]; exact ⟨rfl, rfl⟩))
  (fun os started H enc _ => lifted hP os started H enc)
theorem proved (hP : Pure) : Rows.BoundAlgebraSaid := over hP
end boundAlgebra
end Go.Proofs.Ytlkafgibgipodaa.P
namespace Go.Proofs.Ytlkafgibgipodaa.P
open Go.RowKit Go.Proofs.YtlkafgibgipodaaW.PrintWords Go.Proofs.YtlkafgibgipodaaW.PrintLast Go.Proofs.YtlkafgibgipodaaW.PrintMore
attribute [local go_sem] max2_int min2_int max_two min_two max_three min_three max_four min_four   -- for this text's walks alone
set_option linter.unusedVariables false
set_option linter.unusedSimpArgs false
theorem Bo.inside (a0 a1 b0 b1 : Int) : isobathlaw01_inside.f a0 a1 b0 b1 = some (decide (b0 ≤ a0 ∧ a1 ≤ b1)) := by
 unfold isobathlaw01_inside.f
 by_cases h : b0 ≤ a0
 ·rw [if_pos h]
  simp [h]
 rw [if_neg h]
 simp [h]
theorem Bo.fl_one (n : Int) : Bo.fl n 1 = n := by rw [Bo.fl_pos (by decide), Int.ediv_one]
theorem Bo.cl_one (n : Int) : Bo.cl n 1 = n := by unfold Bo.cl; rw [Bo.fl_one]; omega
theorem Bo.algebra (a0 a1 b0 b1 : Int) : isobathlaw01_BoundAlgebra.f 104 a0 a1 b0 b1 = some true := by
 unfold isobathlaw01_BoundAlgebra.f
 rw [Bo.both1 a0 a1 b0 b1 fun z => isobathlaw01_BoundAlgebra.j0 104 z a0 a1 b0 b1]
 simp only [isobathlaw01_BoundAlgebra.j0, isobathlaw01_BoundAlgebra.j1, isobathlaw01_BoundAlgebra.j2, isobathlaw01_BoundAlgebra.j3]
 by_cases h : Bo.v a0 a1 ∧ Bo.v b0 b1
 ·have hs : Bo.v b0 b1 ∧ Bo.v a0 a1 := ⟨h.2, h.1⟩
  obtain ⟨⟨h1, h2, h3⟩, h4, h5, h6⟩ := id h
  have hW := Bo.works (k := 100) (by omega)
  have e1 : Bo.add b0 b1 a0 a1 = Bo.add a0 a1 b0 b1 := by
   unfold Bo.add Bo.op2
   rw [if_pos h, if_pos hs, Int.add_comm b0, Int.add_comm b1]
  have e2 : Bo.mul b0 b1 a0 a1 = Bo.mul a0 a1 b0 b1 := by
   unfold Bo.mul Bo.op2
   rw [if_pos h, if_pos hs, Int.mul_comm b0 a0, Int.mul_comm b1 a0, Int.mul_comm b0 a1, Int.mul_comm b1 a1]
   congr 1 <;> omega
  have e3 : Bo.scale b0 b1 (-1) 1 = (-b1, -b0, 0) := by
   unfold Bo.scale
   rw [if_pos h.2, if_pos (by decide), Bo.fl_one, Bo.fl_one, Bo.cl_one, Bo.cl_one]
   unfold Bo.res
   rw [show min (b0 * -1) (b1 * -1) = -b1 by omega, show max (b0 * -1) (b1 * -1) = -b0 by omega, if_pos (by unfold Bo.v; omega)]
  have e4 : Bo.scale a0 a1 1 1 = (a0, a1, 0) := by
   unfold Bo.scale
   rw [if_pos h.1, if_pos (by decide), Bo.fl_one, Bo.fl_one, Bo.cl_one, Bo.cl_one]
   unfold Bo.res
   rw [show min (a0 * 1) (a1 * 1) = a0 by omega, show max (a0 * 1) (a1 * 1) = a1 by omega, if_pos h.1]
  have e5 : Bo.add a0 a1 (-b1) (-b0) = Bo.sub a0 a1 b0 b1 := by
   unfold Bo.add Bo.sub Bo.op2
   rw [if_pos h, if_pos ⟨h.1, by unfold Bo.v; omega⟩]
   congr 1
  have e6 : Bo.hull a0 a1 b0 b1 = (min a0 b0, max a1 b1, 0) := by
   unfold Bo.hull Bo.op2
   rw [if_pos h]
  rw [if_pos h, if_neg (by simp), Bo.add_b _ _ _ _ (by omega), Bo.add_b _ _ _ _ (by omega), Bo.mul_b _ _ _ _ (by omega), Bo.mul_b _ _ _ _ (by omega), e1, e2]
  simp only [Option.bind_some, beq_self_eq_true, Bool.not_true, Bool.or_self, Bool.false_eq_true, if_false, if_true, bne_self_eq_false]
  rw [Bo.scale_b _ _ _ _ (by omega) (by omega) (by omega), Bo.sub_b _ _ _ _ (by omega), Bo.scale_b _ _ _ _ (by omega) (by omega) (by omega), e3, e4]
  simp only [Option.bind_some, if_true]
  rw [Bo.add_b _ _ _ _ (by omega), e5]
  simp only [Option.bind_some, beq_self_eq_true, Bool.not_true, Bool.or_self, Bool.false_eq_true, if_false, if_true, bne_self_eq_false]
  rw [Bo.hull_b _ _ _ _ (by omega), Bo.meet_b _ _ _ _ (by omega), e6]
  simp only [Option.bind_some, if_true, Bo.inside]
  rw [zdt (by omega), if_pos rfl, zdt (by omega), if_neg (by simp)]
  unfold Bo.meet Bo.op2
  rw [if_pos h]
  by_cases q : max a0 b0 ≤ min a1 b1
  ·rw [if_pos q]
   simp only
   rw [if_neg (by decide), if_pos trivial, zdt (by omega), if_pos rfl, zdt (by omega), if_pos rfl, hW]
   rfl
  rw [if_neg q]
  simp only
  rw [if_pos trivial, hW]
  rfl
 rw [if_neg h, if_pos trivial, Bo.works (by omega)]
 rfl
theorem boundAlgebra_holds : Rows.BoundAlgebraSaid := boundAlgebra.proved fun a b _ _ => ⟨104, Bo.algebra _ _ _ _⟩
#print axioms boundAlgebra_holds
end Go.Proofs.Ytlkafgibgipodaa.P
