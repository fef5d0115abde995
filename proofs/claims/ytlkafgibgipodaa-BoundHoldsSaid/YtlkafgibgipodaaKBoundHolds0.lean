/- THE STAGE'S THEOREM: whatever the true values in two spans are, their sum, difference, product and quotient, the root, a multiple n / d, and each point of a line between them lie in the span that is returned. Part 1 of 1. -/
-- Put together by wip/tools/shake.py, a program of this work: out of the words that the kit's print tool (print.sh) writes for a claim and what wip/tools/xprint.py prints, those that this claim reaches, and this work's own texts.
import Derived.Below
import Derived.Deep.Draws
import Derived.Deep.AppendLies
import Derived.Maps.AppendAt
import Derived.OwnWalk
import Derived.Laws.BytesArg
import Derived.Laws.MakeOwn
import Derived.Laws.OwnMore
import Derived.Deep.OwnRows
import Derived.Tactics
import Derived.Lib.ConvBytes
import Derived.Laws.Slices
import Derived.WalkKit
import Derived.KernelRfl
import Derived.RowKit3
import Derived.Deep.LoopGhost
import Derived.Deep.QuietTactic
import Derived.BigQuiet
import Derived.WideLaws
import Derived.Deep.DeepCutAuto
import Derived.Deep.CutBlock
import Derived.Deep.RegionHeld3
import Derived.Laws.Rows
import Derived.Lib.AppendStr
import Derived.ArgAppend
import Derived.Laws.IdiomCopy
import Derived.RowKit
import Derived.OrdersHeld
import Derived.Laws.BitsLemmas
import Derived.Laws.StructEq
import Derived.Test.YtlkafgibgipodaaProg
import Derived.Laws.EntriesVeiled
import Derived.Laws.Externs
import Derived.RangeFuncBox
import Derived.RangeFuncNested
import Derived.RangeFuncBound
import Derived.RangeFuncCalls
import Derived.RangeFuncLeaves
import Derived.Shelf.Abstract
import Derived.Shelf.RegionOpen
import Derived.OwnWalkIn
import Derived.TacticsInMore
import Derived.LoopNIn
import Derived.LoopIn
import Derived.Sort.QuietIn
import Derived.Sort.LoopGhostIn
import Derived.Shelf.SlSortCmp.WholeK
import Derived.Deep.Slices
import Derived.OpenShut
import Derived.Test.YtlkafgibgipodaaRows
import Derived.ProofKit
import Derived.ShutString
import Derived.ChangeOld
import Derived.SizedLaws
import Derived.Carry
import Derived.Test.YtlkafgibgipodaaKOps3
set_option linter.unusedVariables false
set_option linter.unusedSimpArgs false
namespace Go.Proofs.YtlkafgibgipodaaW.PrintWords
open Go.RowKit
def bt (s : ByteArray) (i : Int) : Int := if h : i.toNat < s.size then ((s[i.toNat]'h).toNat : Int) else 0
end Go.Proofs.YtlkafgibgipodaaW.PrintWords
namespace Go.Proofs.Ytlkafgibgipodaa.P
open Go.RowKit Go.Proofs.YtlkafgibgipodaaW.PrintWords Go.Proofs.YtlkafgibgipodaaW.PrintLast Go.Proofs.YtlkafgibgipodaaW.PrintMore
attribute [local go_sem] max2_int min2_int max_two min_two max_three min_three max_four min_four   -- for this text's walks alone
set_option linter.unusedVariables false
set_option linter.unusedSimpArgs false
def isobathlaw01_Part.f (a0_0 : Int) (a0_1 : Int) (a1 : Int) : Option (Int) := some (wrap64 (a0_0 + (wrap64 (Int.tdiv (wrap64 ((wrap64 (a0_1 - a0_0)) * (wrap64 (a1)))) 65535))))
set_option maxHeartbeats 8000000 in
set_option maxRecDepth 100000 in
theorem isobathlaw01_Part.calls (a0_0 : Int) (a0_1 : Int) (a1 : Int) (r : Int) (w : World) (h : isobathlaw01_Part.f a0_0 a0_1 a1 = some r) :
  Calls Try.prog 23 #[.agg #[.int .i64 a0_0, .int .i64 a0_1], .int .u16 a1] w fun e w' => e = .returned (.int .i64 r) ∧ Below w.heap.size w w' := by
 have hu32 := Try.underlying32
 have HB := zam (Below.refl w.heap.size w)
 have H : (some (wrap64 (a0_0 + (wrap64 (Int.tdiv (wrap64 ((wrap64 (a0_1 - a0_0)) * (wrap64 (a1)))) 65535))))) = some r := h
 clear h
 obtain rfl := zsi H
 go_enter Try.func23, Try.ntmps23
 go_wp2_with (first | ((with_reducible refine zgd (N := 2) rfl ?_); refine box_event ?hg (N := 2) ?hd (cs := #[.int .i64 a0_0, .int .i64 a0_1]) (t := 32) ?hr ?_; (case hd => rfl); (case hg => rfl); (case hr => first | (go_simp; done) | (go_simp; rfl)); intro gb101 hg w3 hbox hb; have n0_ := zam (zbt (by repeat (first | (with_reducible first | exact HB.out | apply zba | apply zbn | apply zb1) | exact HB.out)) hb); have n1_ := zam (hbox); have n2_ := zam ((by rw [hg]; exact (zbz (by repeat (first | (with_reducible first | exact HB.out | apply zba | apply zbn | apply zb1) | exact HB.out))) : w.heap.size ≤ gb101)); have n3_ := zam ((by rw [hg]; exact (zbz (by repeat (first | (with_reducible first | exact HB.out | apply zba | apply zbn | apply zb1) | exact HB.out))) : w.heap.size ≤ gb101)); clear HB; have HB := n0_; have BK101 := n1_; have GW101 := n2_; have GE101 := n3_; clear n0_ n1_ n2_ n3_; clear hb hbox hg; have hcz4_0 : w3.cell? ⟨gb101, 0, none⟩ = some (.int .i64 a0_0) := (zkc BK101.out 0).trans rfl; have hcz4_1 : w3.cell? ⟨gb101, 1, none⟩ = some (.int .i64 a0_1) := (zkc BK101.out 1).trans rfl; have hfz4_0 := zkz BK101.out 0; have hfz4_1 := zkz BK101.out 1))
 go_ret
 exact ⟨by first | rfl | (simp [errW_none, errW_some] <;> rfl) | (simp [*, errW_none, errW_some] <;> rfl), by repeat (first | (with_reducible first | exact HB.out | apply zba | apply zbn | apply zb1 | refine zbs ?_ GE101.out) | exact HB.out)⟩
def isobathlaw01_between.f (a0_0 : Int) (a0_1 : Int) (a1 : Int) (a2 : Int) : Option (Bool) := if a2 < 0 then (if (wrap64 (a0_0 * (wrap64 (-a2)))) ≤ (wrap64 (-a1)) then (some (decide ((wrap64 (-a1)) ≤ (wrap64 (a0_1 * (wrap64 (-a2))))))) else (some false)) else (if (wrap64 (a0_0 * a2)) ≤ a1 then (some (decide (a1 ≤ (wrap64 (a0_1 * a2))))) else (some false))
set_option maxHeartbeats 8000000 in
set_option maxRecDepth 100000 in
theorem isobathlaw01_between.calls (a0_0 : Int) (a0_1 : Int) (a1 : Int) (a2 : Int) (r : Bool) (w : World) (h : isobathlaw01_between.f a0_0 a0_1 a1 a2 = some r) :
  Calls Try.prog 62 #[.agg #[.int .i64 a0_0, .int .i64 a0_1], .int .i64 a1, .int .i64 a2] w fun e w' => e = .returned (.bool r) ∧ Below w.heap.size w w' := by
 have hu32 := Try.underlying32
 have HB := zam (Below.refl w.heap.size w)
 have H : (if a2 < 0 then (if (wrap64 (a0_0 * (wrap64 (-a2)))) ≤ (wrap64 (-a1)) then (some (decide ((wrap64 (-a1)) ≤ (wrap64 (a0_1 * (wrap64 (-a2))))))) else (some false)) else (if (wrap64 (a0_0 * a2)) ≤ a1 then (some (decide (a1 ≤ (wrap64 (a0_1 * a2))))) else (some false))) = some r := h
 clear h
 by_cases c4 : a2 < 0
 ·rw [if_pos c4] at H
  have c4b0 : decide (a2 < 0) = true := zdt c4
  clear c4
  by_cases c5 : (wrap64 (a0_0 * (wrap64 (-a2)))) ≤ (wrap64 (-a1))
  ·rw [if_pos c5] at H
   have c5b0 : decide ((wrap64 (a0_0 * (wrap64 (-a2)))) ≤ (wrap64 (-a1))) = true := zdt c5
   clear c5
   obtain rfl := zsi H
   go_enter Try.func62, Try.ntmps62
   go_wp2_with (first | ((with_reducible refine zgd (N := 3) rfl ?_); refine box_event ?hg (N := 3) ?hd (cs := #[.int .i64 a0_0, .int .i64 a0_1]) (t := 32) ?hr ?_; (case hd => rfl); (case hg => rfl); (case hr => first | (go_simp; done) | (go_simp; rfl)); intro gb101 hg w6 hbox hb; have n0_ := zam (zbt (by repeat (first | (with_reducible first | exact HB.out | apply zba | apply zbn | apply zb1) | exact HB.out)) hb); have n1_ := zam (hbox); have n2_ := zam ((by rw [hg]; exact (zbz (by repeat (first | (with_reducible first | exact HB.out | apply zba | apply zbn | apply zb1) | exact HB.out))) : w.heap.size ≤ gb101)); have n3_ := zam ((by rw [hg]; exact (zbz (by repeat (first | (with_reducible first | exact HB.out | apply zba | apply zbn | apply zb1) | exact HB.out))) : w.heap.size ≤ gb101)); clear HB; have HB := n0_; have BK101 := n1_; have GW101 := n2_; have GE101 := n3_; clear n0_ n1_ n2_ n3_; clear hb hbox hg; have hcz7_0 : w6.cell? ⟨gb101, 0, none⟩ = some (.int .i64 a0_0) := (zkc BK101.out 0).trans rfl; have hcz7_1 : w6.cell? ⟨gb101, 1, none⟩ = some (.int .i64 a0_1) := (zkc BK101.out 1).trans rfl; have hfz7_0 := zkz BK101.out 0; have hfz7_1 := zkz BK101.out 1))
   go_ret
   exact ⟨by first | rfl | (simp [errW_none, errW_some] <;> rfl) | (simp [*, errW_none, errW_some] <;> rfl), by repeat (first | (with_reducible first | exact HB.out | apply zba | apply zbn | apply zb1 | refine zbs ?_ GE101.out) | exact HB.out)⟩
  rw [if_neg c5] at H
  have c5b0 : decide ((wrap64 (a0_0 * (wrap64 (-a2)))) ≤ (wrap64 (-a1))) = false := zdf c5
  clear c5
  obtain rfl := zsi H
  go_enter Try.func62, Try.ntmps62
  go_wp2_with (first | ((with_reducible refine zgd (N := 3) rfl ?_); refine box_event ?hg (N := 3) ?hd (cs := #[.int .i64 a0_0, .int .i64 a0_1]) (t := 32) ?hr ?_; (case hd => rfl); (case hg => rfl); (case hr => first | (go_simp; done) | (go_simp; rfl)); intro gb101 hg w8 hbox hb; have n0_ := zam (zbt (by repeat (first | (with_reducible first | exact HB.out | apply zba | apply zbn | apply zb1) | exact HB.out)) hb); have n1_ := zam (hbox); have n2_ := zam ((by rw [hg]; exact (zbz (by repeat (first | (with_reducible first | exact HB.out | apply zba | apply zbn | apply zb1) | exact HB.out))) : w.heap.size ≤ gb101)); have n3_ := zam ((by rw [hg]; exact (zbz (by repeat (first | (with_reducible first | exact HB.out | apply zba | apply zbn | apply zb1) | exact HB.out))) : w.heap.size ≤ gb101)); clear HB; have HB := n0_; have BK101 := n1_; have GW101 := n2_; have GE101 := n3_; clear n0_ n1_ n2_ n3_; clear hb hbox hg; have hcz9_0 : w8.cell? ⟨gb101, 0, none⟩ = some (.int .i64 a0_0) := (zkc BK101.out 0).trans rfl; have hcz9_1 : w8.cell? ⟨gb101, 1, none⟩ = some (.int .i64 a0_1) := (zkc BK101.out 1).trans rfl; have hfz9_0 := zkz BK101.out 0; have hfz9_1 := zkz BK101.out 1))
  go_ret
  exact ⟨by first | rfl | (simp [errW_none, errW_some] <;> rfl) | (simp [*, errW_none, errW_some] <;> rfl), by repeat (first | (with_reducible first | exact HB.out | apply zba | apply zbn | apply zb1 | refine zbs ?_ GE101.out) | exact HB.out)⟩
 rw [if_neg c4] at H
 have c4b0 : decide (a2 < 0) = false := zdf c4
 clear c4
 by_cases c10 : (wrap64 (a0_0 * a2)) ≤ a1
 ·rw [if_pos c10] at H
  have c10b0 : decide ((wrap64 (a0_0 * a2)) ≤ a1) = true := zdt c10
  clear c10
  obtain rfl := zsi H
  go_enter Try.func62, Try.ntmps62
  go_wp2_with (first | ((with_reducible refine zgd (N := 3) rfl ?_); refine box_event ?hg (N := 3) ?hd (cs := #[.int .i64 a0_0, .int .i64 a0_1]) (t := 32) ?hr ?_; (case hd => rfl); (case hg => rfl); (case hr => first | (go_simp; done) | (go_simp; rfl)); intro gb101 hg w11 hbox hb; have n0_ := zam (zbt (by repeat (first | (with_reducible first | exact HB.out | apply zba | apply zbn | apply zb1) | exact HB.out)) hb); have n1_ := zam (hbox); have n2_ := zam ((by rw [hg]; exact (zbz (by repeat (first | (with_reducible first | exact HB.out | apply zba | apply zbn | apply zb1) | exact HB.out))) : w.heap.size ≤ gb101)); have n3_ := zam ((by rw [hg]; exact (zbz (by repeat (first | (with_reducible first | exact HB.out | apply zba | apply zbn | apply zb1) | exact HB.out))) : w.heap.size ≤ gb101)); clear HB; have HB := n0_; have BK101 := n1_; have GW101 := n2_; have GE101 := n3_; clear n0_ n1_ n2_ n3_; clear hb hbox hg; have hcz12_0 : w11.cell? ⟨gb101, 0, none⟩ = some (.int .i64 a0_0) := (zkc BK101.out 0).trans rfl; have hcz12_1 : w11.cell? ⟨gb101, 1, none⟩ = some (.int .i64 a0_1) := (zkc BK101.out 1).trans rfl; have hfz12_0 := zkz BK101.out 0; have hfz12_1 := zkz BK101.out 1))
  go_ret
  exact ⟨by first | rfl | (simp [errW_none, errW_some] <;> rfl) | (simp [*, errW_none, errW_some] <;> rfl), by repeat (first | (with_reducible first | exact HB.out | apply zba | apply zbn | apply zb1 | refine zbs ?_ GE101.out) | exact HB.out)⟩
 rw [if_neg c10] at H
 have c10b0 : decide ((wrap64 (a0_0 * a2)) ≤ a1) = false := zdf c10
 clear c10
 obtain rfl := zsi H
 go_enter Try.func62, Try.ntmps62
 go_wp2_with (first | ((with_reducible refine zgd (N := 3) rfl ?_); refine box_event ?hg (N := 3) ?hd (cs := #[.int .i64 a0_0, .int .i64 a0_1]) (t := 32) ?hr ?_; (case hd => rfl); (case hg => rfl); (case hr => first | (go_simp; done) | (go_simp; rfl)); intro gb101 hg w13 hbox hb; have n0_ := zam (zbt (by repeat (first | (with_reducible first | exact HB.out | apply zba | apply zbn | apply zb1) | exact HB.out)) hb); have n1_ := zam (hbox); have n2_ := zam ((by rw [hg]; exact (zbz (by repeat (first | (with_reducible first | exact HB.out | apply zba | apply zbn | apply zb1) | exact HB.out))) : w.heap.size ≤ gb101)); have n3_ := zam ((by rw [hg]; exact (zbz (by repeat (first | (with_reducible first | exact HB.out | apply zba | apply zbn | apply zb1) | exact HB.out))) : w.heap.size ≤ gb101)); clear HB; have HB := n0_; have BK101 := n1_; have GW101 := n2_; have GE101 := n3_; clear n0_ n1_ n2_ n3_; clear hb hbox hg; have hcz14_0 : w13.cell? ⟨gb101, 0, none⟩ = some (.int .i64 a0_0) := (zkc BK101.out 0).trans rfl; have hcz14_1 : w13.cell? ⟨gb101, 1, none⟩ = some (.int .i64 a0_1) := (zkc BK101.out 1).trans rfl; have hfz14_0 := zkz BK101.out 0; have hfz14_1 := zkz BK101.out 1))
 go_ret
 exact ⟨by first | rfl | (simp [errW_none, errW_some] <;> rfl) | (simp [*, errW_none, errW_some] <;> rfl), by repeat (first | (with_reducible first | exact HB.out | apply zba | apply zbn | apply zb1 | refine zbs ?_ GE101.out) | exact HB.out)⟩
def isobathlaw01_holds.f (a0_0 : Int) (a0_1 : Int) (a1 : Int) : Option (Bool) := if a0_0 ≤ a1 then (some (decide (a1 ≤ a0_1))) else (some false)
set_option maxHeartbeats 8000000 in
set_option maxRecDepth 100000 in
theorem isobathlaw01_holds.calls (a0_0 : Int) (a0_1 : Int) (a1 : Int) (r : Bool) (w : World) (h : isobathlaw01_holds.f a0_0 a0_1 a1 = some r) :
  Calls Try.prog 26 #[.agg #[.int .i64 a0_0, .int .i64 a0_1], .int .i64 a1] w fun e w' => e = .returned (.bool r) ∧ Below w.heap.size w w' := by
 have hu32 := Try.underlying32
 have HB := zam (Below.refl w.heap.size w)
 have H : (if a0_0 ≤ a1 then (some (decide (a1 ≤ a0_1))) else (some false)) = some r := h
 clear h
 by_cases c3 : a0_0 ≤ a1
 ·rw [if_pos c3] at H
  have c3b0 : decide (a0_0 ≤ a1) = true := zdt c3
  clear c3
  obtain rfl := zsi H
  go_enter Try.func26, Try.ntmps26
  go_wp2_with (first | ((with_reducible refine zgd (N := 2) rfl ?_); refine box_event ?hg (N := 2) ?hd (cs := #[.int .i64 a0_0, .int .i64 a0_1]) (t := 32) ?hr ?_; (case hd => rfl); (case hg => rfl); (case hr => first | (go_simp; done) | (go_simp; rfl)); intro gb101 hg w4 hbox hb; have n0_ := zam (zbt (by repeat (first | (with_reducible first | exact HB.out | apply zba | apply zbn | apply zb1) | exact HB.out)) hb); have n1_ := zam (hbox); have n2_ := zam ((by rw [hg]; exact (zbz (by repeat (first | (with_reducible first | exact HB.out | apply zba | apply zbn | apply zb1) | exact HB.out))) : w.heap.size ≤ gb101)); have n3_ := zam ((by rw [hg]; exact (zbz (by repeat (first | (with_reducible first | exact HB.out | apply zba | apply zbn | apply zb1) | exact HB.out))) : w.heap.size ≤ gb101)); clear HB; have HB := n0_; have BK101 := n1_; have GW101 := n2_; have GE101 := n3_; clear n0_ n1_ n2_ n3_; clear hb hbox hg; have hcz5_0 : w4.cell? ⟨gb101, 0, none⟩ = some (.int .i64 a0_0) := (zkc BK101.out 0).trans rfl; have hcz5_1 : w4.cell? ⟨gb101, 1, none⟩ = some (.int .i64 a0_1) := (zkc BK101.out 1).trans rfl; have hfz5_0 := zkz BK101.out 0; have hfz5_1 := zkz BK101.out 1))
  go_ret
  exact ⟨by first | rfl | (simp [errW_none, errW_some] <;> rfl) | (simp [*, errW_none, errW_some] <;> rfl), by repeat (first | (with_reducible first | exact HB.out | apply zba | apply zbn | apply zb1 | refine zbs ?_ GE101.out) | exact HB.out)⟩
 rw [if_neg c3] at H
 have c3b0 : decide (a0_0 ≤ a1) = false := zdf c3
 clear c3
 obtain rfl := zsi H
 go_enter Try.func26, Try.ntmps26
 go_wp2_with (first | ((with_reducible refine zgd (N := 2) rfl ?_); refine box_event ?hg (N := 2) ?hd (cs := #[.int .i64 a0_0, .int .i64 a0_1]) (t := 32) ?hr ?_; (case hd => rfl); (case hg => rfl); (case hr => first | (go_simp; done) | (go_simp; rfl)); intro gb101 hg w6 hbox hb; have n0_ := zam (zbt (by repeat (first | (with_reducible first | exact HB.out | apply zba | apply zbn | apply zb1) | exact HB.out)) hb); have n1_ := zam (hbox); have n2_ := zam ((by rw [hg]; exact (zbz (by repeat (first | (with_reducible first | exact HB.out | apply zba | apply zbn | apply zb1) | exact HB.out))) : w.heap.size ≤ gb101)); have n3_ := zam ((by rw [hg]; exact (zbz (by repeat (first | (with_reducible first | exact HB.out | apply zba | apply zbn | apply zb1) | exact HB.out))) : w.heap.size ≤ gb101)); clear HB; have HB := n0_; have BK101 := n1_; have GW101 := n2_; have GE101 := n3_; clear n0_ n1_ n2_ n3_; clear hb hbox hg; have hcz7_0 : w6.cell? ⟨gb101, 0, none⟩ = some (.int .i64 a0_0) := (zkc BK101.out 0).trans rfl; have hcz7_1 : w6.cell? ⟨gb101, 1, none⟩ = some (.int .i64 a0_1) := (zkc BK101.out 1).trans rfl; have hfz7_0 := zkz BK101.out 0; have hfz7_1 := zkz BK101.out 1))
 go_ret
 exact ⟨by first | rfl | (simp [errW_none, errW_some] <;> rfl) | (simp [*, errW_none, errW_some] <;> rfl), by repeat (first | (with_reducible first | exact HB.out | apply zba | apply zbn | apply zb1 | refine zbs ?_ GE101.out) | exact HB.out)⟩
set_option maxHeartbeats 8000000 in
set_option maxRecDepth 100000 in
theorem isobathref01_Within.calls (a0 : Int) (a1 : Int) (a2 : Int) (r : Bool) (w : World) (h : isobathref01_Within.f a0 a1 a2 = some r) :
  Calls Try.prog 79 #[.int .i64 a0, .int .i64 a1, .int .i64 a2] w fun e w' => e = .returned (.bool r) ∧ Drawn0 w w' := by
 have H : (if a0 ≥ a1 then (some (decide (a0 ≤ a2))) else (some false)) = some r := h
 clear h
 by_cases c4 : a0 ≥ a1
 ·rw [if_pos c4] at H
  have c4b0 : decide (a1 ≤ a0) = true := zdt c4
  clear c4
  obtain rfl := zsi H
  go_enter Try.func79, Try.ntmps79
  go_wp2
  go_ret
  exact ⟨by first | rfl | (simp; done) | (simp [*]; done), by repeat (first | exact Drawn0.refl _ | apply Drawn0.step)⟩
 rw [if_neg c4] at H
 have c4b0 : decide (a1 ≤ a0) = false := zdf c4
 clear c4
 obtain rfl := zsi H
 go_enter Try.func79, Try.ntmps79
 go_wp2
 go_ret
 exact ⟨by first | rfl | (simp; done) | (simp [*]; done), by repeat (first | exact Drawn0.refl _ | apply Drawn0.step)⟩
set_option maxHeartbeats 8000000 in
set_option maxRecDepth 100000 in
theorem isobathref01_Valid.calls (a0_0 : Int) (a0_1 : Int) (r : Bool) (w : World) (h : isobathref01_Valid.f a0_0 a0_1 = some r) :
  Calls Try.prog 22 #[.agg #[.int .i64 a0_0, .int .i64 a0_1]] w fun e w' => e = .returned (.bool r) ∧ Below w.heap.size w w' := by
 have hu32 := Try.underlying32
 have HB := zam (Below.refl w.heap.size w)
 have H : (if a0_0 ≤ a0_1 then ((isobathref01_Within.f a0_0 (-1073741824) 1073741824).bind fun t102 => (if t102 = true then ((isobathref01_Within.f a0_1 (-1073741824) 1073741824).bind fun t103 => (some t103)) else (some false))) else (some false)) = some r := h
 clear h
 by_cases c2 : a0_0 ≤ a0_1
 ·rw [if_pos c2] at H
  have c2b0 : decide (a0_0 ≤ a0_1) = true := zdt c2
  clear c2
  replace H := Option.bind_eq_some_iff.mp H
  obtain ⟨t102, A30, H⟩ := H
  replace H : (if t102 = true then ((isobathref01_Within.f a0_1 (-1073741824) 1073741824).bind fun t103 => (some t103)) else (some false)) = some r := H
  have A3 := zam A30
  clear A30
  by_cases c4 : t102 = true
  ·subst c4
   have H1 : ((isobathref01_Within.f a0_1 (-1073741824) 1073741824).bind fun t103 => (some t103)) = some r := by rw [if_pos rfl] at H; exact H
   clear H
   have H := H1
   clear H1
   replace H := Option.bind_eq_some_iff.mp H
   obtain ⟨t103, A50, H⟩ := H
   replace H : (some t103) = some r := H
   have A5 := zam A50
   clear A50
   obtain rfl := zsi H
   go_enter Try.func22, Try.ntmps22
   go_wp2_with (first | ((with_reducible refine zgd (N := 1) rfl ?_); refine box_event ?hg (N := 1) ?hd (cs := #[.int .i64 a0_0, .int .i64 a0_1]) (t := 32) ?hr ?_; (case hd => rfl); (case hg => rfl); (case hr => first | (go_simp; done) | (go_simp; rfl)); intro gb101 hg w6 hbox hb; have n0_ := zam (zbt (by repeat (first | (with_reducible first | exact HB.out | apply zba | apply zbn | apply zb1) | exact HB.out)) hb); have n1_ := zam (hbox); have n2_ := zam ((by rw [hg]; exact (zbz (by repeat (first | (with_reducible first | exact HB.out | apply zba | apply zbn | apply zb1) | exact HB.out))) : w.heap.size ≤ gb101)); have n3_ := zam ((by rw [hg]; exact (zbz (by repeat (first | (with_reducible first | exact HB.out | apply zba | apply zbn | apply zb1) | exact HB.out))) : w.heap.size ≤ gb101)); clear HB; have HB := n0_; have BK101 := n1_; have GW101 := n2_; have GE101 := n3_; clear n0_ n1_ n2_ n3_; clear hb hbox hg; have hcz7_0 : w6.cell? ⟨gb101, 0, none⟩ = some (.int .i64 a0_0) := (zkc BK101.out 0).trans rfl; have hcz7_1 : w6.cell? ⟨gb101, 1, none⟩ = some (.int .i64 a0_1) := (zkc BK101.out 1).trans rfl; have hfz7_0 := zkz BK101.out 0; have hfz7_1 := zkz BK101.out 1) | (go_at_call 79; (with_reducible refine (isobathref01_Within.calls a0_0 (-1073741824) 1073741824 true _ A3.out).mono ?_); rintro e w' ⟨rfl, ⟨nd, rfl⟩⟩) | (go_at_call 79; (with_reducible refine (isobathref01_Within.calls a0_1 (-1073741824) 1073741824 t103 _ A5.out).mono ?_); rintro e w' ⟨rfl, ⟨nd, rfl⟩⟩))
   go_ret
   exact ⟨by first | rfl | (simp [errW_none, errW_some] <;> rfl) | (simp [*, errW_none, errW_some] <;> rfl), by repeat (first | (with_reducible first | exact HB.out | apply zba | apply zbn | apply zb1 | refine zbs ?_ GE101.out) | exact HB.out)⟩
  replace c4 := Bool.eq_false_iff.mpr c4
  subst c4
  have H1 : (some false) = some r := by rw [if_neg (show ¬ (false = true) by decide)] at H; exact H
  clear H
  have H := H1
  clear H1
  obtain rfl := zsi H
  go_enter Try.func22, Try.ntmps22
  go_wp2_with (first | ((with_reducible refine zgd (N := 1) rfl ?_); refine box_event ?hg (N := 1) ?hd (cs := #[.int .i64 a0_0, .int .i64 a0_1]) (t := 32) ?hr ?_; (case hd => rfl); (case hg => rfl); (case hr => first | (go_simp; done) | (go_simp; rfl)); intro gb101 hg w8 hbox hb; have n0_ := zam (zbt (by repeat (first | (with_reducible first | exact HB.out | apply zba | apply zbn | apply zb1) | exact HB.out)) hb); have n1_ := zam (hbox); have n2_ := zam ((by rw [hg]; exact (zbz (by repeat (first | (with_reducible first | exact HB.out | apply zba | apply zbn | apply zb1) | exact HB.out))) : w.heap.size ≤ gb101)); have n3_ := zam ((by rw [hg]; exact (zbz (by repeat (first | (with_reducible first | exact HB.out | apply zba | apply zbn | apply zb1) | exact HB.out))) : w.heap.size ≤ gb101)); clear HB; have HB := n0_; have BK101 := n1_; have GW101 := n2_; have GE101 := n3_; clear n0_ n1_ n2_ n3_; clear hb hbox hg; have hcz9_0 : w8.cell? ⟨gb101, 0, none⟩ = some (.int .i64 a0_0) := (zkc BK101.out 0).trans rfl; have hcz9_1 : w8.cell? ⟨gb101, 1, none⟩ = some (.int .i64 a0_1) := (zkc BK101.out 1).trans rfl; have hfz9_0 := zkz BK101.out 0; have hfz9_1 := zkz BK101.out 1) | (go_at_call 79; (with_reducible refine (isobathref01_Within.calls a0_0 (-1073741824) 1073741824 false _ A3.out).mono ?_); rintro e w' ⟨rfl, ⟨nd, rfl⟩⟩))
  go_ret
  exact ⟨by first | rfl | (simp [errW_none, errW_some] <;> rfl) | (simp [*, errW_none, errW_some] <;> rfl), by repeat (first | (with_reducible first | exact HB.out | apply zba | apply zbn | apply zb1 | refine zbs ?_ GE101.out) | exact HB.out)⟩
 rw [if_neg c2] at H
 have c2b0 : decide (a0_0 ≤ a0_1) = false := zdf c2
 clear c2
 obtain rfl := zsi H
 go_enter Try.func22, Try.ntmps22
 go_wp2_with (first | ((with_reducible refine zgd (N := 1) rfl ?_); refine box_event ?hg (N := 1) ?hd (cs := #[.int .i64 a0_0, .int .i64 a0_1]) (t := 32) ?hr ?_; (case hd => rfl); (case hg => rfl); (case hr => first | (go_simp; done) | (go_simp; rfl)); intro gb101 hg w10 hbox hb; have n0_ := zam (zbt (by repeat (first | (with_reducible first | exact HB.out | apply zba | apply zbn | apply zb1) | exact HB.out)) hb); have n1_ := zam (hbox); have n2_ := zam ((by rw [hg]; exact (zbz (by repeat (first | (with_reducible first | exact HB.out | apply zba | apply zbn | apply zb1) | exact HB.out))) : w.heap.size ≤ gb101)); have n3_ := zam ((by rw [hg]; exact (zbz (by repeat (first | (with_reducible first | exact HB.out | apply zba | apply zbn | apply zb1) | exact HB.out))) : w.heap.size ≤ gb101)); clear HB; have HB := n0_; have BK101 := n1_; have GW101 := n2_; have GE101 := n3_; clear n0_ n1_ n2_ n3_; clear hb hbox hg; have hcz11_0 : w10.cell? ⟨gb101, 0, none⟩ = some (.int .i64 a0_0) := (zkc BK101.out 0).trans rfl; have hcz11_1 : w10.cell? ⟨gb101, 1, none⟩ = some (.int .i64 a0_1) := (zkc BK101.out 1).trans rfl; have hfz11_0 := zkz BK101.out 0; have hfz11_1 := zkz BK101.out 1))
 go_ret
 exact ⟨by first | rfl | (simp [errW_none, errW_some] <;> rfl) | (simp [*, errW_none, errW_some] <;> rfl), by repeat (first | (with_reducible first | exact HB.out | apply zba | apply zbn | apply zb1 | refine zbs ?_ GE101.out) | exact HB.out)⟩
mutual
def isobathlaw01_BoundHolds.j0 : Nat → Int → Int → Int → Int → Int → Int → Int → Bool → Int → Int → Int → Int → Option (Bool)
 | 0, _, _, _, _, _, _, _, _, _, _, _, _ => none
 | k + 1, x2, x3, x4, x5, x6, x7, x8, x30, x102000, x102001, x103000, x103001 => if x30 = true then ((isobathlaw01_Works.f k).bind fun t105 => (some t105)) else ((isobathlaw01_Part.f x102000 x102001 x2).bind fun t106 => ((isobathlaw01_Part.f x103000 x103001 x3).bind fun t107 => ((bound_Add.f k x102000 x102001 x103000 x103001).bind fun bt108 => (if bt108.2.2 = 0 then ((isobathlaw01_holds.f bt108.1 bt108.2.1 (wrap64 (t106 + t107))).bind fun t112 => (if t112 = true then (isobathlaw01_BoundHolds.j1 k x4 x5 x6 x7 x8 t106 t107 false x102000 x102001 x103000 x103001) else (none))) else (isobathlaw01_BoundHolds.j1 k x4 x5 x6 x7 x8 t106 t107 (bt108.2.2 != 4) x102000 x102001 x103000 x103001)))))
def isobathlaw01_BoundHolds.j1 : Nat → Int → Int → Int → Int → Int → Int → Int → Bool → Int → Int → Int → Int → Option (Bool)
 | 0, _, _, _, _, _, _, _, _, _, _, _, _ => none
 | k + 1, x4, x5, x6, x7, x8, x19, x20, x61, x102000, x102001, x103000, x103001 => if x61 = true then (none) else ((bound_Sub.f k x102000 x102001 x103000 x103001).bind fun bt113 => (if bt113.2.2 = 0 then ((isobathlaw01_holds.f bt113.1 bt113.2.1 (wrap64 (x19 - x20))).bind fun t116 => (if t116 = true then (isobathlaw01_BoundHolds.j2 k x4 x5 x6 x7 x8 x19 x20 false x102000 x102001 x103000 x103001) else (none))) else (isobathlaw01_BoundHolds.j2 k x4 x5 x6 x7 x8 x19 x20 (bt113.2.2 != 4) x102000 x102001 x103000 x103001)))
def isobathlaw01_BoundHolds.j2 : Nat → Int → Int → Int → Int → Int → Int → Int → Bool → Int → Int → Int → Int → Option (Bool)
 | 0, _, _, _, _, _, _, _, _, _, _, _, _ => none
 | k + 1, x4, x5, x6, x7, x8, x19, x20, x85, x102000, x102001, x103000, x103001 => if x85 = true then (none) else ((bound_Mul.f k x102000 x102001 x103000 x103001).bind fun bt117 => (if bt117.2.2 = 0 then ((isobathlaw01_holds.f bt117.1 bt117.2.1 (wrap64 (x19 * x20))).bind fun t120 => (if t120 = true then (isobathlaw01_BoundHolds.j3 k x4 x5 x6 x7 x8 x19 x20 false x102000 x102001 x103000 x103001) else (none))) else (isobathlaw01_BoundHolds.j3 k x4 x5 x6 x7 x8 x19 x20 (bt117.2.2 != 4) x102000 x102001 x103000 x103001)))
def isobathlaw01_BoundHolds.j3 : Nat → Int → Int → Int → Int → Int → Int → Int → Bool → Int → Int → Int → Int → Option (Bool)
 | 0, _, _, _, _, _, _, _, _, _, _, _, _ => none
 | k + 1, x4, x5, x6, x7, x8, x19, x20, x109, x102000, x102001, x103000, x103001 => if x109 = true then (none) else ((bound_Div.f k x102000 x102001 x103000 x103001).bind fun bt121 => (if bt121.2.2 = 0 then (if x20 = 0 then (none) else ((isobathlaw01_between.f bt121.1 bt121.2.1 x19 x20).bind fun t124 => (if t124 = true then ((isobathlaw01_holds.f x103000 x103001 0).bind fun t125 => (isobathlaw01_BoundHolds.j4 k x4 x5 x6 x7 x8 x19 x20 ((bt121.2.2 == 9) != t125) x102000 x102001 x103000 x103001)) else (none)))) else ((isobathlaw01_holds.f x103000 x103001 0).bind fun t126 => (isobathlaw01_BoundHolds.j4 k x4 x5 x6 x7 x8 x19 x20 ((bt121.2.2 == 9) != t126) x102000 x102001 x103000 x103001))))
def isobathlaw01_BoundHolds.j4 : Nat → Int → Int → Int → Int → Int → Int → Int → Bool → Int → Int → Int → Int → Option (Bool)
 | 0, _, _, _, _, _, _, _, _, _, _, _, _ => none
 | k + 1, x4, x5, x6, x7, x8, x19, x20, x135, x102000, x102001, x103000, x103001 => if x135 = true then (none) else ((bound_Root.f k x102000 x102001).bind fun bt127 => (if bt127.2.2 = 0 then (if (wrap64 (bt127.1 * bt127.1)) > x19 then (none) else (if (wrap64 (bt127.2.1 * bt127.2.1)) < x19 then (none) else (if bt127.1 < 0 then (none) else (isobathlaw01_BoundHolds.j5 k x4 x5 x6 x7 x8 x19 x20 ((bt127.2.2 == 0) != (decide (x102000 ≥ 0))) x102000 x102001 x103000 x103001)))) else (isobathlaw01_BoundHolds.j5 k x4 x5 x6 x7 x8 x19 x20 ((bt127.2.2 == 0) != (decide (x102000 ≥ 0))) x102000 x102001 x103000 x103001)))
def isobathlaw01_BoundHolds.j5 : Nat → Int → Int → Int → Int → Int → Int → Int → Bool → Int → Int → Int → Int → Option (Bool)
 | 0, _, _, _, _, _, _, _, _, _, _, _, _ => none
 | k + 1, x4, x5, x6, x7, x8, x19, x20, x173, x102000, x102001, x103000, x103001 => if x173 = true then (none) else ((bound_Scale.f k x102000 x102001 x4 x5).bind fun bt130 => (if bt130.2.2 = 0 then (if x5 < 1 then (none) else ((isobathlaw01_between.f bt130.1 bt130.2.1 (wrap64 (x19 * x4)) x5).bind fun t133 => (isobathlaw01_BoundHolds.j6 k x6 x7 x8 x19 x20 (!t133) x102000 x102001 x103000 x103001))) else (isobathlaw01_BoundHolds.j6 k x6 x7 x8 x19 x20 false x102000 x102001 x103000 x103001)))
def isobathlaw01_BoundHolds.j6 : Nat → Int → Int → Int → Int → Int → Bool → Int → Int → Int → Int → Option (Bool)
 | 0, _, _, _, _, _, _, _, _, _, _ => none
 | k + 1, x6, x7, x8, x19, x20, x195, x102000, x102001, x103000, x103001 => if x195 = true then (none) else ((bound_Line.f k x6 x102000 x102001 x7 x103000 x103001 x8).bind fun bt134 => (if bt134.2.2 = 0 then (if x7 ≤ x6 then (none) else ((isobathlaw01_between.f bt134.1 bt134.2.1 (wrap64 ((wrap64 (x19 * (wrap64 (x7 - x8)))) + (wrap64 (x20 * (wrap64 (x8 - x6)))))) (wrap64 (x7 - x6))).bind fun t137 => (if t137 = true then ((isobathlaw01_Works.f k).bind fun t138 => (some t138)) else (none)))) else ((isobathlaw01_Works.f k).bind fun t139 => (some t139))))
end
def isobathlaw01_BoundHolds.f (k : Nat) (a0_0 : Int) (a0_1 : Int) (a1_0 : Int) (a1_1 : Int) (a2 : Int) (a3 : Int) (a4 : Int) (a5 : Int) (a6 : Int) (a7 : Int) (a8 : Int) : Option (Bool) := (isobathref01_Valid.f a0_0 a0_1).bind fun t103 => (if t103 = true then ((isobathref01_Valid.f a1_0 a1_1).bind fun t104 => (isobathlaw01_BoundHolds.j0 k a2 a3 a4 a5 a6 a7 a8 (!t104) a0_0 a0_1 a1_0 a1_1)) else (isobathlaw01_BoundHolds.j0 k a2 a3 a4 a5 a6 a7 a8 true a0_0 a0_1 a1_0 a1_1))
def isobathlaw01_BoundHolds.T3 : Bool × List (List Nat × List Nat) := (true, [([], []), ([], []), ([0, 1], [0, 1]), ([], []), ([], []), ([3, 4, 2], [3, 4]), ([2, 5, 0, 1, 2], [2]), ([5, 6, 0, 1, 2, 3, 4, 5, 6], [5])])
def isobathlaw01_BoundHolds.B3 : List Nat := [0, 0, 3, 0, 0, 31, 63, 127]
theorem isobathlaw01_BoundHolds.tab3 : rtab .any (opsOf Try.f14 3) = isobathlaw01_BoundHolds.T3 := by kernel_rfl
theorem isobathlaw01_BoundHolds.bits3 : waitsOk isobathlaw01_BoundHolds.T3.2 isobathlaw01_BoundHolds.B3 = true := by kernel_rfl
set_option maxHeartbeats 8000000 in
set_option maxRecDepth 100000 in
theorem isobathlaw01_BoundHolds.calls (k : Nat) (a0_0 : Int) (a0_1 : Int) (a1_0 : Int) (a1_1 : Int) (a2 : Int) (a3 : Int) (a4 : Int) (a5 : Int) (a6 : Int) (a7 : Int) (a8 : Int) (r : Bool) (w : World) (h : isobathlaw01_BoundHolds.f k a0_0 a0_1 a1_0 a1_1 a2 a3 a4 a5 a6 a7 a8 = some r) :
  Calls Try.prog 14 #[.agg #[.int .i64 a0_0, .int .i64 a0_1], .agg #[.int .i64 a1_0, .int .i64 a1_1], .int .u16 a2, .int .u16 a3, .int .i64 a4, .int .i64 a5, .int .i64 a6, .int .i64 a7, .int .i64 a8] w fun e w' => e = .returned (.bool r) ∧ Below w.heap.size w w' := by
 have hu32 := Try.underlying32
 have HB := zam (Below.refl w.heap.size w)
 have H : ((isobathref01_Valid.f a0_0 a0_1).bind fun t103 => (if t103 = true then ((isobathref01_Valid.f a1_0 a1_1).bind fun t104 => (isobathlaw01_BoundHolds.j0 k a2 a3 a4 a5 a6 a7 a8 (!t104) a0_0 a0_1 a1_0 a1_1)) else (isobathlaw01_BoundHolds.j0 k a2 a3 a4 a5 a6 a7 a8 true a0_0 a0_1 a1_0 a1_1))) = some r := h
 clear h
 have HC10 := zam H
 clear H
 go_enter Try.func14, Try.ntmps14
 go_upto_region 1 with (first | ((with_reducible refine zgd (N := 9) rfl ?_); refine box_event ?hg (N := 9) ?hd (cs := #[.int .i64 a0_0, .int .i64 a0_1]) (t := 32) ?hr ?_; (case hd => rfl); (case hg => rfl); (case hr => first | (go_simp; done) | (go_simp; rfl)); intro gb101 hg w11 hbox hb; have n0_ := zam (zbt (by repeat (first | (with_reducible first | exact HB.out | apply zba | apply zbn | apply zb1) | exact HB.out)) hb); have n1_ := zam (hbox); have n2_ := zam ((by rw [hg]; exact (zbz (by repeat (first | (with_reducible first | exact HB.out | apply zba | apply zbn | apply zb1) | exact HB.out))) : w.heap.size ≤ gb101)); have n3_ := zam ((by rw [hg]; exact (zbz (by repeat (first | (with_reducible first | exact HB.out | apply zba | apply zbn | apply zb1) | exact HB.out))) : w.heap.size ≤ gb101)); clear HB; have HB := n0_; have BK101 := n1_; have GW101 := n2_; have GE101 := n3_; clear n0_ n1_ n2_ n3_; clear hb hbox hg) | ((with_reducible refine zgd (N := 10) rfl ?_); refine box_event ?hg (N := 10) ?hd (cs := #[.int .i64 a1_0, .int .i64 a1_1]) (t := 32) ?hr ?_; (case hd => rfl); (case hg => rfl); (case hr => first | (go_simp; done) | (go_simp; rfl)); intro gb102 hg w12 hbox hb; have n0_ := zam (zkb (g := gb101) (o := .cells #[.int .i64 a0_0, .int .i64 a0_1] 32 (0, 0)) (by (with_reducible repeat (first | refine zkn ?_ _ | refine zkd ?_ | refine zka ?_ _)); exact BK101.out) hb); have n1_ := zam (zbt (by repeat (first | (with_reducible first | exact HB.out | apply zba | apply zbn | apply zb1 | refine zbs ?_ GE101.out) | exact HB.out)) hb); have n2_ := zam (hbox); have n3_ := zam ((by rw [hg]; exact (zbz (by repeat (first | (with_reducible first | exact HB.out | apply zba | apply zbn | apply zb1 | refine zbs ?_ GE101.out) | exact HB.out))) : w.heap.size ≤ gb102)); have n4_ := zam ((by rw [hg]; exact (zbz (by repeat (first | (with_reducible first | exact HB.out | apply zba | apply zbn | apply zb1 | refine zbs ?_ GE101.out) | exact HB.out))) : w.heap.size ≤ gb102)); have n5_ := zam ((by rw [hg]; exact Nat.ne_of_lt (blk_lt (g := gb101) (o := .cells #[.int .i64 a0_0, .int .i64 a0_1] 32 (0, 0)) (by (with_reducible repeat (first | refine zkn ?_ _ | refine zkd ?_ | refine zka ?_ _)); exact BK101.out)) : gb101 ≠ gb102)); have n6_ := zam ((by rw [hg]; exact Nat.ne_of_gt (blk_lt (g := gb101) (o := .cells #[.int .i64 a0_0, .int .i64 a0_1] 32 (0, 0)) (by (with_reducible repeat (first | refine zkn ?_ _ | refine zkd ?_ | refine zka ?_ _)); exact BK101.out)) : gb102 ≠ gb101)); clear BK101; clear HB; have BK101 := n0_; have HB := n1_; have BK102 := n2_; have GW102 := n3_; have GE102 := n4_; have NB101_102 := n5_; have NB102_101 := n6_; clear n0_ n1_ n2_ n3_ n4_ n5_ n6_; clear hb hbox hg))
 (try simp only [Act.put, zsa, zsz, zss])
 go_cut [30] (fun v30 wc => ∃ (kq : Nat) (x30_9 : Bool), v30 = .bool x30_9 ∧ Aside0 (isobathlaw01_BoundHolds.j0 kq a2 a3 a4 a5 a6 a7 a8 x30_9 a0_0 a0_1 a1_0 a1_1 = some r) ∧ Aside0 (kq ≤ k) ∧ Aside0 (wc.heap[gb101]? = some (.cells #[.int .i64 a0_0, .int .i64 a0_1] 32 (0, 0))) ∧ Aside0 (wc.heap[gb102]? = some (.cells #[.int .i64 a1_0, .int .i64 a1_1] 32 (0, 0))) ∧ Aside0 (Below w.heap.size w wc))
 case first =>
  have H := HC10.out
  clear HC10
  replace H := Option.bind_eq_some_iff.mp H
  obtain ⟨t103, A130, H⟩ := H
  replace H : (if t103 = true then ((isobathref01_Valid.f a1_0 a1_1).bind fun t104 => (isobathlaw01_BoundHolds.j0 k a2 a3 a4 a5 a6 a7 a8 (!t104) a0_0 a0_1 a1_0 a1_1)) else (isobathlaw01_BoundHolds.j0 k a2 a3 a4 a5 a6 a7 a8 true a0_0 a0_1 a1_0 a1_1)) = some r := H
  have A13 := zam A130
  clear A130
  by_cases c14 : t103 = true
  ·subst c14
   have H1 : ((isobathref01_Valid.f a1_0 a1_1).bind fun t104 => (isobathlaw01_BoundHolds.j0 k a2 a3 a4 a5 a6 a7 a8 (!t104) a0_0 a0_1 a1_0 a1_1)) = some r := by rw [if_pos rfl] at H; exact H
   clear H
   have H := H1
   clear H1
   replace H := Option.bind_eq_some_iff.mp H
   obtain ⟨t104, A150, H⟩ := H
   replace H : (isobathlaw01_BoundHolds.j0 k a2 a3 a4 a5 a6 a7 a8 (!t104) a0_0 a0_1 a1_0 a1_1) = some r := H
   have A15 := zam A150
   clear A150
   as_aux_lemma =>
    have H' := zam H
    clear H
    have hnb16 := NB101_102.out
    have hnc16 := NB102_101.out
    have hcz17_0 : w12.cell? ⟨gb101, 0, none⟩ = some (.int .i64 a0_0) := (zkc BK101.out 0).trans rfl
    have hcz17_1 : w12.cell? ⟨gb101, 1, none⟩ = some (.int .i64 a0_1) := (zkc BK101.out 1).trans rfl
    have hfz17_0 := zkz BK101.out 0
    have hfz17_1 := zkz BK101.out 1
    go_wp2_with (first | ((with_reducible refine zgc (f := 22) rfl ?_); refine goesL_ (some 24) rfl rfl Try.func22 (by kernel_rfl) rfl #[.agg #[.int .i64 a0_0, .int .i64 a0_1]] rfl (by (try simp only [zmt, List.map_cons, List.map_nil]); first | done | rfl | (simp only [zld, zlt]; rfl)) ?_; (with_reducible refine (isobathref01_Valid.calls a0_0 a0_1 true _ A13.out).mono ?_); rintro e w18 ⟨rfl, hb⟩; refine ⟨_, rfl, ?_⟩; have n0_ := zam (zkb (g := gb101) (o := .cells #[.int .i64 a0_0, .int .i64 a0_1] 32 (0, 0)) (by (with_reducible repeat (first | refine zkn ?_ _ | refine zkd ?_ | refine zka ?_ _)); exact BK101.out) hb); have n1_ := zam (zkb (g := gb102) (o := .cells #[.int .i64 a1_0, .int .i64 a1_1] 32 (0, 0)) (by (with_reducible repeat (first | refine zkn ?_ _ | refine zkd ?_ | refine zka ?_ _)); exact BK102.out) hb); have n2_ := zam (zbt (by repeat (first | (with_reducible first | exact HB.out | apply zba | apply zbn | apply zb1 | refine zbs ?_ GE101.out | refine zbs ?_ GE102.out) | exact HB.out)) hb); clear BK101; clear BK102; clear HB; have BK101 := n0_; have BK102 := n1_; have HB := n2_; clear n0_ n1_ n2_; (try clear hb); (try clear hb2); (try clear hk); (try clear hi); have hcz19_0 : w18.cell? ⟨gb102, 0, none⟩ = some (.int .i64 a1_0) := (zkc BK102.out 0).trans rfl; have hcz19_1 : w18.cell? ⟨gb102, 1, none⟩ = some (.int .i64 a1_1) := (zkc BK102.out 1).trans rfl; have hfz19_0 := zkz BK102.out 0; have hfz19_1 := zkz BK102.out 1) | (go_at_call 22; (with_reducible refine (isobathref01_Valid.calls a1_0 a1_1 t104 _ A15.out).mono ?_); rintro e w20 ⟨rfl, hb⟩; have n0_ := zam (zkb (g := gb101) (o := .cells #[.int .i64 a0_0, .int .i64 a0_1] 32 (0, 0)) (by (with_reducible repeat (first | refine zkn ?_ _ | refine zkd ?_ | refine zka ?_ _)); exact BK101.out) hb); have n1_ := zam (zkb (g := gb102) (o := .cells #[.int .i64 a1_0, .int .i64 a1_1] 32 (0, 0)) (by (with_reducible repeat (first | refine zkn ?_ _ | refine zkd ?_ | refine zka ?_ _)); exact BK102.out) hb); have n2_ := zam (zbt (by repeat (first | (with_reducible first | exact HB.out | apply zba | apply zbn | apply zb1 | refine zbs ?_ GE101.out | refine zbs ?_ GE102.out) | exact HB.out)) hb); clear BK101; clear BK102; clear HB; have BK101 := n0_; have BK102 := n1_; have HB := n2_; clear n0_ n1_ n2_; (try clear hb); (try clear hb2); (try clear hk); (try clear hi)))
    go_meet
    case rel => exact ⟨_, (!t104), (by first | rfl | (simp; done) | (simp [*]; done)), H', ⟨by first | omega | exact Nat.le_refl _⟩, ⟨by (with_reducible repeat (first | refine zkn ?_ _ | refine zkd ?_ | refine zka ?_ _)); exact BK101.out⟩, ⟨by (with_reducible repeat (first | refine zkn ?_ _ | refine zkd ?_ | refine zka ?_ _)); exact BK102.out⟩, ⟨by repeat (first | (with_reducible first | exact HB.out | apply zba | apply zbn | apply zb1 | refine zbs ?_ GE101.out | refine zbs ?_ GE102.out) | exact HB.out)⟩⟩
  replace c14 := Bool.eq_false_iff.mpr c14
  subst c14
  have H1 : (isobathlaw01_BoundHolds.j0 k a2 a3 a4 a5 a6 a7 a8 true a0_0 a0_1 a1_0 a1_1) = some r := by rw [if_neg (show ¬ (false = true) by decide)] at H; exact H
  clear H
  have H := H1
  clear H1
  as_aux_lemma =>
   have H' := zam H
   clear H
   have hnb21 := NB101_102.out
   have hnc21 := NB102_101.out
   have hcz22_0 : w12.cell? ⟨gb101, 0, none⟩ = some (.int .i64 a0_0) := (zkc BK101.out 0).trans rfl
   have hcz22_1 : w12.cell? ⟨gb101, 1, none⟩ = some (.int .i64 a0_1) := (zkc BK101.out 1).trans rfl
   have hfz22_0 := zkz BK101.out 0
   have hfz22_1 := zkz BK101.out 1
   go_wp2_with (first | ((with_reducible refine zgc (f := 22) rfl ?_); refine goesL_ (some 24) rfl rfl Try.func22 (by kernel_rfl) rfl #[.agg #[.int .i64 a0_0, .int .i64 a0_1]] rfl (by (try simp only [zmt, List.map_cons, List.map_nil]); first | done | rfl | (simp only [zld, zlt]; rfl)) ?_; (with_reducible refine (isobathref01_Valid.calls a0_0 a0_1 false _ A13.out).mono ?_); rintro e w23 ⟨rfl, hb⟩; refine ⟨_, rfl, ?_⟩; have n0_ := zam (zkb (g := gb101) (o := .cells #[.int .i64 a0_0, .int .i64 a0_1] 32 (0, 0)) (by (with_reducible repeat (first | refine zkn ?_ _ | refine zkd ?_ | refine zka ?_ _)); exact BK101.out) hb); have n1_ := zam (zkb (g := gb102) (o := .cells #[.int .i64 a1_0, .int .i64 a1_1] 32 (0, 0)) (by (with_reducible repeat (first | refine zkn ?_ _ | refine zkd ?_ | refine zka ?_ _)); exact BK102.out) hb); have n2_ := zam (zbt (by repeat (first | (with_reducible first | exact HB.out | apply zba | apply zbn | apply zb1 | refine zbs ?_ GE101.out | refine zbs ?_ GE102.out) | exact HB.out)) hb); clear BK101; clear BK102; clear HB; have BK101 := n0_; have BK102 := n1_; have HB := n2_; clear n0_ n1_ n2_; (try clear hb); (try clear hb2); (try clear hk); (try clear hi)))
   go_meet
   case rel => exact ⟨_, (true), (by first | rfl | (simp; done) | (simp [*]; done)), H', ⟨by first | omega | exact Nat.le_refl _⟩, ⟨by (with_reducible repeat (first | refine zkn ?_ _ | refine zkd ?_ | refine zka ?_ _)); exact BK101.out⟩, ⟨by (with_reducible repeat (first | refine zkn ?_ _ | refine zkd ?_ | refine zka ?_ _)); exact BK102.out⟩, ⟨by repeat (first | (with_reducible first | exact HB.out | apply zba | apply zbn | apply zb1 | refine zbs ?_ GE101.out | refine zbs ?_ GE102.out) | exact HB.out)⟩⟩
 case rest =>
  clear HC10
  try clear c1
  try clear c2
  try clear p2
  try clear c14
  try clear c16
  try clear c21
  try clear c22
  try clear hcz17_0
  try clear hcz17_1
  try clear hcz19_0
  try clear hcz19_1
  try clear hcz22_0
  try clear hcz22_1
  try clear hfz17_0
  try clear hfz17_1
  try clear hfz19_0
  try clear hfz19_1
  try clear hfz22_0
  try clear hfz22_1
  obtain ⟨kq, x30_9, rfl, HA, HJ9, BK101, BK102, HB⟩ := hcut
  as_aux_lemma =>
   cases kq with
   | zero => exact absurd HA.out (by simp [isobathlaw01_BoundHolds.j0])
   | succ kj9 =>
    have H := HA.out
    clear HA
    simp only [isobathlaw01_BoundHolds.j0] at H
    by_cases c24 : x30_9 = true
    ·subst c24
     have H1 : ((isobathlaw01_Works.f kj9).bind fun t105 => (some t105)) = some r := by rw [if_pos rfl] at H; exact H
     clear H
     have H := H1
     clear H1
     replace H := Option.bind_eq_some_iff.mp H
     obtain ⟨t105, A250, H⟩ := H
     replace H : (some t105) = some r := H
     have A25 := zam A250
     clear A250
     as_aux_lemma =>
      obtain rfl := zsi H
      go_wp2_with (first | ((with_reducible refine zgc (f := 18) rfl ?_); refine goesL_ (some 31) rfl rfl Try.func18 (by kernel_rfl) rfl #[] rfl (by (try simp only [zmt, List.map_cons, List.map_nil]); first | done | rfl | (simp only [zld, zlt]; rfl)) ?_; (with_reducible refine (isobathlaw01_Works.calls kj9  t105 _ A25.out).mono ?_); rintro e w26 ⟨rfl, hb⟩; refine ⟨_, rfl, ?_⟩; have n0_ := zam (zkb (g := gb101) (o := .cells #[.int .i64 a0_0, .int .i64 a0_1] 32 (0, 0)) (by (with_reducible repeat (first | refine zkn ?_ _ | refine zkd ?_ | refine zka ?_ _)); exact BK101.out) hb); have n1_ := zam (zkb (g := gb102) (o := .cells #[.int .i64 a1_0, .int .i64 a1_1] 32 (0, 0)) (by (with_reducible repeat (first | refine zkn ?_ _ | refine zkd ?_ | refine zka ?_ _)); exact BK102.out) hb); have n2_ := zam (zbt (by repeat (first | (with_reducible first | exact HB.out | apply zba | apply zbn | apply zb1 | refine zbs ?_ GE101.out | refine zbs ?_ GE102.out) | exact HB.out)) hb); clear BK101; clear BK102; clear HB; have BK101 := n0_; have BK102 := n1_; have HB := n2_; clear n0_ n1_ n2_; (try clear hb); (try clear hb2); (try clear hk); (try clear hi)))
      go_ret
      exact ⟨by first | rfl | (simp [errW_none, errW_some] <;> rfl) | (simp [*, errW_none, errW_some] <;> rfl), by repeat (first | (with_reducible first | exact HB.out | apply zba | apply zbn | apply zb1 | refine zbs ?_ GE101.out | refine zbs ?_ GE102.out) | exact HB.out)⟩
    replace c24 := Bool.eq_false_iff.mpr c24
    subst c24
    have H1 : ((isobathlaw01_Part.f a0_0 a0_1 a2).bind fun t106 => ((isobathlaw01_Part.f a1_0 a1_1 a3).bind fun t107 => ((bound_Add.f kj9 a0_0 a0_1 a1_0 a1_1).bind fun bt108 => (if bt108.2.2 = 0 then ((isobathlaw01_holds.f bt108.1 bt108.2.1 (wrap64 (t106 + t107))).bind fun t112 => (if t112 = true then (isobathlaw01_BoundHolds.j1 kj9 a4 a5 a6 a7 a8 t106 t107 false a0_0 a0_1 a1_0 a1_1) else (none))) else (isobathlaw01_BoundHolds.j1 kj9 a4 a5 a6 a7 a8 t106 t107 (bt108.2.2 != 4) a0_0 a0_1 a1_0 a1_1))))) = some r := by rw [if_neg (show ¬ (false = true) by decide)] at H; exact H
    clear H
    have H := H1
    clear H1
    replace H := Option.bind_eq_some_iff.mp H
    obtain ⟨t106, A270, H⟩ := H
    replace H : ((isobathlaw01_Part.f a1_0 a1_1 a3).bind fun t107 => ((bound_Add.f kj9 a0_0 a0_1 a1_0 a1_1).bind fun bt108 => (if bt108.2.2 = 0 then ((isobathlaw01_holds.f bt108.1 bt108.2.1 (wrap64 (t106 + t107))).bind fun t112 => (if t112 = true then (isobathlaw01_BoundHolds.j1 kj9 a4 a5 a6 a7 a8 t106 t107 false a0_0 a0_1 a1_0 a1_1) else (none))) else (isobathlaw01_BoundHolds.j1 kj9 a4 a5 a6 a7 a8 t106 t107 (bt108.2.2 != 4) a0_0 a0_1 a1_0 a1_1)))) = some r := H
    have A27 := zam A270
    clear A270
    replace H := Option.bind_eq_some_iff.mp H
    obtain ⟨t107, A280, H⟩ := H
    replace H : ((bound_Add.f kj9 a0_0 a0_1 a1_0 a1_1).bind fun bt108 => (if bt108.2.2 = 0 then ((isobathlaw01_holds.f bt108.1 bt108.2.1 (wrap64 (t106 + t107))).bind fun t112 => (if t112 = true then (isobathlaw01_BoundHolds.j1 kj9 a4 a5 a6 a7 a8 t106 t107 false a0_0 a0_1 a1_0 a1_1) else (none))) else (isobathlaw01_BoundHolds.j1 kj9 a4 a5 a6 a7 a8 t106 t107 (bt108.2.2 != 4) a0_0 a0_1 a1_0 a1_1))) = some r := H
    have A28 := zam A280
    clear A280
    replace H := Option.bind_eq_some_iff.mp H
    obtain ⟨⟨t108, t109, t110⟩, A290, H⟩ := H
    replace H : (if t110 = 0 then ((isobathlaw01_holds.f t108 t109 (wrap64 (t106 + t107))).bind fun t112 => (if t112 = true then (isobathlaw01_BoundHolds.j1 kj9 a4 a5 a6 a7 a8 t106 t107 false a0_0 a0_1 a1_0 a1_1) else (none))) else (isobathlaw01_BoundHolds.j1 kj9 a4 a5 a6 a7 a8 t106 t107 (t110 != 4) a0_0 a0_1 a1_0 a1_1)) = some r := H
    have A29 := zam A290
    clear A290
    have HC30 := zam H
    clear H
    try go_wp2
    have n0_ := zam (zkd BK101.out)
    have n1_ := zam (zkd BK102.out)
    have n2_ := zam (zb1 HB.out)
    clear BK101
    clear BK102
    clear HB
    have BK101 := n0_
    have BK102 := n1_
    have HB := n2_
    clear n0_ n1_ n2_
    refine start_ (n := 8) (S := fun w' => w'.cell? ⟨gb101, 0, none⟩ = some (.int .i64 a0_0) ∧ w'.cell? ⟨gb101, 1, none⟩ = some (.int .i64 a0_1) ∧ w'.cell? ⟨gb102, 0, none⟩ = some (.int .i64 a1_0) ∧ w'.cell? ⟨gb102, 1, none⟩ = some (.int .i64 a1_1)) (ds := []) #[false, false, false, false, false, false, false, false] (by kernel_rfl) rfl rfl ⟨(zkc BK101.out 0).trans rfl, (zkc BK101.out 1).trans rfl, (zkc BK102.out 0).trans rfl, (zkc BK102.out 1).trans rfl⟩ (fun hHeld => ?_); refine with_tabW isobathlaw01_BoundHolds.tab3 isobathlaw01_BoundHolds.bits3 (fun HT_ HW_ => ?_)
    generalize wc.drew = w31 at BK101 BK102 HB hHeld ⊢
    refine pure_ (i := 1) (N := some 33) (v := ?_) (a' := ?_) #[false, true, false, false, false, false, false, false] rfl rfl (any_of HT_.out (by kernel_rfl)) (fun _ _ _ h => h) (Or.inl ⟨by rfl, ?_⟩) ?_ ?_
    rotate_left
    ·intro w'
     go_simp
     with_reducible rfl
    rotate_left
    ·simp only [Act.put, zsa, zsz, zss, i64_w, i32_w]
     rfl
    refine pure_ (i := 4) (N := some 36) (v := ?_) (a' := ?_) #[false, true, false, false, true, false, false, false] rfl rfl (any_of HT_.out (by kernel_rfl)) (fun _ _ _ h => h) (Or.inl ⟨by rfl, ?_⟩) ?_ ?_
    rotate_left
    ·intro w'
     go_simp
     with_reducible rfl
    rotate_left
    ·simp only [Act.put, zsa, zsz, zss, i64_w, i32_w]
     rfl
    refine take_ (i := 0) (N := some 32) (v := ?_) (a' := ?_) #[true, true, false, false, true, false, false, false] rfl rfl (take_ofW HT_.out HW_.out (by kernel_rfl)) (fun _ _ _ h => h) (Or.inl ⟨by rfl, ?_⟩) hHeld ?_ ?_
    rotate_left
    ·rintro w' ⟨s0, s1, s2, s3⟩
     go_simp
     with_reducible rfl
    rotate_left
    ·simp only [Act.put, zsa, zsz, zss, i64_w, i32_w]
     rfl
    refine take_ (i := 3) (N := some 35) (v := ?_) (a' := ?_) #[true, true, false, true, true, false, false, false] rfl rfl (take_ofW HT_.out HW_.out (by kernel_rfl)) (fun _ _ _ h => h) (Or.inl ⟨by rfl, ?_⟩) hHeld ?_ ?_
    rotate_left
    ·rintro w' ⟨s0, s1, s2, s3⟩
     go_simp
     with_reducible rfl
    rotate_left
    ·simp only [Act.put, zsa, zsz, zss, i64_w, i32_w]
     rfl
    refine one_ (i := 2) (N := some 34) #[true, true, true, true, true, false, false, false] rfl rfl (one_of HT_.out (by kernel_rfl)) (by decide) (fun K hK => ?_)
    refine goes_ Try.func23 (by kernel_rfl) rfl #[.agg #[.int .i64 a0_0, .int .i64 a0_1], .int .u16 a2] (by rfl) rfl rfl (by (try simp only [zmt, List.map_cons, List.map_nil]); first | done | rfl | (simp only [zld, zlt]; rfl)) ?_
    with_reducible refine (isobathlaw01_Part.calls a0_0 a0_1 a2 t106 _ A27.out).mono ?_
    rintro e w32 ⟨rfl, hb⟩
    refine ⟨_, rfl, ?_⟩
    have n0_ := zam (zkb (g := gb101) (o := .cells #[.int .i64 a0_0, .int .i64 a0_1] 32 (0, 0)) (by (with_reducible repeat (first | refine zkn ?_ _ | refine zkd ?_ | refine zka ?_ _)); exact BK101.out) hb)
    have n1_ := zam (zkb (g := gb102) (o := .cells #[.int .i64 a1_0, .int .i64 a1_1] 32 (0, 0)) (by (with_reducible repeat (first | refine zkn ?_ _ | refine zkd ?_ | refine zka ?_ _)); exact BK102.out) hb)
    have n2_ := zam (zbt (by repeat (first | (with_reducible first | exact HB.out | apply zba | apply zbn | apply zb1 | refine zbs ?_ GE101.out | refine zbs ?_ GE102.out) | exact HB.out)) hb)
    clear BK101
    clear BK102
    clear HB
    have BK101 := n0_
    have BK102 := n1_
    have HB := n2_
    clear n0_ n1_ n2_
    (try clear hb)
    (try clear hb2)
    (try clear hk)
    (try clear hi)
    refine hK.out _ _ ⟨(zkc BK101.out 0).trans rfl, (zkc BK101.out 1).trans rfl, (zkc BK102.out 0).trans rfl, (zkc BK102.out 1).trans rfl⟩ (fun hHeld => ?_)
    clear hK K
    refine norm_ (a' := ?_) ?_ ?_
    rotate_left
    ·show Act.put _ (some 34) _ = _
     simp only [Act.put, zsa, zsz, zss, i64_w, i32_w]
     rfl
    refine one_ (i := 5) (N := some 37) #[true, true, true, true, true, true, false, false] rfl rfl (one_of HT_.out (by kernel_rfl)) (by decide) (fun K hK => ?_)
    refine goes_ Try.func23 (by kernel_rfl) rfl #[.agg #[.int .i64 a1_0, .int .i64 a1_1], .int .u16 a3] (by rfl) rfl rfl (by (try simp only [zmt, List.map_cons, List.map_nil]); first | done | rfl | (simp only [zld, zlt]; rfl)) ?_
    with_reducible refine (isobathlaw01_Part.calls a1_0 a1_1 a3 t107 _ A28.out).mono ?_
    rintro e w33 ⟨rfl, hb⟩
    refine ⟨_, rfl, ?_⟩
    have n0_ := zam (zkb (g := gb101) (o := .cells #[.int .i64 a0_0, .int .i64 a0_1] 32 (0, 0)) (by (with_reducible repeat (first | refine zkn ?_ _ | refine zkd ?_ | refine zka ?_ _)); exact BK101.out) hb)
    have n1_ := zam (zkb (g := gb102) (o := .cells #[.int .i64 a1_0, .int .i64 a1_1] 32 (0, 0)) (by (with_reducible repeat (first | refine zkn ?_ _ | refine zkd ?_ | refine zka ?_ _)); exact BK102.out) hb)
    have n2_ := zam (zbt (by repeat (first | (with_reducible first | exact HB.out | apply zba | apply zbn | apply zb1 | refine zbs ?_ GE101.out | refine zbs ?_ GE102.out) | exact HB.out)) hb)
    clear BK101
    clear BK102
    clear HB
    have BK101 := n0_
    have BK102 := n1_
    have HB := n2_
    clear n0_ n1_ n2_
    (try clear hb)
    (try clear hb2)
    (try clear hk)
    (try clear hi)
    refine hK.out _ _ ⟨(zkc BK101.out 0).trans rfl, (zkc BK101.out 1).trans rfl, (zkc BK102.out 0).trans rfl, (zkc BK102.out 1).trans rfl⟩ (fun hHeld => ?_)
    clear hK K
    refine norm_ (a' := ?_) ?_ ?_
    rotate_left
    ·show Act.put _ (some 37) _ = _
     simp only [Act.put, zsa, zsz, zss, i64_w, i32_w]
     rfl
    refine pure_ (i := 6) (N := some 19) (v := ?_) (a' := ?_) #[true, true, true, true, true, true, true, false] rfl rfl (any_of HT_.out (by kernel_rfl)) (fun _ _ _ h => h) (Or.inl ⟨by rfl, ?_⟩) ?_ ?_
    rotate_left
    ·intro w'
     go_simp
     with_reducible rfl
    rotate_left
    ·simp only [Act.put, zsa, zsz, zss, i64_w, i32_w]
     rfl
    refine pure_ (i := 7) (N := some 20) (v := ?_) (a' := ?_) #[true, true, true, true, true, true, true, true] rfl rfl (any_of HT_.out (by kernel_rfl)) (fun _ _ _ h => h) (Or.inl ⟨by rfl, ?_⟩) ?_ ?_
    rotate_left
    ·intro w'
     go_simp
     with_reducible rfl
    rotate_left
    ·simp only [Act.put, zsa, zsz, zss, i64_w, i32_w]
     rfl
    refine done_ (done_of HT_.out (by kernel_rfl)) ?_
    have hnb34 := NB101_102.out
    have hnc34 := NB102_101.out
    have hcz35_0 : w33.cell? ⟨gb101, 0, none⟩ = some (.int .i64 a0_0) := (zkc BK101.out 0).trans rfl
    have hcz35_1 : w33.cell? ⟨gb101, 1, none⟩ = some (.int .i64 a0_1) := (zkc BK101.out 1).trans rfl
    have hfz35_0 := zkz BK101.out 0
    have hfz35_1 := zkz BK101.out 1
    have hcz36_0 : w33.cell? ⟨gb102, 0, none⟩ = some (.int .i64 a1_0) := (zkc BK102.out 0).trans rfl
    have hcz36_1 : w33.cell? ⟨gb102, 1, none⟩ = some (.int .i64 a1_1) := (zkc BK102.out 1).trans rfl
    have hfz36_0 := zkz BK102.out 0
    have hfz36_1 := zkz BK102.out 1
    go_upto_region 5 with (first | ((with_reducible refine zgc (f := 27) rfl ?_); refine goesL_ (some 41) rfl rfl Try.func27 (by kernel_rfl) rfl #[.agg #[.int .i64 a0_0, .int .i64 a0_1], .agg #[.int .i64 a1_0, .int .i64 a1_1]] rfl (by (try simp only [zmt, List.map_cons, List.map_nil]); first | done | rfl | (simp only [zld, zlt]; rfl)) ?_; (with_reducible refine (bound_Add.calls kj9 a0_0 a0_1 a1_0 a1_1 t108 t109 t110 _ A29.out).mono ?_); rintro e w37 ⟨rfl, hb⟩; refine ⟨_, rfl, ?_⟩; have n0_ := zam (zkb (g := gb101) (o := .cells #[.int .i64 a0_0, .int .i64 a0_1] 32 (0, 0)) (by (with_reducible repeat (first | refine zkn ?_ _ | refine zkd ?_ | refine zka ?_ _)); exact BK101.out) hb); have n1_ := zam (zkb (g := gb102) (o := .cells #[.int .i64 a1_0, .int .i64 a1_1] 32 (0, 0)) (by (with_reducible repeat (first | refine zkn ?_ _ | refine zkd ?_ | refine zka ?_ _)); exact BK102.out) hb); have n2_ := zam (zbt (by repeat (first | (with_reducible first | exact HB.out | apply zba | apply zbn | apply zb1 | refine zbs ?_ GE101.out | refine zbs ?_ GE102.out) | exact HB.out)) hb); clear BK101; clear BK102; clear HB; have BK101 := n0_; have BK102 := n1_; have HB := n2_; clear n0_ n1_ n2_; (try clear hb); (try clear hb2); (try clear hk); (try clear hi)) | ((with_reducible refine zgd (N := 21) rfl ?_); refine box_event ?hg (N := 21) ?hd (cs := #[.int .i64 0, .int .i64 0]) (t := 32) ?hr ?_; (case hd => rfl); (case hg => rfl); (case hr => first | (go_simp; done) | (go_simp; rfl)); intro gb111 hg w38 hbox hb; have n0_ := zam (zkb (g := gb101) (o := .cells #[.int .i64 a0_0, .int .i64 a0_1] 32 (0, 0)) (by (with_reducible repeat (first | refine zkn ?_ _ | refine zkd ?_ | refine zka ?_ _)); exact BK101.out) hb); have n1_ := zam (zkb (g := gb102) (o := .cells #[.int .i64 a1_0, .int .i64 a1_1] 32 (0, 0)) (by (with_reducible repeat (first | refine zkn ?_ _ | refine zkd ?_ | refine zka ?_ _)); exact BK102.out) hb); have n2_ := zam (zbt (by repeat (first | (with_reducible first | exact HB.out | apply zba | apply zbn | apply zb1 | refine zbs ?_ GE101.out | refine zbs ?_ GE102.out) | exact HB.out)) hb); have n3_ := zam (hbox); have n4_ := zam ((by rw [hg]; exact (zbz (by repeat (first | (with_reducible first | exact HB.out | apply zba | apply zbn | apply zb1 | refine zbs ?_ GE101.out | refine zbs ?_ GE102.out) | exact HB.out))) : w.heap.size ≤ gb111)); have n5_ := zam ((by rw [hg]; exact (zbz (by repeat (first | (with_reducible first | exact HB.out | apply zba | apply zbn | apply zb1 | refine zbs ?_ GE101.out | refine zbs ?_ GE102.out) | exact HB.out))) : w.heap.size ≤ gb111)); have n6_ := zam ((by rw [hg]; exact Nat.ne_of_lt (blk_lt (g := gb101) (o := .cells #[.int .i64 a0_0, .int .i64 a0_1] 32 (0, 0)) (by (with_reducible repeat (first | refine zkn ?_ _ | refine zkd ?_ | refine zka ?_ _)); exact BK101.out)) : gb101 ≠ gb111)); have n7_ := zam ((by rw [hg]; exact Nat.ne_of_gt (blk_lt (g := gb101) (o := .cells #[.int .i64 a0_0, .int .i64 a0_1] 32 (0, 0)) (by (with_reducible repeat (first | refine zkn ?_ _ | refine zkd ?_ | refine zka ?_ _)); exact BK101.out)) : gb111 ≠ gb101)); have n8_ := zam ((by rw [hg]; exact Nat.ne_of_lt (blk_lt (g := gb102) (o := .cells #[.int .i64 a1_0, .int .i64 a1_1] 32 (0, 0)) (by (with_reducible repeat (first | refine zkn ?_ _ | refine zkd ?_ | refine zka ?_ _)); exact BK102.out)) : gb102 ≠ gb111)); have n9_ := zam ((by rw [hg]; exact Nat.ne_of_gt (blk_lt (g := gb102) (o := .cells #[.int .i64 a1_0, .int .i64 a1_1] 32 (0, 0)) (by (with_reducible repeat (first | refine zkn ?_ _ | refine zkd ?_ | refine zka ?_ _)); exact BK102.out)) : gb111 ≠ gb102)); clear BK101; clear BK102; clear HB; have BK101 := n0_; have BK102 := n1_; have HB := n2_; have BK111 := n3_; have GW111 := n4_; have GE111 := n5_; have NB101_111 := n6_; have NB111_101 := n7_; have NB102_111 := n8_; have NB111_102 := n9_; clear n0_ n1_ n2_ n3_ n4_ n5_ n6_ n7_ n8_ n9_; clear hb hbox hg; have hnb39 := NB111_101.out; have hnc39 := NB101_111.out; have hnb40 := NB111_102.out; have hnc40 := NB102_111.out; have hcz41_0 : w38.cell? ⟨gb111, 0, none⟩ = some (.int .i64 0) := (zkc BK111.out 0).trans rfl; have hcz41_1 : w38.cell? ⟨gb111, 1, none⟩ = some (.int .i64 0) := (zkc BK111.out 1).trans rfl; have hfz41_0 := zkz BK111.out 0; have hfz41_1 := zkz BK111.out 1))
    (try simp only [Act.put, zsa, zsz, zss])
    go_cut [61] (fun v61 wc => ∃ (kq : Nat) (x61_29 : Bool), v61 = .bool x61_29 ∧ Aside0 (isobathlaw01_BoundHolds.j1 kq a4 a5 a6 a7 a8 t106 t107 x61_29 a0_0 a0_1 a1_0 a1_1 = some r) ∧ Aside0 (kq ≤ kj9) ∧ Aside0 (wc.heap[gb101]? = some (.cells #[.int .i64 a0_0, .int .i64 a0_1] 32 (0, 0))) ∧ Aside0 (wc.heap[gb102]? = some (.cells #[.int .i64 a1_0, .int .i64 a1_1] 32 (0, 0))) ∧ Aside0 (wc.heap[gb111]? = some (.cells #[.int .i64 t108, .int .i64 t109] 32 (0, 0))) ∧ Aside0 (Below w.heap.size w wc))
    case first =>
     have H := HC30.out
     clear HC30
     by_cases c42 : t110 = 0
     ·rw [if_pos c42] at H
      have c42b0 : (t110 == 0) = true := beq_iff_eq.mpr c42
      have c42b1 : (t110 != 0) = false := bne_eq_false_iff_eq.mpr c42
      clear c42
      (first | rw [c42b0] | (simp only [i64_w, i32_w]; rw [c42b0]) | skip)
      replace H := Option.bind_eq_some_iff.mp H
      obtain ⟨t112, A430, H⟩ := H
      replace H : (if t112 = true then (isobathlaw01_BoundHolds.j1 kj9 a4 a5 a6 a7 a8 t106 t107 false a0_0 a0_1 a1_0 a1_1) else (none)) = some r := H
      have A43 := zam A430
      clear A430
      by_cases c44 : t112 = true
      ·subst c44
       have H1 : (isobathlaw01_BoundHolds.j1 kj9 a4 a5 a6 a7 a8 t106 t107 false a0_0 a0_1 a1_0 a1_1) = some r := by rw [if_pos rfl] at H; exact H
       clear H
       have H := H1
       clear H1
       as_aux_lemma =>
        have H' := zam H
        clear H
        have hnb45 := NB111_101.out
        have hnc45 := NB101_111.out
        have hnb46 := NB111_102.out
        have hnc46 := NB102_111.out
        have hcz47_0 : w38.cell? ⟨gb111, 0, none⟩ = some (.int .i64 0) := (zkc BK111.out 0).trans rfl
        have hcz47_1 : w38.cell? ⟨gb111, 1, none⟩ = some (.int .i64 0) := (zkc BK111.out 1).trans rfl
        have hfz47_0 := zkz BK111.out 0
        have hfz47_1 := zkz BK111.out 1
        go_wp2_with (first | (go_at_call 26; (with_reducible refine (isobathlaw01_holds.calls t108 t109 (wrap64 (t106 + t107)) true _ A43.out).mono ?_); rintro e w48 ⟨rfl, hb⟩; have n0_ := zam (zkb (g := gb101) (o := .cells #[.int .i64 a0_0, .int .i64 a0_1] 32 (0, 0)) (by (with_reducible repeat (first | refine zkn ?_ _ | refine zkd ?_ | refine zka ?_ _)); refine blk_far ?_ NB101_111.out _; (with_reducible repeat (first | refine zkn ?_ _ | refine zkd ?_ | refine zka ?_ _)); refine blk_far ?_ NB101_111.out _; (with_reducible repeat (first | refine zkn ?_ _ | refine zkd ?_ | refine zka ?_ _)); exact BK101.out) hb); have n1_ := zam (zkb (g := gb102) (o := .cells #[.int .i64 a1_0, .int .i64 a1_1] 32 (0, 0)) (by (with_reducible repeat (first | refine zkn ?_ _ | refine zkd ?_ | refine zka ?_ _)); refine blk_far ?_ NB102_111.out _; (with_reducible repeat (first | refine zkn ?_ _ | refine zkd ?_ | refine zka ?_ _)); refine blk_far ?_ NB102_111.out _; (with_reducible repeat (first | refine zkn ?_ _ | refine zkd ?_ | refine zka ?_ _)); exact BK102.out) hb); have n2_ := zam (zkb (g := gb111) (o := .cells #[.int .i64 t108, .int .i64 t109] 32 (0, 0)) (by (with_reducible repeat (first | refine zkn ?_ _ | refine zkd ?_ | refine zka ?_ _)); refine blk_put (cs := #[.int .i64 t108, .int .i64 0]) ?_ 1 _ rfl; (with_reducible repeat (first | refine zkn ?_ _ | refine zkd ?_ | refine zka ?_ _)); refine blk_put (cs := #[.int .i64 0, .int .i64 0]) ?_ 0 _ rfl; (with_reducible repeat (first | refine zkn ?_ _ | refine zkd ?_ | refine zka ?_ _)); exact BK111.out) hb); have n3_ := zam (zbt (by repeat (first | (with_reducible first | exact HB.out | apply zba | apply zbn | apply zb1 | refine zbs ?_ GE101.out | refine zbs ?_ GE102.out | refine zbs ?_ GE111.out) | exact HB.out)) hb); clear BK101; clear BK102; clear BK111; clear HB; have BK101 := n0_; have BK102 := n1_; have BK111 := n2_; have HB := n3_; clear n0_ n1_ n2_ n3_; (try clear hb); (try clear hb2); (try clear hk); (try clear hi)))
        go_meet
        case rel => exact ⟨_, (false), (by first | rfl | (simp; done) | (simp [*]; done)), H', ⟨by have := HJ9.out; first | omega | exact Nat.le_refl _⟩, ⟨by (with_reducible repeat (first | refine zkn ?_ _ | refine zkd ?_ | refine zka ?_ _)); exact BK101.out⟩, ⟨by (with_reducible repeat (first | refine zkn ?_ _ | refine zkd ?_ | refine zka ?_ _)); exact BK102.out⟩, ⟨by (with_reducible repeat (first | refine zkn ?_ _ | refine zkd ?_ | refine zka ?_ _)); exact BK111.out⟩, ⟨by repeat (first | (with_reducible first | exact HB.out | apply zba | apply zbn | apply zb1 | refine zbs ?_ GE101.out | refine zbs ?_ GE102.out | refine zbs ?_ GE111.out) | exact HB.out)⟩⟩
      replace c44 := Bool.eq_false_iff.mpr c44
      subst c44
      have H1 : (none) = some r := by rw [if_neg (show ¬ (false = true) by decide)] at H; exact H
      clear H
      have H := H1
      clear H1
      exact absurd H (by simp)
     rw [if_neg c42] at H
     have c42b0 : (t110 == 0) = false := beq_eq_false_iff_ne.mpr c42
     have c42b1 : (t110 != 0) = true := bne_iff_ne.mpr c42
     (first | rw [c42b0] | (simp only [i64_w, i32_w]; rw [c42b0]) | skip)
     as_aux_lemma =>
      have H' := zam H
      clear H
      go_wp2
      go_meet
      case rel => exact ⟨_, ((t110 != 4)), (by first | rfl | (simp; done) | (simp [*]; done)), H', ⟨by have := HJ9.out; first | omega | exact Nat.le_refl _⟩, ⟨by (with_reducible repeat (first | refine zkn ?_ _ | refine zkd ?_ | refine zka ?_ _)); refine blk_far ?_ NB101_111.out _; (with_reducible repeat (first | refine zkn ?_ _ | refine zkd ?_ | refine zka ?_ _)); refine blk_far ?_ NB101_111.out _; (with_reducible repeat (first | refine zkn ?_ _ | refine zkd ?_ | refine zka ?_ _)); exact BK101.out⟩, ⟨by (with_reducible repeat (first | refine zkn ?_ _ | refine zkd ?_ | refine zka ?_ _)); refine blk_far ?_ NB102_111.out _; (with_reducible repeat (first | refine zkn ?_ _ | refine zkd ?_ | refine zka ?_ _)); refine blk_far ?_ NB102_111.out _; (with_reducible repeat (first | refine zkn ?_ _ | refine zkd ?_ | refine zka ?_ _)); exact BK102.out⟩, ⟨by (with_reducible repeat (first | refine zkn ?_ _ | refine zkd ?_ | refine zka ?_ _)); refine blk_put (cs := #[.int .i64 t108, .int .i64 0]) ?_ 1 _ rfl; (with_reducible repeat (first | refine zkn ?_ _ | refine zkd ?_ | refine zka ?_ _)); refine blk_put (cs := #[.int .i64 0, .int .i64 0]) ?_ 0 _ rfl; (with_reducible repeat (first | refine zkn ?_ _ | refine zkd ?_ | refine zka ?_ _)); exact BK111.out⟩, ⟨by repeat (first | (with_reducible first | exact HB.out | apply zba | apply zbn | apply zb1 | refine zbs ?_ GE101.out | refine zbs ?_ GE102.out | refine zbs ?_ GE111.out) | exact HB.out)⟩⟩
    case rest =>
     clear HC30
     try clear c1
     try clear c2
     try clear p2
     try clear c3
     try clear c4
     try clear p6
     try clear c14
     try clear c16
     try clear c18
     try clear c21
     try clear c22
     try clear c23
     try clear c24
     try clear c27
     try clear c34
     try clear c39
     try clear c40
     try clear c42
     try clear c42b0
     try clear c42b1
     try clear c44
     try clear c45
     try clear c46
     try clear hcz17_0
     try clear hcz17_1
     try clear hcz19_0
     try clear hcz19_1
     try clear hcz22_0
     try clear hcz22_1
     try clear hcz35_0
     try clear hcz35_1
     try clear hcz36_0
     try clear hcz36_1
     try clear hcz41_0
     try clear hcz41_1
     try clear hcz47_0
     try clear hcz47_1
     try clear hfz17_0
     try clear hfz17_1
     try clear hfz19_0
     try clear hfz19_1
     try clear hfz22_0
     try clear hfz22_1
     try clear hfz35_0
     try clear hfz35_1
     try clear hfz36_0
     try clear hfz36_1
     try clear hfz41_0
     try clear hfz41_1
     try clear hfz47_0
     try clear hfz47_1
     try clear p2
     obtain ⟨kq, x61_29, rfl, HA, HJ29, BK101, BK102, BK111, HB⟩ := hcut
     as_aux_lemma =>
      cases kq with
      | zero => exact absurd HA.out (by simp [isobathlaw01_BoundHolds.j1])
      | succ kj29 =>
       have H := HA.out
       clear HA
       simp only [isobathlaw01_BoundHolds.j1] at H
       by_cases c49 : x61_29 = true
       ·subst c49
        have H1 : (none) = some r := by rw [if_pos rfl] at H; exact H
        clear H
        have H := H1
        clear H1
        exact absurd H (by simp)
       replace c49 := Bool.eq_false_iff.mpr c49
       subst c49
       have H1 : ((bound_Sub.f kj29 a0_0 a0_1 a1_0 a1_1).bind fun bt113 => (if bt113.2.2 = 0 then ((isobathlaw01_holds.f bt113.1 bt113.2.1 (wrap64 (t106 - t107))).bind fun t116 => (if t116 = true then (isobathlaw01_BoundHolds.j2 kj29 a4 a5 a6 a7 a8 t106 t107 false a0_0 a0_1 a1_0 a1_1) else (none))) else (isobathlaw01_BoundHolds.j2 kj29 a4 a5 a6 a7 a8 t106 t107 (bt113.2.2 != 4) a0_0 a0_1 a1_0 a1_1))) = some r := by rw [if_neg (show ¬ (false = true) by decide)] at H; exact H
       clear H
       have H := H1
       clear H1
       replace H := Option.bind_eq_some_iff.mp H
       obtain ⟨⟨t113, t114, t115⟩, A500, H⟩ := H
       replace H : (if t115 = 0 then ((isobathlaw01_holds.f t113 t114 (wrap64 (t106 - t107))).bind fun t116 => (if t116 = true then (isobathlaw01_BoundHolds.j2 kj29 a4 a5 a6 a7 a8 t106 t107 false a0_0 a0_1 a1_0 a1_1) else (none))) else (isobathlaw01_BoundHolds.j2 kj29 a4 a5 a6 a7 a8 t106 t107 (t115 != 4) a0_0 a0_1 a1_0 a1_1)) = some r := H
       have A50 := zam A500
       clear A500
       have HC51 := zam H
       clear H
       have hnb52 := NB101_102.out
       have hnc52 := NB102_101.out
       have hnb53 := NB101_111.out
       have hnc53 := NB111_101.out
       have hcz54_0 : wc.cell? ⟨gb101, 0, none⟩ = some (.int .i64 a0_0) := (zkc BK101.out 0).trans rfl
       have hcz54_1 : wc.cell? ⟨gb101, 1, none⟩ = some (.int .i64 a0_1) := (zkc BK101.out 1).trans rfl
       have hfz54_0 := zkz BK101.out 0
       have hfz54_1 := zkz BK101.out 1
       have hnb55 := NB102_111.out
       have hnc55 := NB111_102.out
       have hcz56_0 : wc.cell? ⟨gb102, 0, none⟩ = some (.int .i64 a1_0) := (zkc BK102.out 0).trans rfl
       have hcz56_1 : wc.cell? ⟨gb102, 1, none⟩ = some (.int .i64 a1_1) := (zkc BK102.out 1).trans rfl
       have hfz56_0 := zkz BK102.out 0
       have hfz56_1 := zkz BK102.out 1
       go_upto_region 8 with (first | ((with_reducible refine zgc (f := 30) rfl ?_); refine goesL_ (some 65) rfl rfl Try.func30 (by kernel_rfl) rfl #[.agg #[.int .i64 a0_0, .int .i64 a0_1], .agg #[.int .i64 a1_0, .int .i64 a1_1]] rfl (by (try simp only [zmt, List.map_cons, List.map_nil]); first | done | rfl | (simp only [zld, zlt]; rfl)) ?_; (with_reducible refine (bound_Sub.calls kj29 a0_0 a0_1 a1_0 a1_1 t113 t114 t115 _ A50.out).mono ?_); rintro e w57 ⟨rfl, hb⟩; refine ⟨_, rfl, ?_⟩; have n0_ := zam (zkb (g := gb101) (o := .cells #[.int .i64 a0_0, .int .i64 a0_1] 32 (0, 0)) (by (with_reducible repeat (first | refine zkn ?_ _ | refine zkd ?_ | refine zka ?_ _)); exact BK101.out) hb); have n1_ := zam (zkb (g := gb102) (o := .cells #[.int .i64 a1_0, .int .i64 a1_1] 32 (0, 0)) (by (with_reducible repeat (first | refine zkn ?_ _ | refine zkd ?_ | refine zka ?_ _)); exact BK102.out) hb); have n2_ := zam (zkb (g := gb111) (o := .cells #[.int .i64 t108, .int .i64 t109] 32 (0, 0)) (by (with_reducible repeat (first | refine zkn ?_ _ | refine zkd ?_ | refine zka ?_ _)); exact BK111.out) hb); have n3_ := zam (zbt (by repeat (first | (with_reducible first | exact HB.out | apply zba | apply zbn | apply zb1 | refine zbs ?_ GE101.out | refine zbs ?_ GE102.out | refine zbs ?_ GE111.out) | exact HB.out)) hb); clear BK101; clear BK102; clear BK111; clear HB; have BK101 := n0_; have BK102 := n1_; have BK111 := n2_; have HB := n3_; clear n0_ n1_ n2_ n3_; (try clear hb); (try clear hb2); (try clear hk); (try clear hi); have hcz58_0 : w57.cell? ⟨gb111, 0, none⟩ = some (.int .i64 t108) := (zkc BK111.out 0).trans rfl; have hcz58_1 : w57.cell? ⟨gb111, 1, none⟩ = some (.int .i64 t109) := (zkc BK111.out 1).trans rfl; have hfz58_0 := zkz BK111.out 0; have hfz58_1 := zkz BK111.out 1))
       (try simp only [Act.put, zsa, zsz, zss])
       go_cut [85] (fun v85 wc => ∃ (kq : Nat) (x85_50 : Bool), v85 = .bool x85_50 ∧ Aside0 (isobathlaw01_BoundHolds.j2 kq a4 a5 a6 a7 a8 t106 t107 x85_50 a0_0 a0_1 a1_0 a1_1 = some r) ∧ Aside0 (kq ≤ kj29) ∧ Aside0 (wc.heap[gb101]? = some (.cells #[.int .i64 a0_0, .int .i64 a0_1] 32 (0, 0))) ∧ Aside0 (wc.heap[gb102]? = some (.cells #[.int .i64 a1_0, .int .i64 a1_1] 32 (0, 0))) ∧ Aside0 (wc.heap[gb111]? = some (.cells #[.int .i64 t113, .int .i64 t114] 32 (0, 0))) ∧ Aside0 (Below w.heap.size w wc))
       case first =>
        have H := HC51.out
        clear HC51
        by_cases c59 : t115 = 0
        ·rw [if_pos c59] at H
         have c59b0 : (t115 == 0) = true := beq_iff_eq.mpr c59
         have c59b1 : (t115 != 0) = false := bne_eq_false_iff_eq.mpr c59
         clear c59
         (first | rw [c59b0] | (simp only [i64_w, i32_w]; rw [c59b0]) | skip)
         replace H := Option.bind_eq_some_iff.mp H
         obtain ⟨t116, A600, H⟩ := H
         replace H : (if t116 = true then (isobathlaw01_BoundHolds.j2 kj29 a4 a5 a6 a7 a8 t106 t107 false a0_0 a0_1 a1_0 a1_1) else (none)) = some r := H
         have A60 := zam A600
         clear A600
         by_cases c61 : t116 = true
         ·subst c61
          have H1 : (isobathlaw01_BoundHolds.j2 kj29 a4 a5 a6 a7 a8 t106 t107 false a0_0 a0_1 a1_0 a1_1) = some r := by rw [if_pos rfl] at H; exact H
          clear H
          have H := H1
          clear H1
          as_aux_lemma =>
           have H' := zam H
           clear H
           have hnb62 := NB111_101.out
           have hnc62 := NB101_111.out
           have hnb63 := NB111_102.out
           have hnc63 := NB102_111.out
           have hcz64_0 : w57.cell? ⟨gb111, 0, none⟩ = some (.int .i64 t108) := (zkc BK111.out 0).trans rfl
           have hcz64_1 : w57.cell? ⟨gb111, 1, none⟩ = some (.int .i64 t109) := (zkc BK111.out 1).trans rfl
           have hfz64_0 := zkz BK111.out 0
           have hfz64_1 := zkz BK111.out 1
           go_wp2_with (first | (go_at_call 26; (with_reducible refine (isobathlaw01_holds.calls t113 t114 (wrap64 (t106 - t107)) true _ A60.out).mono ?_); rintro e w65 ⟨rfl, hb⟩; have n0_ := zam (zkb (g := gb101) (o := .cells #[.int .i64 a0_0, .int .i64 a0_1] 32 (0, 0)) (by (with_reducible repeat (first | refine zkn ?_ _ | refine zkd ?_ | refine zka ?_ _)); refine blk_far ?_ NB101_111.out _; (with_reducible repeat (first | refine zkn ?_ _ | refine zkd ?_ | refine zka ?_ _)); refine blk_far ?_ NB101_111.out _; (with_reducible repeat (first | refine zkn ?_ _ | refine zkd ?_ | refine zka ?_ _)); exact BK101.out) hb); have n1_ := zam (zkb (g := gb102) (o := .cells #[.int .i64 a1_0, .int .i64 a1_1] 32 (0, 0)) (by (with_reducible repeat (first | refine zkn ?_ _ | refine zkd ?_ | refine zka ?_ _)); refine blk_far ?_ NB102_111.out _; (with_reducible repeat (first | refine zkn ?_ _ | refine zkd ?_ | refine zka ?_ _)); refine blk_far ?_ NB102_111.out _; (with_reducible repeat (first | refine zkn ?_ _ | refine zkd ?_ | refine zka ?_ _)); exact BK102.out) hb); have n2_ := zam (zkb (g := gb111) (o := .cells #[.int .i64 t113, .int .i64 t114] 32 (0, 0)) (by (with_reducible repeat (first | refine zkn ?_ _ | refine zkd ?_ | refine zka ?_ _)); refine blk_put (cs := #[.int .i64 t113, .int .i64 t109]) ?_ 1 _ rfl; (with_reducible repeat (first | refine zkn ?_ _ | refine zkd ?_ | refine zka ?_ _)); refine blk_put (cs := #[.int .i64 t108, .int .i64 t109]) ?_ 0 _ rfl; (with_reducible repeat (first | refine zkn ?_ _ | refine zkd ?_ | refine zka ?_ _)); exact BK111.out) hb); have n3_ := zam (zbt (by repeat (first | (with_reducible first | exact HB.out | apply zba | apply zbn | apply zb1 | refine zbs ?_ GE101.out | refine zbs ?_ GE102.out | refine zbs ?_ GE111.out) | exact HB.out)) hb); clear BK101; clear BK102; clear BK111; clear HB; have BK101 := n0_; have BK102 := n1_; have BK111 := n2_; have HB := n3_; clear n0_ n1_ n2_ n3_; (try clear hb); (try clear hb2); (try clear hk); (try clear hi)))
           go_meet
           case rel => exact ⟨_, (false), (by first | rfl | (simp; done) | (simp [*]; done)), H', ⟨by have := HJ9.out; have := HJ29.out; first | omega | exact Nat.le_refl _⟩, ⟨by (with_reducible repeat (first | refine zkn ?_ _ | refine zkd ?_ | refine zka ?_ _)); exact BK101.out⟩, ⟨by (with_reducible repeat (first | refine zkn ?_ _ | refine zkd ?_ | refine zka ?_ _)); exact BK102.out⟩, ⟨by (with_reducible repeat (first | refine zkn ?_ _ | refine zkd ?_ | refine zka ?_ _)); exact BK111.out⟩, ⟨by repeat (first | (with_reducible first | exact HB.out | apply zba | apply zbn | apply zb1 | refine zbs ?_ GE101.out | refine zbs ?_ GE102.out | refine zbs ?_ GE111.out) | exact HB.out)⟩⟩
         replace c61 := Bool.eq_false_iff.mpr c61
         subst c61
         have H1 : (none) = some r := by rw [if_neg (show ¬ (false = true) by decide)] at H; exact H
         clear H
         have H := H1
         clear H1
         exact absurd H (by simp)
        rw [if_neg c59] at H
        have c59b0 : (t115 == 0) = false := beq_eq_false_iff_ne.mpr c59
        have c59b1 : (t115 != 0) = true := bne_iff_ne.mpr c59
        (first | rw [c59b0] | (simp only [i64_w, i32_w]; rw [c59b0]) | skip)
        as_aux_lemma =>
         have H' := zam H
         clear H
         go_wp2
         go_meet
         case rel => exact ⟨_, ((t115 != 4)), (by first | rfl | (simp; done) | (simp [*]; done)), H', ⟨by have := HJ9.out; have := HJ29.out; first | omega | exact Nat.le_refl _⟩, ⟨by (with_reducible repeat (first | refine zkn ?_ _ | refine zkd ?_ | refine zka ?_ _)); refine blk_far ?_ NB101_111.out _; (with_reducible repeat (first | refine zkn ?_ _ | refine zkd ?_ | refine zka ?_ _)); refine blk_far ?_ NB101_111.out _; (with_reducible repeat (first | refine zkn ?_ _ | refine zkd ?_ | refine zka ?_ _)); exact BK101.out⟩, ⟨by (with_reducible repeat (first | refine zkn ?_ _ | refine zkd ?_ | refine zka ?_ _)); refine blk_far ?_ NB102_111.out _; (with_reducible repeat (first | refine zkn ?_ _ | refine zkd ?_ | refine zka ?_ _)); refine blk_far ?_ NB102_111.out _; (with_reducible repeat (first | refine zkn ?_ _ | refine zkd ?_ | refine zka ?_ _)); exact BK102.out⟩, ⟨by (with_reducible repeat (first | refine zkn ?_ _ | refine zkd ?_ | refine zka ?_ _)); refine blk_put (cs := #[.int .i64 t113, .int .i64 t109]) ?_ 1 _ rfl; (with_reducible repeat (first | refine zkn ?_ _ | refine zkd ?_ | refine zka ?_ _)); refine blk_put (cs := #[.int .i64 t108, .int .i64 t109]) ?_ 0 _ rfl; (with_reducible repeat (first | refine zkn ?_ _ | refine zkd ?_ | refine zka ?_ _)); exact BK111.out⟩, ⟨by repeat (first | (with_reducible first | exact HB.out | apply zba | apply zbn | apply zb1 | refine zbs ?_ GE101.out | refine zbs ?_ GE102.out | refine zbs ?_ GE111.out) | exact HB.out)⟩⟩
       case rest =>
        clear HC51
        try clear c1
        try clear c2
        try clear p2
        try clear c3
        try clear c4
        try clear c5
        try clear c6
        try clear p6
        try clear c14
        try clear c16
        try clear c18
        try clear c21
        try clear c22
        try clear c23
        try clear c24
        try clear c27
        try clear c30
        try clear c34
        try clear c39
        try clear c40
        try clear c42
        try clear c42b0
        try clear c42b1
        try clear c44
        try clear c45
        try clear c46
        try clear c49
        try clear c52
        try clear c53
        try clear c55
        try clear c59
        try clear c59b0
        try clear c59b1
        try clear c61
        try clear c62
        try clear c63
        try clear p64
        try clear hcz17_0
        try clear hcz17_1
        try clear hcz19_0
        try clear hcz19_1
        try clear hcz22_0
        try clear hcz22_1
        try clear hcz35_0
        try clear hcz35_1
        try clear hcz36_0
        try clear hcz36_1
        try clear hcz41_0
        try clear hcz41_1
        try clear hcz47_0
        try clear hcz47_1
        try clear hcz54_0
        try clear hcz54_1
        try clear hcz56_0
        try clear hcz56_1
        try clear hcz58_0
        try clear hcz58_1
        try clear hcz64_0
        try clear hcz64_1
        try clear hfz17_0
        try clear hfz17_1
        try clear hfz19_0
        try clear hfz19_1
        try clear hfz22_0
        try clear hfz22_1
        try clear hfz35_0
        try clear hfz35_1
        try clear hfz36_0
        try clear hfz36_1
        try clear hfz41_0
        try clear hfz41_1
        try clear hfz47_0
        try clear hfz47_1
        try clear hfz54_0
        try clear hfz54_1
        try clear hfz56_0
        try clear hfz56_1
        try clear hfz58_0
        try clear hfz58_1
        try clear hfz64_0
        try clear hfz64_1
        try clear p2
        try clear p6
        obtain ⟨kq, x85_50, rfl, HA, HJ50, BK101, BK102, BK111, HB⟩ := hcut
        as_aux_lemma =>
         cases kq with
         | zero => exact absurd HA.out (by simp [isobathlaw01_BoundHolds.j2])
         | succ kj50 =>
          have H := HA.out
          clear HA
          simp only [isobathlaw01_BoundHolds.j2] at H
          by_cases c66 : x85_50 = true
          ·subst c66
           have H1 : (none) = some r := by rw [if_pos rfl] at H; exact H
           clear H
           have H := H1
           clear H1
           exact absurd H (by simp)
          replace c66 := Bool.eq_false_iff.mpr c66
          subst c66
          have H1 : ((bound_Mul.f kj50 a0_0 a0_1 a1_0 a1_1).bind fun bt117 => (if bt117.2.2 = 0 then ((isobathlaw01_holds.f bt117.1 bt117.2.1 (wrap64 (t106 * t107))).bind fun t120 => (if t120 = true then (isobathlaw01_BoundHolds.j3 kj50 a4 a5 a6 a7 a8 t106 t107 false a0_0 a0_1 a1_0 a1_1) else (none))) else (isobathlaw01_BoundHolds.j3 kj50 a4 a5 a6 a7 a8 t106 t107 (bt117.2.2 != 4) a0_0 a0_1 a1_0 a1_1))) = some r := by rw [if_neg (show ¬ (false = true) by decide)] at H; exact H
          clear H
          have H := H1
          clear H1
          replace H := Option.bind_eq_some_iff.mp H
          obtain ⟨⟨t117, t118, t119⟩, A670, H⟩ := H
          replace H : (if t119 = 0 then ((isobathlaw01_holds.f t117 t118 (wrap64 (t106 * t107))).bind fun t120 => (if t120 = true then (isobathlaw01_BoundHolds.j3 kj50 a4 a5 a6 a7 a8 t106 t107 false a0_0 a0_1 a1_0 a1_1) else (none))) else (isobathlaw01_BoundHolds.j3 kj50 a4 a5 a6 a7 a8 t106 t107 (t119 != 4) a0_0 a0_1 a1_0 a1_1)) = some r := H
          have A67 := zam A670
          clear A670
          have HC68 := zam H
          clear H
          have hnb69 := NB101_102.out
          have hnc69 := NB102_101.out
          have hnb70 := NB101_111.out
          have hnc70 := NB111_101.out
          have hcz71_0 : wc.cell? ⟨gb101, 0, none⟩ = some (.int .i64 a0_0) := (zkc BK101.out 0).trans rfl
          have hcz71_1 : wc.cell? ⟨gb101, 1, none⟩ = some (.int .i64 a0_1) := (zkc BK101.out 1).trans rfl
          have hfz71_0 := zkz BK101.out 0
          have hfz71_1 := zkz BK101.out 1
          have hnb72 := NB102_111.out
          have hnc72 := NB111_102.out
          have hcz73_0 : wc.cell? ⟨gb102, 0, none⟩ = some (.int .i64 a1_0) := (zkc BK102.out 0).trans rfl
          have hcz73_1 : wc.cell? ⟨gb102, 1, none⟩ = some (.int .i64 a1_1) := (zkc BK102.out 1).trans rfl
          have hfz73_0 := zkz BK102.out 0
          have hfz73_1 := zkz BK102.out 1
          go_upto_region 11 with (first | ((with_reducible refine zgc (f := 28) rfl ?_); refine goesL_ (some 89) rfl rfl Try.func28 (by kernel_rfl) rfl #[.agg #[.int .i64 a0_0, .int .i64 a0_1], .agg #[.int .i64 a1_0, .int .i64 a1_1]] rfl (by (try simp only [zmt, List.map_cons, List.map_nil]); first | done | rfl | (simp only [zld, zlt]; rfl)) ?_; (with_reducible refine (bound_Mul.calls kj50 a0_0 a0_1 a1_0 a1_1 t117 t118 t119 _ A67.out).mono ?_); rintro e w74 ⟨rfl, hb⟩; refine ⟨_, rfl, ?_⟩; have n0_ := zam (zkb (g := gb101) (o := .cells #[.int .i64 a0_0, .int .i64 a0_1] 32 (0, 0)) (by (with_reducible repeat (first | refine zkn ?_ _ | refine zkd ?_ | refine zka ?_ _)); exact BK101.out) hb); have n1_ := zam (zkb (g := gb102) (o := .cells #[.int .i64 a1_0, .int .i64 a1_1] 32 (0, 0)) (by (with_reducible repeat (first | refine zkn ?_ _ | refine zkd ?_ | refine zka ?_ _)); exact BK102.out) hb); have n2_ := zam (zkb (g := gb111) (o := .cells #[.int .i64 t113, .int .i64 t114] 32 (0, 0)) (by (with_reducible repeat (first | refine zkn ?_ _ | refine zkd ?_ | refine zka ?_ _)); exact BK111.out) hb); have n3_ := zam (zbt (by repeat (first | (with_reducible first | exact HB.out | apply zba | apply zbn | apply zb1 | refine zbs ?_ GE101.out | refine zbs ?_ GE102.out | refine zbs ?_ GE111.out) | exact HB.out)) hb); clear BK101; clear BK102; clear BK111; clear HB; have BK101 := n0_; have BK102 := n1_; have BK111 := n2_; have HB := n3_; clear n0_ n1_ n2_ n3_; (try clear hb); (try clear hb2); (try clear hk); (try clear hi); have hcz75_0 : w74.cell? ⟨gb111, 0, none⟩ = some (.int .i64 t113) := (zkc BK111.out 0).trans rfl; have hcz75_1 : w74.cell? ⟨gb111, 1, none⟩ = some (.int .i64 t114) := (zkc BK111.out 1).trans rfl; have hfz75_0 := zkz BK111.out 0; have hfz75_1 := zkz BK111.out 1))
          (try simp only [Act.put, zsa, zsz, zss])
          go_cut [109] (fun v109 wc => ∃ (kq : Nat) (x109_67 : Bool), v109 = .bool x109_67 ∧ Aside0 (isobathlaw01_BoundHolds.j3 kq a4 a5 a6 a7 a8 t106 t107 x109_67 a0_0 a0_1 a1_0 a1_1 = some r) ∧ Aside0 (kq ≤ kj50) ∧ Aside0 (wc.heap[gb101]? = some (.cells #[.int .i64 a0_0, .int .i64 a0_1] 32 (0, 0))) ∧ Aside0 (wc.heap[gb102]? = some (.cells #[.int .i64 a1_0, .int .i64 a1_1] 32 (0, 0))) ∧ Aside0 (wc.heap[gb111]? = some (.cells #[.int .i64 t117, .int .i64 t118] 32 (0, 0))) ∧ Aside0 (Below w.heap.size w wc))
          case first =>
           have H := HC68.out
           clear HC68
           by_cases c76 : t119 = 0
           ·rw [if_pos c76] at H
            have c76b0 : (t119 == 0) = true := beq_iff_eq.mpr c76
            have c76b1 : (t119 != 0) = false := bne_eq_false_iff_eq.mpr c76
            clear c76
            (first | rw [c76b0] | (simp only [i64_w, i32_w]; rw [c76b0]) | skip)
            replace H := Option.bind_eq_some_iff.mp H
            obtain ⟨t120, A770, H⟩ := H
            replace H : (if t120 = true then (isobathlaw01_BoundHolds.j3 kj50 a4 a5 a6 a7 a8 t106 t107 false a0_0 a0_1 a1_0 a1_1) else (none)) = some r := H
            have A77 := zam A770
            clear A770
            by_cases c78 : t120 = true
            ·subst c78
             have H1 : (isobathlaw01_BoundHolds.j3 kj50 a4 a5 a6 a7 a8 t106 t107 false a0_0 a0_1 a1_0 a1_1) = some r := by rw [if_pos rfl] at H; exact H
             clear H
             have H := H1
             clear H1
             as_aux_lemma =>
              have H' := zam H
              clear H
              have hnb79 := NB111_101.out
              have hnc79 := NB101_111.out
              have hnb80 := NB111_102.out
              have hnc80 := NB102_111.out
              have hcz81_0 : w74.cell? ⟨gb111, 0, none⟩ = some (.int .i64 t113) := (zkc BK111.out 0).trans rfl
              have hcz81_1 : w74.cell? ⟨gb111, 1, none⟩ = some (.int .i64 t114) := (zkc BK111.out 1).trans rfl
              have hfz81_0 := zkz BK111.out 0
              have hfz81_1 := zkz BK111.out 1
              go_wp2_with (first | (go_at_call 26; (with_reducible refine (isobathlaw01_holds.calls t117 t118 (wrap64 (t106 * t107)) true _ A77.out).mono ?_); rintro e w82 ⟨rfl, hb⟩; have n0_ := zam (zkb (g := gb101) (o := .cells #[.int .i64 a0_0, .int .i64 a0_1] 32 (0, 0)) (by (with_reducible repeat (first | refine zkn ?_ _ | refine zkd ?_ | refine zka ?_ _)); refine blk_far ?_ NB101_111.out _; (with_reducible repeat (first | refine zkn ?_ _ | refine zkd ?_ | refine zka ?_ _)); refine blk_far ?_ NB101_111.out _; (with_reducible repeat (first | refine zkn ?_ _ | refine zkd ?_ | refine zka ?_ _)); exact BK101.out) hb); have n1_ := zam (zkb (g := gb102) (o := .cells #[.int .i64 a1_0, .int .i64 a1_1] 32 (0, 0)) (by (with_reducible repeat (first | refine zkn ?_ _ | refine zkd ?_ | refine zka ?_ _)); refine blk_far ?_ NB102_111.out _; (with_reducible repeat (first | refine zkn ?_ _ | refine zkd ?_ | refine zka ?_ _)); refine blk_far ?_ NB102_111.out _; (with_reducible repeat (first | refine zkn ?_ _ | refine zkd ?_ | refine zka ?_ _)); exact BK102.out) hb); have n2_ := zam (zkb (g := gb111) (o := .cells #[.int .i64 t117, .int .i64 t118] 32 (0, 0)) (by (with_reducible repeat (first | refine zkn ?_ _ | refine zkd ?_ | refine zka ?_ _)); refine blk_put (cs := #[.int .i64 t117, .int .i64 t114]) ?_ 1 _ rfl; (with_reducible repeat (first | refine zkn ?_ _ | refine zkd ?_ | refine zka ?_ _)); refine blk_put (cs := #[.int .i64 t113, .int .i64 t114]) ?_ 0 _ rfl; (with_reducible repeat (first | refine zkn ?_ _ | refine zkd ?_ | refine zka ?_ _)); exact BK111.out) hb); have n3_ := zam (zbt (by repeat (first | (with_reducible first | exact HB.out | apply zba | apply zbn | apply zb1 | refine zbs ?_ GE101.out | refine zbs ?_ GE102.out | refine zbs ?_ GE111.out) | exact HB.out)) hb); clear BK101; clear BK102; clear BK111; clear HB; have BK101 := n0_; have BK102 := n1_; have BK111 := n2_; have HB := n3_; clear n0_ n1_ n2_ n3_; (try clear hb); (try clear hb2); (try clear hk); (try clear hi)))
              go_meet
              case rel => exact ⟨_, (false), (by first | rfl | (simp; done) | (simp [*]; done)), H', ⟨by have := HJ9.out; have := HJ29.out; have := HJ50.out; first | omega | exact Nat.le_refl _⟩, ⟨by (with_reducible repeat (first | refine zkn ?_ _ | refine zkd ?_ | refine zka ?_ _)); exact BK101.out⟩, ⟨by (with_reducible repeat (first | refine zkn ?_ _ | refine zkd ?_ | refine zka ?_ _)); exact BK102.out⟩, ⟨by (with_reducible repeat (first | refine zkn ?_ _ | refine zkd ?_ | refine zka ?_ _)); exact BK111.out⟩, ⟨by repeat (first | (with_reducible first | exact HB.out | apply zba | apply zbn | apply zb1 | refine zbs ?_ GE101.out | refine zbs ?_ GE102.out | refine zbs ?_ GE111.out) | exact HB.out)⟩⟩
            replace c78 := Bool.eq_false_iff.mpr c78
            subst c78
            have H1 : (none) = some r := by rw [if_neg (show ¬ (false = true) by decide)] at H; exact H
            clear H
            have H := H1
            clear H1
            exact absurd H (by simp)
           rw [if_neg c76] at H
           have c76b0 : (t119 == 0) = false := beq_eq_false_iff_ne.mpr c76
           have c76b1 : (t119 != 0) = true := bne_iff_ne.mpr c76
           (first | rw [c76b0] | (simp only [i64_w, i32_w]; rw [c76b0]) | skip)
           as_aux_lemma =>
            have H' := zam H
            clear H
            go_wp2
            go_meet
            case rel => exact ⟨_, ((t119 != 4)), (by first | rfl | (simp; done) | (simp [*]; done)), H', ⟨by have := HJ9.out; have := HJ29.out; have := HJ50.out; first | omega | exact Nat.le_refl _⟩, ⟨by (with_reducible repeat (first | refine zkn ?_ _ | refine zkd ?_ | refine zka ?_ _)); refine blk_far ?_ NB101_111.out _; (with_reducible repeat (first | refine zkn ?_ _ | refine zkd ?_ | refine zka ?_ _)); refine blk_far ?_ NB101_111.out _; (with_reducible repeat (first | refine zkn ?_ _ | refine zkd ?_ | refine zka ?_ _)); exact BK101.out⟩, ⟨by (with_reducible repeat (first | refine zkn ?_ _ | refine zkd ?_ | refine zka ?_ _)); refine blk_far ?_ NB102_111.out _; (with_reducible repeat (first | refine zkn ?_ _ | refine zkd ?_ | refine zka ?_ _)); refine blk_far ?_ NB102_111.out _; (with_reducible repeat (first | refine zkn ?_ _ | refine zkd ?_ | refine zka ?_ _)); exact BK102.out⟩, ⟨by (with_reducible repeat (first | refine zkn ?_ _ | refine zkd ?_ | refine zka ?_ _)); refine blk_put (cs := #[.int .i64 t117, .int .i64 t114]) ?_ 1 _ rfl; (with_reducible repeat (first | refine zkn ?_ _ | refine zkd ?_ | refine zka ?_ _)); refine blk_put (cs := #[.int .i64 t113, .int .i64 t114]) ?_ 0 _ rfl; (with_reducible repeat (first | refine zkn ?_ _ | refine zkd ?_ | refine zka ?_ _)); exact BK111.out⟩, ⟨by repeat (first | (with_reducible first | exact HB.out | apply zba | apply zbn | apply zb1 | refine zbs ?_ GE101.out | refine zbs ?_ GE102.out | refine zbs ?_ GE111.out) | exact HB.out)⟩⟩
          case rest =>
           clear HC68
           try clear c1
           try clear c2
           try clear p2
           try clear c3
           try clear c4
           try clear c5
           try clear c6
           try clear p6
           try clear c7
           try clear c8
           try clear c14
           try clear c16
           try clear c18
           try clear c21
           try clear c22
           try clear c23
           try clear c24
           try clear c27
           try clear c28
           try clear c30
           try clear c34
           try clear c39
           try clear c40
           try clear c42
           try clear c42b0
           try clear c42b1
           try clear c44
           try clear c45
           try clear c46
           try clear c49
           try clear c52
           try clear c53
           try clear c55
           try clear c59
           try clear c59b0
           try clear c59b1
           try clear c61
           try clear c62
           try clear c63
           try clear p64
           try clear c66
           try clear c69
           try clear c70
           try clear c72
           try clear c76
           try clear c76b0
           try clear c76b1
           try clear c78
           try clear c79
           try clear c80
           try clear hcz17_0
           try clear hcz17_1
           try clear hcz19_0
           try clear hcz19_1
           try clear hcz22_0
           try clear hcz22_1
           try clear hcz35_0
           try clear hcz35_1
           try clear hcz36_0
           try clear hcz36_1
           try clear hcz41_0
           try clear hcz41_1
           try clear hcz47_0
           try clear hcz47_1
           try clear hcz54_0
           try clear hcz54_1
           try clear hcz56_0
           try clear hcz56_1
           try clear hcz58_0
           try clear hcz58_1
           try clear hcz64_0
           try clear hcz64_1
           try clear hcz71_0
           try clear hcz71_1
           try clear hcz73_0
           try clear hcz73_1
           try clear hcz75_0
           try clear hcz75_1
           try clear hcz81_0
           try clear hcz81_1
           try clear hfz17_0
           try clear hfz17_1
           try clear hfz19_0
           try clear hfz19_1
           try clear hfz22_0
           try clear hfz22_1
           try clear hfz35_0
           try clear hfz35_1
           try clear hfz36_0
           try clear hfz36_1
           try clear hfz41_0
           try clear hfz41_1
           try clear hfz47_0
           try clear hfz47_1
           try clear hfz54_0
           try clear hfz54_1
           try clear hfz56_0
           try clear hfz56_1
           try clear hfz58_0
           try clear hfz58_1
           try clear hfz64_0
           try clear hfz64_1
           try clear hfz71_0
           try clear hfz71_1
           try clear hfz73_0
           try clear hfz73_1
           try clear hfz75_0
           try clear hfz75_1
           try clear hfz81_0
           try clear hfz81_1
           try clear p2
           try clear p6
           try clear p64
           obtain ⟨kq, x109_67, rfl, HA, HJ67, BK101, BK102, BK111, HB⟩ := hcut
           as_aux_lemma =>
            cases kq with
            | zero => exact absurd HA.out (by simp [isobathlaw01_BoundHolds.j3])
            | succ kj67 =>
             have H := HA.out
             clear HA
             simp only [isobathlaw01_BoundHolds.j3] at H
             by_cases c83 : x109_67 = true
             ·subst c83
              have H1 : (none) = some r := by rw [if_pos rfl] at H; exact H
              clear H
              have H := H1
              clear H1
              exact absurd H (by simp)
             replace c83 := Bool.eq_false_iff.mpr c83
             subst c83
             have H1 : ((bound_Div.f kj67 a0_0 a0_1 a1_0 a1_1).bind fun bt121 => (if bt121.2.2 = 0 then (if t107 = 0 then (none) else ((isobathlaw01_between.f bt121.1 bt121.2.1 t106 t107).bind fun t124 => (if t124 = true then ((isobathlaw01_holds.f a1_0 a1_1 0).bind fun t125 => (isobathlaw01_BoundHolds.j4 kj67 a4 a5 a6 a7 a8 t106 t107 ((bt121.2.2 == 9) != t125) a0_0 a0_1 a1_0 a1_1)) else (none)))) else ((isobathlaw01_holds.f a1_0 a1_1 0).bind fun t126 => (isobathlaw01_BoundHolds.j4 kj67 a4 a5 a6 a7 a8 t106 t107 ((bt121.2.2 == 9) != t126) a0_0 a0_1 a1_0 a1_1)))) = some r := by rw [if_neg (show ¬ (false = true) by decide)] at H; exact H
             clear H
             have H := H1
             clear H1
             replace H := Option.bind_eq_some_iff.mp H
             obtain ⟨⟨t121, t122, t123⟩, A840, H⟩ := H
             replace H : (if t123 = 0 then (if t107 = 0 then (none) else ((isobathlaw01_between.f t121 t122 t106 t107).bind fun t124 => (if t124 = true then ((isobathlaw01_holds.f a1_0 a1_1 0).bind fun t125 => (isobathlaw01_BoundHolds.j4 kj67 a4 a5 a6 a7 a8 t106 t107 ((t123 == 9) != t125) a0_0 a0_1 a1_0 a1_1)) else (none)))) else ((isobathlaw01_holds.f a1_0 a1_1 0).bind fun t126 => (isobathlaw01_BoundHolds.j4 kj67 a4 a5 a6 a7 a8 t106 t107 ((t123 == 9) != t126) a0_0 a0_1 a1_0 a1_1))) = some r := H
             have A84 := zam A840
             clear A840
             have HC85 := zam H
             clear H
             have hnb86 := NB101_102.out
             have hnc86 := NB102_101.out
             have hnb87 := NB101_111.out
             have hnc87 := NB111_101.out
             have hcz88_0 : wc.cell? ⟨gb101, 0, none⟩ = some (.int .i64 a0_0) := (zkc BK101.out 0).trans rfl
             have hcz88_1 : wc.cell? ⟨gb101, 1, none⟩ = some (.int .i64 a0_1) := (zkc BK101.out 1).trans rfl
             have hfz88_0 := zkz BK101.out 0
             have hfz88_1 := zkz BK101.out 1
             have hnb89 := NB102_111.out
             have hnc89 := NB111_102.out
             have hcz90_0 : wc.cell? ⟨gb102, 0, none⟩ = some (.int .i64 a1_0) := (zkc BK102.out 0).trans rfl
             have hcz90_1 : wc.cell? ⟨gb102, 1, none⟩ = some (.int .i64 a1_1) := (zkc BK102.out 1).trans rfl
             have hfz90_0 := zkz BK102.out 0
             have hfz90_1 := zkz BK102.out 1
             go_upto_region 14 with (first | ((with_reducible refine zgc (f := 61) rfl ?_); refine goesL_ (some 113) rfl rfl Try.func61 (by kernel_rfl) rfl #[.agg #[.int .i64 a0_0, .int .i64 a0_1], .agg #[.int .i64 a1_0, .int .i64 a1_1]] rfl (by (try simp only [zmt, List.map_cons, List.map_nil]); first | done | rfl | (simp only [zld, zlt]; rfl)) ?_; (with_reducible refine (bound_Div.calls kj67 a0_0 a0_1 a1_0 a1_1 t121 t122 t123 _ A84.out).mono ?_); rintro e w91 ⟨rfl, hb⟩; refine ⟨_, rfl, ?_⟩; have n0_ := zam (zkb (g := gb101) (o := .cells #[.int .i64 a0_0, .int .i64 a0_1] 32 (0, 0)) (by (with_reducible repeat (first | refine zkn ?_ _ | refine zkd ?_ | refine zka ?_ _)); exact BK101.out) hb); have n1_ := zam (zkb (g := gb102) (o := .cells #[.int .i64 a1_0, .int .i64 a1_1] 32 (0, 0)) (by (with_reducible repeat (first | refine zkn ?_ _ | refine zkd ?_ | refine zka ?_ _)); exact BK102.out) hb); have n2_ := zam (zkb (g := gb111) (o := .cells #[.int .i64 t117, .int .i64 t118] 32 (0, 0)) (by (with_reducible repeat (first | refine zkn ?_ _ | refine zkd ?_ | refine zka ?_ _)); exact BK111.out) hb); have n3_ := zam (zbt (by repeat (first | (with_reducible first | exact HB.out | apply zba | apply zbn | apply zb1 | refine zbs ?_ GE101.out | refine zbs ?_ GE102.out | refine zbs ?_ GE111.out) | exact HB.out)) hb); clear BK101; clear BK102; clear BK111; clear HB; have BK101 := n0_; have BK102 := n1_; have BK111 := n2_; have HB := n3_; clear n0_ n1_ n2_ n3_; (try clear hb); (try clear hb2); (try clear hk); (try clear hi); have hcz92_0 : w91.cell? ⟨gb111, 0, none⟩ = some (.int .i64 t117) := (zkc BK111.out 0).trans rfl; have hcz92_1 : w91.cell? ⟨gb111, 1, none⟩ = some (.int .i64 t118) := (zkc BK111.out 1).trans rfl; have hfz92_0 := zkz BK111.out 0; have hfz92_1 := zkz BK111.out 1))
             (try simp only [Act.put, zsa, zsz, zss])
             go_cut [135] (fun v135 wc => ∃ (kq : Nat) (x135_84 : Bool), v135 = .bool x135_84 ∧ Aside0 (isobathlaw01_BoundHolds.j4 kq a4 a5 a6 a7 a8 t106 t107 x135_84 a0_0 a0_1 a1_0 a1_1 = some r) ∧ Aside0 (kq ≤ kj67) ∧ Aside0 (wc.heap[gb101]? = some (.cells #[.int .i64 a0_0, .int .i64 a0_1] 32 (0, 0))) ∧ Aside0 (wc.heap[gb102]? = some (.cells #[.int .i64 a1_0, .int .i64 a1_1] 32 (0, 0))) ∧ Aside0 (wc.heap[gb111]? = some (.cells #[.int .i64 t121, .int .i64 t122] 32 (0, 0))) ∧ Aside0 (Below w.heap.size w wc))
             case first =>
              have H := HC85.out
              clear HC85
              by_cases c93 : t123 = 0
              ·rw [if_pos c93] at H
               have c93b0 : (t123 == 0) = true := beq_iff_eq.mpr c93
               have c93b1 : (t123 != 0) = false := bne_eq_false_iff_eq.mpr c93
               clear c93
               (first | rw [c93b0] | (simp only [i64_w, i32_w]; rw [c93b0]) | skip)
               by_cases c94 : t107 = 0
               ·rw [if_pos c94] at H
                exact absurd H (by simp)
               rw [if_neg c94] at H
               have c94b0 : (t107 == 0) = false := beq_eq_false_iff_ne.mpr c94
               have c94b1 : (t107 != 0) = true := bne_iff_ne.mpr c94
               replace H := Option.bind_eq_some_iff.mp H
               obtain ⟨t124, A950, H⟩ := H
               replace H : (if t124 = true then ((isobathlaw01_holds.f a1_0 a1_1 0).bind fun t125 => (isobathlaw01_BoundHolds.j4 kj67 a4 a5 a6 a7 a8 t106 t107 ((t123 == 9) != t125) a0_0 a0_1 a1_0 a1_1)) else (none)) = some r := H
               have A95 := zam A950
               clear A950
               by_cases c96 : t124 = true
               ·subst c96
                have H1 : ((isobathlaw01_holds.f a1_0 a1_1 0).bind fun t125 => (isobathlaw01_BoundHolds.j4 kj67 a4 a5 a6 a7 a8 t106 t107 ((t123 == 9) != t125) a0_0 a0_1 a1_0 a1_1)) = some r := by rw [if_pos rfl] at H; exact H
                clear H
                have H := H1
                clear H1
                replace H := Option.bind_eq_some_iff.mp H
                obtain ⟨t125, A970, H⟩ := H
                replace H : (isobathlaw01_BoundHolds.j4 kj67 a4 a5 a6 a7 a8 t106 t107 ((t123 == 9) != t125) a0_0 a0_1 a1_0 a1_1) = some r := H
                have A97 := zam A970
                clear A970
                as_aux_lemma =>
                 have H' := zam H
                 clear H
                 have hnb98 := NB111_101.out
                 have hnc98 := NB101_111.out
                 have hnb99 := NB111_102.out
                 have hnc99 := NB102_111.out
                 have hcz100_0 : w91.cell? ⟨gb111, 0, none⟩ = some (.int .i64 t117) := (zkc BK111.out 0).trans rfl
                 have hcz100_1 : w91.cell? ⟨gb111, 1, none⟩ = some (.int .i64 t118) := (zkc BK111.out 1).trans rfl
                 have hfz100_0 := zkz BK111.out 0
                 have hfz100_1 := zkz BK111.out 1
                 go_wp2_with (first | (go_at_call 62; (with_reducible refine (isobathlaw01_between.calls t121 t122 t106 t107 true _ A95.out).mono ?_); rintro e w101 ⟨rfl, hb⟩; have n0_ := zam (zkb (g := gb101) (o := .cells #[.int .i64 a0_0, .int .i64 a0_1] 32 (0, 0)) (by (with_reducible repeat (first | refine zkn ?_ _ | refine zkd ?_ | refine zka ?_ _)); refine blk_far ?_ NB101_111.out _; (with_reducible repeat (first | refine zkn ?_ _ | refine zkd ?_ | refine zka ?_ _)); refine blk_far ?_ NB101_111.out _; (with_reducible repeat (first | refine zkn ?_ _ | refine zkd ?_ | refine zka ?_ _)); exact BK101.out) hb); have n1_ := zam (zkb (g := gb102) (o := .cells #[.int .i64 a1_0, .int .i64 a1_1] 32 (0, 0)) (by (with_reducible repeat (first | refine zkn ?_ _ | refine zkd ?_ | refine zka ?_ _)); refine blk_far ?_ NB102_111.out _; (with_reducible repeat (first | refine zkn ?_ _ | refine zkd ?_ | refine zka ?_ _)); refine blk_far ?_ NB102_111.out _; (with_reducible repeat (first | refine zkn ?_ _ | refine zkd ?_ | refine zka ?_ _)); exact BK102.out) hb); have n2_ := zam (zkb (g := gb111) (o := .cells #[.int .i64 t121, .int .i64 t122] 32 (0, 0)) (by (with_reducible repeat (first | refine zkn ?_ _ | refine zkd ?_ | refine zka ?_ _)); refine blk_put (cs := #[.int .i64 t121, .int .i64 t118]) ?_ 1 _ rfl; (with_reducible repeat (first | refine zkn ?_ _ | refine zkd ?_ | refine zka ?_ _)); refine blk_put (cs := #[.int .i64 t117, .int .i64 t118]) ?_ 0 _ rfl; (with_reducible repeat (first | refine zkn ?_ _ | refine zkd ?_ | refine zka ?_ _)); exact BK111.out) hb); have n3_ := zam (zbt (by repeat (first | (with_reducible first | exact HB.out | apply zba | apply zbn | apply zb1 | refine zbs ?_ GE101.out | refine zbs ?_ GE102.out | refine zbs ?_ GE111.out) | exact HB.out)) hb); clear BK101; clear BK102; clear BK111; clear HB; have BK101 := n0_; have BK102 := n1_; have BK111 := n2_; have HB := n3_; clear n0_ n1_ n2_ n3_; (try clear hb); (try clear hb2); (try clear hk); (try clear hi); have hnb102 := NB102_101.out; have hnc102 := NB101_102.out; have hcz103_0 : w101.cell? ⟨gb102, 0, none⟩ = some (.int .i64 a1_0) := (zkc BK102.out 0).trans rfl; have hcz103_1 : w101.cell? ⟨gb102, 1, none⟩ = some (.int .i64 a1_1) := (zkc BK102.out 1).trans rfl; have hfz103_0 := zkz BK102.out 0; have hfz103_1 := zkz BK102.out 1) | (go_at_call 26; (with_reducible refine (isobathlaw01_holds.calls a1_0 a1_1 0 t125 _ A97.out).mono ?_); rintro e w104 ⟨rfl, hb⟩; have n0_ := zam (zkb (g := gb101) (o := .cells #[.int .i64 a0_0, .int .i64 a0_1] 32 (0, 0)) (by (with_reducible repeat (first | refine zkn ?_ _ | refine zkd ?_ | refine zka ?_ _)); exact BK101.out) hb); have n1_ := zam (zkb (g := gb102) (o := .cells #[.int .i64 a1_0, .int .i64 a1_1] 32 (0, 0)) (by (with_reducible repeat (first | refine zkn ?_ _ | refine zkd ?_ | refine zka ?_ _)); exact BK102.out) hb); have n2_ := zam (zkb (g := gb111) (o := .cells #[.int .i64 t121, .int .i64 t122] 32 (0, 0)) (by (with_reducible repeat (first | refine zkn ?_ _ | refine zkd ?_ | refine zka ?_ _)); exact BK111.out) hb); have n3_ := zam (zbt (by repeat (first | (with_reducible first | exact HB.out | apply zba | apply zbn | apply zb1 | refine zbs ?_ GE101.out | refine zbs ?_ GE102.out | refine zbs ?_ GE111.out) | exact HB.out)) hb); clear BK101; clear BK102; clear BK111; clear HB; have BK101 := n0_; have BK102 := n1_; have BK111 := n2_; have HB := n3_; clear n0_ n1_ n2_ n3_; (try clear hb); (try clear hb2); (try clear hk); (try clear hi)))
                 go_meet
                 case rel => exact ⟨_, (((t123 == 9) != t125)), (by first | rfl | (simp; done) | (simp [*]; done)), H', ⟨by have := HJ9.out; have := HJ29.out; have := HJ50.out; have := HJ67.out; first | omega | exact Nat.le_refl _⟩, ⟨by (with_reducible repeat (first | refine zkn ?_ _ | refine zkd ?_ | refine zka ?_ _)); exact BK101.out⟩, ⟨by (with_reducible repeat (first | refine zkn ?_ _ | refine zkd ?_ | refine zka ?_ _)); exact BK102.out⟩, ⟨by (with_reducible repeat (first | refine zkn ?_ _ | refine zkd ?_ | refine zka ?_ _)); exact BK111.out⟩, ⟨by repeat (first | (with_reducible first | exact HB.out | apply zba | apply zbn | apply zb1 | refine zbs ?_ GE101.out | refine zbs ?_ GE102.out | refine zbs ?_ GE111.out) | exact HB.out)⟩⟩
               replace c96 := Bool.eq_false_iff.mpr c96
               subst c96
               have H1 : (none) = some r := by rw [if_neg (show ¬ (false = true) by decide)] at H; exact H
               clear H
               have H := H1
               clear H1
               exact absurd H (by simp)
              rw [if_neg c93] at H
              have c93b0 : (t123 == 0) = false := beq_eq_false_iff_ne.mpr c93
              have c93b1 : (t123 != 0) = true := bne_iff_ne.mpr c93
              (first | rw [c93b0] | (simp only [i64_w, i32_w]; rw [c93b0]) | skip)
              replace H := Option.bind_eq_some_iff.mp H
              obtain ⟨t126, A1050, H⟩ := H
              replace H : (isobathlaw01_BoundHolds.j4 kj67 a4 a5 a6 a7 a8 t106 t107 ((t123 == 9) != t126) a0_0 a0_1 a1_0 a1_1) = some r := H
              have A105 := zam A1050
              clear A1050
              as_aux_lemma =>
               have H' := zam H
               clear H
               have hnb106 := NB102_101.out
               have hnc106 := NB101_102.out
               have hnb107 := NB102_111.out
               have hnc107 := NB111_102.out
               have hcz108_0 : w91.cell? ⟨gb102, 0, none⟩ = some (.int .i64 a1_0) := (zkc BK102.out 0).trans rfl
               have hcz108_1 : w91.cell? ⟨gb102, 1, none⟩ = some (.int .i64 a1_1) := (zkc BK102.out 1).trans rfl
               have hfz108_0 := zkz BK102.out 0
               have hfz108_1 := zkz BK102.out 1
               go_wp2_with (first | (go_at_call 26; (with_reducible refine (isobathlaw01_holds.calls a1_0 a1_1 0 t126 _ A105.out).mono ?_); rintro e w109 ⟨rfl, hb⟩; have n0_ := zam (zkb (g := gb101) (o := .cells #[.int .i64 a0_0, .int .i64 a0_1] 32 (0, 0)) (by (with_reducible repeat (first | refine zkn ?_ _ | refine zkd ?_ | refine zka ?_ _)); refine blk_far ?_ NB101_111.out _; (with_reducible repeat (first | refine zkn ?_ _ | refine zkd ?_ | refine zka ?_ _)); refine blk_far ?_ NB101_111.out _; (with_reducible repeat (first | refine zkn ?_ _ | refine zkd ?_ | refine zka ?_ _)); exact BK101.out) hb); have n1_ := zam (zkb (g := gb102) (o := .cells #[.int .i64 a1_0, .int .i64 a1_1] 32 (0, 0)) (by (with_reducible repeat (first | refine zkn ?_ _ | refine zkd ?_ | refine zka ?_ _)); refine blk_far ?_ NB102_111.out _; (with_reducible repeat (first | refine zkn ?_ _ | refine zkd ?_ | refine zka ?_ _)); refine blk_far ?_ NB102_111.out _; (with_reducible repeat (first | refine zkn ?_ _ | refine zkd ?_ | refine zka ?_ _)); exact BK102.out) hb); have n2_ := zam (zkb (g := gb111) (o := .cells #[.int .i64 t121, .int .i64 t122] 32 (0, 0)) (by (with_reducible repeat (first | refine zkn ?_ _ | refine zkd ?_ | refine zka ?_ _)); refine blk_put (cs := #[.int .i64 t121, .int .i64 t118]) ?_ 1 _ rfl; (with_reducible repeat (first | refine zkn ?_ _ | refine zkd ?_ | refine zka ?_ _)); refine blk_put (cs := #[.int .i64 t117, .int .i64 t118]) ?_ 0 _ rfl; (with_reducible repeat (first | refine zkn ?_ _ | refine zkd ?_ | refine zka ?_ _)); exact BK111.out) hb); have n3_ := zam (zbt (by repeat (first | (with_reducible first | exact HB.out | apply zba | apply zbn | apply zb1 | refine zbs ?_ GE101.out | refine zbs ?_ GE102.out | refine zbs ?_ GE111.out) | exact HB.out)) hb); clear BK101; clear BK102; clear BK111; clear HB; have BK101 := n0_; have BK102 := n1_; have BK111 := n2_; have HB := n3_; clear n0_ n1_ n2_ n3_; (try clear hb); (try clear hb2); (try clear hk); (try clear hi)))
               go_meet
               case rel => exact ⟨_, (((t123 == 9) != t126)), (by first | rfl | (simp; done) | (simp [*]; done)), H', ⟨by have := HJ9.out; have := HJ29.out; have := HJ50.out; have := HJ67.out; first | omega | exact Nat.le_refl _⟩, ⟨by (with_reducible repeat (first | refine zkn ?_ _ | refine zkd ?_ | refine zka ?_ _)); exact BK101.out⟩, ⟨by (with_reducible repeat (first | refine zkn ?_ _ | refine zkd ?_ | refine zka ?_ _)); exact BK102.out⟩, ⟨by (with_reducible repeat (first | refine zkn ?_ _ | refine zkd ?_ | refine zka ?_ _)); exact BK111.out⟩, ⟨by repeat (first | (with_reducible first | exact HB.out | apply zba | apply zbn | apply zb1 | refine zbs ?_ GE101.out | refine zbs ?_ GE102.out | refine zbs ?_ GE111.out) | exact HB.out)⟩⟩
             case rest =>
              clear HC85
              try clear c1
              try clear c2
              try clear p2
              try clear c3
              try clear c4
              try clear c5
              try clear c6
              try clear p6
              try clear c7
              try clear c8
              try clear c9
              try clear c10
              try clear c14
              try clear c16
              try clear c18
              try clear c21
              try clear c22
              try clear c23
              try clear c24
              try clear c27
              try clear c28
              try clear c30
              try clear c34
              try clear c39
              try clear c40
              try clear c42
              try clear c42b0
              try clear c42b1
              try clear c44
              try clear c45
              try clear c46
              try clear c49
              try clear c52
              try clear c53
              try clear c55
              try clear c59
              try clear c59b0
              try clear c59b1
              try clear c61
              try clear c62
              try clear c63
              try clear p64
              try clear c66
              try clear c69
              try clear c70
              try clear c72
              try clear c76
              try clear c76b0
              try clear c76b1
              try clear c78
              try clear c79
              try clear c80
              try clear c83
              try clear c86
              try clear c87
              try clear c89
              try clear c93
              try clear c93b0
              try clear c93b1
              try clear c94
              try clear c94b0
              try clear c94b1
              try clear c96
              try clear c98
              try clear c99
              try clear c102
              try clear c106
              try clear c107
              try clear hcz100_0
              try clear hcz100_1
              try clear hcz103_0
              try clear hcz103_1
              try clear hcz108_0
              try clear hcz108_1
              try clear hcz17_0
              try clear hcz17_1
              try clear hcz19_0
              try clear hcz19_1
              try clear hcz22_0
              try clear hcz22_1
              try clear hcz35_0
              try clear hcz35_1
              try clear hcz36_0
              try clear hcz36_1
              try clear hcz41_0
              try clear hcz41_1
              try clear hcz47_0
              try clear hcz47_1
              try clear hcz54_0
              try clear hcz54_1
              try clear hcz56_0
              try clear hcz56_1
              try clear hcz58_0
              try clear hcz58_1
              try clear hcz64_0
              try clear hcz64_1
              try clear hcz71_0
              try clear hcz71_1
              try clear hcz73_0
              try clear hcz73_1
              try clear hcz75_0
              try clear hcz75_1
              try clear hcz81_0
              try clear hcz81_1
              try clear hcz88_0
              try clear hcz88_1
              try clear hcz90_0
              try clear hcz90_1
              try clear hcz92_0
              try clear hcz92_1
              try clear hfz100_0
              try clear hfz100_1
              try clear hfz103_0
              try clear hfz103_1
              try clear hfz108_0
              try clear hfz108_1
              try clear hfz17_0
              try clear hfz17_1
              try clear hfz19_0
              try clear hfz19_1
              try clear hfz22_0
              try clear hfz22_1
              try clear hfz35_0
              try clear hfz35_1
              try clear hfz36_0
              try clear hfz36_1
              try clear hfz41_0
              try clear hfz41_1
              try clear hfz47_0
              try clear hfz47_1
              try clear hfz54_0
              try clear hfz54_1
              try clear hfz56_0
              try clear hfz56_1
              try clear hfz58_0
              try clear hfz58_1
              try clear hfz64_0
              try clear hfz64_1
              try clear hfz71_0
              try clear hfz71_1
              try clear hfz73_0
              try clear hfz73_1
              try clear hfz75_0
              try clear hfz75_1
              try clear hfz81_0
              try clear hfz81_1
              try clear hfz88_0
              try clear hfz88_1
              try clear hfz90_0
              try clear hfz90_1
              try clear hfz92_0
              try clear hfz92_1
              try clear p2
              try clear p6
              try clear p64
              obtain ⟨kq, x135_84, rfl, HA, HJ84, BK101, BK102, BK111, HB⟩ := hcut
              as_aux_lemma =>
               cases kq with
               | zero => exact absurd HA.out (by simp [isobathlaw01_BoundHolds.j4])
               | succ kj84 =>
                have H := HA.out
                clear HA
                simp only [isobathlaw01_BoundHolds.j4] at H
                by_cases c110 : x135_84 = true
                ·subst c110
                 have H1 : (none) = some r := by rw [if_pos rfl] at H; exact H
                 clear H
                 have H := H1
                 clear H1
                 exact absurd H (by simp)
                replace c110 := Bool.eq_false_iff.mpr c110
                subst c110
                have H1 : ((bound_Root.f kj84 a0_0 a0_1).bind fun bt127 => (if bt127.2.2 = 0 then (if (wrap64 (bt127.1 * bt127.1)) > t106 then (none) else (if (wrap64 (bt127.2.1 * bt127.2.1)) < t106 then (none) else (if bt127.1 < 0 then (none) else (isobathlaw01_BoundHolds.j5 kj84 a4 a5 a6 a7 a8 t106 t107 ((bt127.2.2 == 0) != (decide (a0_0 ≥ 0))) a0_0 a0_1 a1_0 a1_1)))) else (isobathlaw01_BoundHolds.j5 kj84 a4 a5 a6 a7 a8 t106 t107 ((bt127.2.2 == 0) != (decide (a0_0 ≥ 0))) a0_0 a0_1 a1_0 a1_1))) = some r := by rw [if_neg (show ¬ (false = true) by decide)] at H; exact H
                clear H
                have H := H1
                clear H1
                replace H := Option.bind_eq_some_iff.mp H
                obtain ⟨⟨t127, t128, t129⟩, A1110, H⟩ := H
                replace H : (if t129 = 0 then (if (wrap64 (t127 * t127)) > t106 then (none) else (if (wrap64 (t128 * t128)) < t106 then (none) else (if t127 < 0 then (none) else (isobathlaw01_BoundHolds.j5 kj84 a4 a5 a6 a7 a8 t106 t107 ((t129 == 0) != (decide (a0_0 ≥ 0))) a0_0 a0_1 a1_0 a1_1)))) else (isobathlaw01_BoundHolds.j5 kj84 a4 a5 a6 a7 a8 t106 t107 ((t129 == 0) != (decide (a0_0 ≥ 0))) a0_0 a0_1 a1_0 a1_1)) = some r := H
                have A111 := zam A1110
                clear A1110
                have HC112 := zam H
                clear H
                have hnb113 := NB101_102.out
                have hnc113 := NB102_101.out
                have hnb114 := NB101_111.out
                have hnc114 := NB111_101.out
                have hcz115_0 : wc.cell? ⟨gb101, 0, none⟩ = some (.int .i64 a0_0) := (zkc BK101.out 0).trans rfl
                have hcz115_1 : wc.cell? ⟨gb101, 1, none⟩ = some (.int .i64 a0_1) := (zkc BK101.out 1).trans rfl
                have hfz115_0 := zkz BK101.out 0
                have hfz115_1 := zkz BK101.out 1
                go_upto_region 17 with (first | ((with_reducible refine zgc (f := 63) rfl ?_); refine goesL_ (some 138) rfl rfl Try.func63 (by kernel_rfl) rfl #[.agg #[.int .i64 a0_0, .int .i64 a0_1]] rfl (by (try simp only [zmt, List.map_cons, List.map_nil]); first | done | rfl | (simp only [zld, zlt]; rfl)) ?_; (with_reducible refine (bound_Root.calls kj84 a0_0 a0_1 t127 t128 t129 _ A111.out).mono ?_); rintro e w116 ⟨rfl, hb⟩; refine ⟨_, rfl, ?_⟩; have n0_ := zam (zkb (g := gb101) (o := .cells #[.int .i64 a0_0, .int .i64 a0_1] 32 (0, 0)) (by (with_reducible repeat (first | refine zkn ?_ _ | refine zkd ?_ | refine zka ?_ _)); exact BK101.out) hb); have n1_ := zam (zkb (g := gb102) (o := .cells #[.int .i64 a1_0, .int .i64 a1_1] 32 (0, 0)) (by (with_reducible repeat (first | refine zkn ?_ _ | refine zkd ?_ | refine zka ?_ _)); exact BK102.out) hb); have n2_ := zam (zkb (g := gb111) (o := .cells #[.int .i64 t121, .int .i64 t122] 32 (0, 0)) (by (with_reducible repeat (first | refine zkn ?_ _ | refine zkd ?_ | refine zka ?_ _)); exact BK111.out) hb); have n3_ := zam (zbt (by repeat (first | (with_reducible first | exact HB.out | apply zba | apply zbn | apply zb1 | refine zbs ?_ GE101.out | refine zbs ?_ GE102.out | refine zbs ?_ GE111.out) | exact HB.out)) hb); clear BK101; clear BK102; clear BK111; clear HB; have BK101 := n0_; have BK102 := n1_; have BK111 := n2_; have HB := n3_; clear n0_ n1_ n2_ n3_; (try clear hb); (try clear hb2); (try clear hk); (try clear hi); have hnb117 := NB111_102.out; have hnc117 := NB102_111.out; have hcz118_0 : w116.cell? ⟨gb111, 0, none⟩ = some (.int .i64 t121) := (zkc BK111.out 0).trans rfl; have hcz118_1 : w116.cell? ⟨gb111, 1, none⟩ = some (.int .i64 t122) := (zkc BK111.out 1).trans rfl; have hfz118_0 := zkz BK111.out 0; have hfz118_1 := zkz BK111.out 1))
                (try simp only [Act.put, zsa, zsz, zss])
                go_cut [173] (fun v173 wc => ∃ (kq : Nat) (x173_111 : Bool), v173 = .bool x173_111 ∧ Aside0 (isobathlaw01_BoundHolds.j5 kq a4 a5 a6 a7 a8 t106 t107 x173_111 a0_0 a0_1 a1_0 a1_1 = some r) ∧ Aside0 (kq ≤ kj84) ∧ Aside0 (wc.heap[gb101]? = some (.cells #[.int .i64 a0_0, .int .i64 a0_1] 32 (0, 0))) ∧ Aside0 (wc.heap[gb102]? = some (.cells #[.int .i64 a1_0, .int .i64 a1_1] 32 (0, 0))) ∧ Aside0 (wc.heap[gb111]? = some (.cells #[.int .i64 t127, .int .i64 t128] 32 (0, 0))) ∧ Aside0 (Below w.heap.size w wc))
                case first =>
                 have H := HC112.out
                 clear HC112
                 by_cases c119 : t129 = 0
                 ·rw [if_pos c119] at H
                  have c119b0 : (t129 == 0) = true := beq_iff_eq.mpr c119
                  have c119b1 : (t129 != 0) = false := bne_eq_false_iff_eq.mpr c119
                  clear c119
                  (first | rw [c119b0] | (simp only [i64_w, i32_w]; rw [c119b0]) | skip)
                  by_cases c120 : (wrap64 (t127 * t127)) > t106
                  ·rw [if_pos c120] at H
                   exact absurd H (by simp)
                  rw [if_neg c120] at H
                  have c120b0 : decide (t106 < (wrap64 (t127 * t127))) = false := zdf c120
                  clear c120
                  by_cases c121 : (wrap64 (t128 * t128)) < t106
                  ·rw [if_pos c121] at H
                   exact absurd H (by simp)
                  rw [if_neg c121] at H
                  have c121b0 : decide ((wrap64 (t128 * t128)) < t106) = false := zdf c121
                  clear c121
                  by_cases c122 : t127 < 0
                  ·rw [if_pos c122] at H
                   exact absurd H (by simp)
                  rw [if_neg c122] at H
                  have c122b0 : decide (t127 < 0) = false := zdf c122
                  clear c122
                  as_aux_lemma =>
                   have H' := zam H
                   clear H
                   have hnb123 := NB111_101.out
                   have hnc123 := NB101_111.out
                   have hnb124 := NB111_102.out
                   have hnc124 := NB102_111.out
                   have hcz125_0 : w116.cell? ⟨gb111, 0, none⟩ = some (.int .i64 t121) := (zkc BK111.out 0).trans rfl
                   have hcz125_1 : w116.cell? ⟨gb111, 1, none⟩ = some (.int .i64 t122) := (zkc BK111.out 1).trans rfl
                   have hfz125_0 := zkz BK111.out 0
                   have hfz125_1 := zkz BK111.out 1
                   have hnb126 := NB101_102.out
                   have hnc126 := NB102_101.out
                   have hcz127_0 : w116.cell? ⟨gb101, 0, none⟩ = some (.int .i64 a0_0) := (zkc BK101.out 0).trans rfl
                   have hcz127_1 : w116.cell? ⟨gb101, 1, none⟩ = some (.int .i64 a0_1) := (zkc BK101.out 1).trans rfl
                   have hfz127_0 := zkz BK101.out 0
                   have hfz127_1 := zkz BK101.out 1
                   go_wp2
                   go_meet
                   case rel => exact ⟨_, (((t129 == 0) != (decide (a0_0 ≥ 0)))), (by first | rfl | (simp; done) | (simp [*]; done)), H', ⟨by have := HJ9.out; have := HJ29.out; have := HJ50.out; have := HJ67.out; have := HJ84.out; first | omega | exact Nat.le_refl _⟩, ⟨by (with_reducible repeat (first | refine zkn ?_ _ | refine zkd ?_ | refine zka ?_ _)); refine blk_far ?_ NB101_111.out _; (with_reducible repeat (first | refine zkn ?_ _ | refine zkd ?_ | refine zka ?_ _)); refine blk_far ?_ NB101_111.out _; (with_reducible repeat (first | refine zkn ?_ _ | refine zkd ?_ | refine zka ?_ _)); exact BK101.out⟩, ⟨by (with_reducible repeat (first | refine zkn ?_ _ | refine zkd ?_ | refine zka ?_ _)); refine blk_far ?_ NB102_111.out _; (with_reducible repeat (first | refine zkn ?_ _ | refine zkd ?_ | refine zka ?_ _)); refine blk_far ?_ NB102_111.out _; (with_reducible repeat (first | refine zkn ?_ _ | refine zkd ?_ | refine zka ?_ _)); exact BK102.out⟩, ⟨by (with_reducible repeat (first | refine zkn ?_ _ | refine zkd ?_ | refine zka ?_ _)); refine blk_put (cs := #[.int .i64 t127, .int .i64 t122]) ?_ 1 _ rfl; (with_reducible repeat (first | refine zkn ?_ _ | refine zkd ?_ | refine zka ?_ _)); refine blk_put (cs := #[.int .i64 t121, .int .i64 t122]) ?_ 0 _ rfl; (with_reducible repeat (first | refine zkn ?_ _ | refine zkd ?_ | refine zka ?_ _)); exact BK111.out⟩, ⟨by repeat (first | (with_reducible first | exact HB.out | apply zba | apply zbn | apply zb1 | refine zbs ?_ GE101.out | refine zbs ?_ GE102.out | refine zbs ?_ GE111.out) | exact HB.out)⟩⟩
                 rw [if_neg c119] at H
                 have c119b0 : (t129 == 0) = false := beq_eq_false_iff_ne.mpr c119
                 have c119b1 : (t129 != 0) = true := bne_iff_ne.mpr c119
                 (first | rw [c119b0] | (simp only [i64_w, i32_w]; rw [c119b0]) | skip)
                 as_aux_lemma =>
                  have H' := zam H
                  clear H
                  have hnb128 := NB101_102.out
                  have hnc128 := NB102_101.out
                  have hnb129 := NB101_111.out
                  have hnc129 := NB111_101.out
                  have hcz130_0 : w116.cell? ⟨gb101, 0, none⟩ = some (.int .i64 a0_0) := (zkc BK101.out 0).trans rfl
                  have hcz130_1 : w116.cell? ⟨gb101, 1, none⟩ = some (.int .i64 a0_1) := (zkc BK101.out 1).trans rfl
                  have hfz130_0 := zkz BK101.out 0
                  have hfz130_1 := zkz BK101.out 1
                  go_wp2
                  go_meet
                  case rel => exact ⟨_, (((t129 == 0) != (decide (a0_0 ≥ 0)))), (by first | rfl | (simp; done) | (simp [*]; done)), H', ⟨by have := HJ9.out; have := HJ29.out; have := HJ50.out; have := HJ67.out; have := HJ84.out; first | omega | exact Nat.le_refl _⟩, ⟨by (with_reducible repeat (first | refine zkn ?_ _ | refine zkd ?_ | refine zka ?_ _)); refine blk_far ?_ NB101_111.out _; (with_reducible repeat (first | refine zkn ?_ _ | refine zkd ?_ | refine zka ?_ _)); refine blk_far ?_ NB101_111.out _; (with_reducible repeat (first | refine zkn ?_ _ | refine zkd ?_ | refine zka ?_ _)); exact BK101.out⟩, ⟨by (with_reducible repeat (first | refine zkn ?_ _ | refine zkd ?_ | refine zka ?_ _)); refine blk_far ?_ NB102_111.out _; (with_reducible repeat (first | refine zkn ?_ _ | refine zkd ?_ | refine zka ?_ _)); refine blk_far ?_ NB102_111.out _; (with_reducible repeat (first | refine zkn ?_ _ | refine zkd ?_ | refine zka ?_ _)); exact BK102.out⟩, ⟨by (with_reducible repeat (first | refine zkn ?_ _ | refine zkd ?_ | refine zka ?_ _)); refine blk_put (cs := #[.int .i64 t127, .int .i64 t122]) ?_ 1 _ rfl; (with_reducible repeat (first | refine zkn ?_ _ | refine zkd ?_ | refine zka ?_ _)); refine blk_put (cs := #[.int .i64 t121, .int .i64 t122]) ?_ 0 _ rfl; (with_reducible repeat (first | refine zkn ?_ _ | refine zkd ?_ | refine zka ?_ _)); exact BK111.out⟩, ⟨by repeat (first | (with_reducible first | exact HB.out | apply zba | apply zbn | apply zb1 | refine zbs ?_ GE101.out | refine zbs ?_ GE102.out | refine zbs ?_ GE111.out) | exact HB.out)⟩⟩
                case rest =>
                 clear HC112
                 try clear c1
                 try clear c2
                 try clear p2
                 try clear c3
                 try clear c4
                 try clear c5
                 try clear c6
                 try clear p6
                 try clear c7
                 try clear c8
                 try clear c9
                 try clear c10
                 try clear c11
                 try clear c12
                 try clear c14
                 try clear c16
                 try clear c18
                 try clear c21
                 try clear c22
                 try clear c23
                 try clear c24
                 try clear c27
                 try clear c28
                 try clear c30
                 try clear c34
                 try clear c39
                 try clear c40
                 try clear c42
                 try clear c42b0
                 try clear c42b1
                 try clear c44
                 try clear c45
                 try clear c46
                 try clear c49
                 try clear c52
                 try clear c53
                 try clear c55
                 try clear c59
                 try clear c59b0
                 try clear c59b1
                 try clear c61
                 try clear c62
                 try clear c63
                 try clear p64
                 try clear c66
                 try clear c69
                 try clear c70
                 try clear c72
                 try clear c76
                 try clear c76b0
                 try clear c76b1
                 try clear c78
                 try clear c79
                 try clear c80
                 try clear c83
                 try clear c86
                 try clear c87
                 try clear c89
                 try clear c93
                 try clear c93b0
                 try clear c93b1
                 try clear c94
                 try clear c94b0
                 try clear c94b1
                 try clear c96
                 try clear c98
                 try clear c99
                 try clear c102
                 try clear c106
                 try clear c107
                 try clear c110
                 try clear c113
                 try clear c114
                 try clear c117
                 try clear c119
                 try clear c119b0
                 try clear c119b1
                 try clear c120
                 try clear c120b0
                 try clear c121
                 try clear c121b0
                 try clear c122
                 try clear c122b0
                 try clear c123
                 try clear c124
                 try clear c126
                 try clear c128
                 try clear c129
                 try clear hcz100_0
                 try clear hcz100_1
                 try clear hcz103_0
                 try clear hcz103_1
                 try clear hcz108_0
                 try clear hcz108_1
                 try clear hcz115_0
                 try clear hcz115_1
                 try clear hcz118_0
                 try clear hcz118_1
                 try clear hcz125_0
                 try clear hcz125_1
                 try clear hcz127_0
                 try clear hcz127_1
                 try clear hcz130_0
                 try clear hcz130_1
                 try clear hcz17_0
                 try clear hcz17_1
                 try clear hcz19_0
                 try clear hcz19_1
                 try clear hcz22_0
                 try clear hcz22_1
                 try clear hcz35_0
                 try clear hcz35_1
                 try clear hcz36_0
                 try clear hcz36_1
                 try clear hcz41_0
                 try clear hcz41_1
                 try clear hcz47_0
                 try clear hcz47_1
                 try clear hcz54_0
                 try clear hcz54_1
                 try clear hcz56_0
                 try clear hcz56_1
                 try clear hcz58_0
                 try clear hcz58_1
                 try clear hcz64_0
                 try clear hcz64_1
                 try clear hcz71_0
                 try clear hcz71_1
                 try clear hcz73_0
                 try clear hcz73_1
                 try clear hcz75_0
                 try clear hcz75_1
                 try clear hcz81_0
                 try clear hcz81_1
                 try clear hcz88_0
                 try clear hcz88_1
                 try clear hcz90_0
                 try clear hcz90_1
                 try clear hcz92_0
                 try clear hcz92_1
                 try clear hfz100_0
                 try clear hfz100_1
                 try clear hfz103_0
                 try clear hfz103_1
                 try clear hfz108_0
                 try clear hfz108_1
                 try clear hfz115_0
                 try clear hfz115_1
                 try clear hfz118_0
                 try clear hfz118_1
                 try clear hfz125_0
                 try clear hfz125_1
                 try clear hfz127_0
                 try clear hfz127_1
                 try clear hfz130_0
                 try clear hfz130_1
                 try clear hfz17_0
                 try clear hfz17_1
                 try clear hfz19_0
                 try clear hfz19_1
                 try clear hfz22_0
                 try clear hfz22_1
                 try clear hfz35_0
                 try clear hfz35_1
                 try clear hfz36_0
                 try clear hfz36_1
                 try clear hfz41_0
                 try clear hfz41_1
                 try clear hfz47_0
                 try clear hfz47_1
                 try clear hfz54_0
                 try clear hfz54_1
                 try clear hfz56_0
                 try clear hfz56_1
                 try clear hfz58_0
                 try clear hfz58_1
                 try clear hfz64_0
                 try clear hfz64_1
                 try clear hfz71_0
                 try clear hfz71_1
                 try clear hfz73_0
                 try clear hfz73_1
                 try clear hfz75_0
                 try clear hfz75_1
                 try clear hfz81_0
                 try clear hfz81_1
                 try clear hfz88_0
                 try clear hfz88_1
                 try clear hfz90_0
                 try clear hfz90_1
                 try clear hfz92_0
                 try clear hfz92_1
                 try clear p2
                 try clear p6
                 try clear p64
                 obtain ⟨kq, x173_111, rfl, HA, HJ111, BK101, BK102, BK111, HB⟩ := hcut
                 as_aux_lemma =>
                  cases kq with
                  | zero => exact absurd HA.out (by simp [isobathlaw01_BoundHolds.j5])
                  | succ kj111 =>
                   have H := HA.out
                   clear HA
                   simp only [isobathlaw01_BoundHolds.j5] at H
                   by_cases c131 : x173_111 = true
                   ·subst c131
                    have H1 : (none) = some r := by rw [if_pos rfl] at H; exact H
                    clear H
                    have H := H1
                    clear H1
                    exact absurd H (by simp)
                   replace c131 := Bool.eq_false_iff.mpr c131
                   subst c131
                   have H1 : ((bound_Scale.f kj111 a0_0 a0_1 a4 a5).bind fun bt130 => (if bt130.2.2 = 0 then (if a5 < 1 then (none) else ((isobathlaw01_between.f bt130.1 bt130.2.1 (wrap64 (t106 * a4)) a5).bind fun t133 => (isobathlaw01_BoundHolds.j6 kj111 a6 a7 a8 t106 t107 (!t133) a0_0 a0_1 a1_0 a1_1))) else (isobathlaw01_BoundHolds.j6 kj111 a6 a7 a8 t106 t107 false a0_0 a0_1 a1_0 a1_1))) = some r := by rw [if_neg (show ¬ (false = true) by decide)] at H; exact H
                   clear H
                   have H := H1
                   clear H1
                   replace H := Option.bind_eq_some_iff.mp H
                   obtain ⟨⟨t130, t131, t132⟩, A1320, H⟩ := H
                   replace H : (if t132 = 0 then (if a5 < 1 then (none) else ((isobathlaw01_between.f t130 t131 (wrap64 (t106 * a4)) a5).bind fun t133 => (isobathlaw01_BoundHolds.j6 kj111 a6 a7 a8 t106 t107 (!t133) a0_0 a0_1 a1_0 a1_1))) else (isobathlaw01_BoundHolds.j6 kj111 a6 a7 a8 t106 t107 false a0_0 a0_1 a1_0 a1_1)) = some r := H
                   have A132 := zam A1320
                   clear A1320
                   have HC133 := zam H
                   clear H
                   have hnb134 := NB101_102.out
                   have hnc134 := NB102_101.out
                   have hnb135 := NB101_111.out
                   have hnc135 := NB111_101.out
                   have hcz136_0 : wc.cell? ⟨gb101, 0, none⟩ = some (.int .i64 a0_0) := (zkc BK101.out 0).trans rfl
                   have hcz136_1 : wc.cell? ⟨gb101, 1, none⟩ = some (.int .i64 a0_1) := (zkc BK101.out 1).trans rfl
                   have hfz136_0 := zkz BK101.out 0
                   have hfz136_1 := zkz BK101.out 1
                   go_upto_region 20 with (first | ((with_reducible refine zgc (f := 29) rfl ?_); refine goesL_ (some 178) rfl rfl Try.func29 (by kernel_rfl) rfl #[.agg #[.int .i64 a0_0, .int .i64 a0_1], .int .i64 a4, .int .i64 a5] rfl (by (try simp only [zmt, List.map_cons, List.map_nil]); first | done | rfl | (simp only [zld, zlt]; rfl)) ?_; (with_reducible refine (bound_Scale.calls kj111 a0_0 a0_1 a4 a5 t130 t131 t132 _ A132.out).mono ?_); rintro e w137 ⟨rfl, hb⟩; refine ⟨_, rfl, ?_⟩; have n0_ := zam (zkb (g := gb101) (o := .cells #[.int .i64 a0_0, .int .i64 a0_1] 32 (0, 0)) (by (with_reducible repeat (first | refine zkn ?_ _ | refine zkd ?_ | refine zka ?_ _)); exact BK101.out) hb); have n1_ := zam (zkb (g := gb102) (o := .cells #[.int .i64 a1_0, .int .i64 a1_1] 32 (0, 0)) (by (with_reducible repeat (first | refine zkn ?_ _ | refine zkd ?_ | refine zka ?_ _)); exact BK102.out) hb); have n2_ := zam (zkb (g := gb111) (o := .cells #[.int .i64 t127, .int .i64 t128] 32 (0, 0)) (by (with_reducible repeat (first | refine zkn ?_ _ | refine zkd ?_ | refine zka ?_ _)); exact BK111.out) hb); have n3_ := zam (zbt (by repeat (first | (with_reducible first | exact HB.out | apply zba | apply zbn | apply zb1 | refine zbs ?_ GE101.out | refine zbs ?_ GE102.out | refine zbs ?_ GE111.out) | exact HB.out)) hb); clear BK101; clear BK102; clear BK111; clear HB; have BK101 := n0_; have BK102 := n1_; have BK111 := n2_; have HB := n3_; clear n0_ n1_ n2_ n3_; (try clear hb); (try clear hb2); (try clear hk); (try clear hi); have hnb138 := NB111_102.out; have hnc138 := NB102_111.out; have hcz139_0 : w137.cell? ⟨gb111, 0, none⟩ = some (.int .i64 t127) := (zkc BK111.out 0).trans rfl; have hcz139_1 : w137.cell? ⟨gb111, 1, none⟩ = some (.int .i64 t128) := (zkc BK111.out 1).trans rfl; have hfz139_0 := zkz BK111.out 0; have hfz139_1 := zkz BK111.out 1))
                   (try simp only [Act.put, zsa, zsz, zss])
                   go_cut [195] (fun v195 wc => ∃ (kq : Nat) (x195_132 : Bool), v195 = .bool x195_132 ∧ Aside0 (isobathlaw01_BoundHolds.j6 kq a6 a7 a8 t106 t107 x195_132 a0_0 a0_1 a1_0 a1_1 = some r) ∧ Aside0 (kq ≤ kj111) ∧ Aside0 (wc.heap[gb101]? = some (.cells #[.int .i64 a0_0, .int .i64 a0_1] 32 (0, 0))) ∧ Aside0 (wc.heap[gb102]? = some (.cells #[.int .i64 a1_0, .int .i64 a1_1] 32 (0, 0))) ∧ Aside0 (wc.heap[gb111]? = some (.cells #[.int .i64 t130, .int .i64 t131] 32 (0, 0))) ∧ Aside0 (Below w.heap.size w wc))
                   case first =>
                    have H := HC133.out
                    clear HC133
                    by_cases c140 : t132 = 0
                    ·rw [if_pos c140] at H
                     have c140b0 : (t132 == 0) = true := beq_iff_eq.mpr c140
                     have c140b1 : (t132 != 0) = false := bne_eq_false_iff_eq.mpr c140
                     clear c140
                     (first | rw [c140b0] | (simp only [i64_w, i32_w]; rw [c140b0]) | skip)
                     by_cases c141 : a5 < 1
                     ·rw [if_pos c141] at H
                      exact absurd H (by simp)
                     rw [if_neg c141] at H
                     have c141b0 : decide (a5 < 1) = false := zdf c141
                     clear c141
                     replace H := Option.bind_eq_some_iff.mp H
                     obtain ⟨t133, A1420, H⟩ := H
                     replace H : (isobathlaw01_BoundHolds.j6 kj111 a6 a7 a8 t106 t107 (!t133) a0_0 a0_1 a1_0 a1_1) = some r := H
                     have A142 := zam A1420
                     clear A1420
                     as_aux_lemma =>
                      have H' := zam H
                      clear H
                      have hnb143 := NB111_101.out
                      have hnc143 := NB101_111.out
                      have hnb144 := NB111_102.out
                      have hnc144 := NB102_111.out
                      have hcz145_0 : w137.cell? ⟨gb111, 0, none⟩ = some (.int .i64 t127) := (zkc BK111.out 0).trans rfl
                      have hcz145_1 : w137.cell? ⟨gb111, 1, none⟩ = some (.int .i64 t128) := (zkc BK111.out 1).trans rfl
                      have hfz145_0 := zkz BK111.out 0
                      have hfz145_1 := zkz BK111.out 1
                      go_wp2_with (first | (go_at_call 62; (with_reducible refine (isobathlaw01_between.calls t130 t131 (wrap64 (t106 * a4)) a5 t133 _ A142.out).mono ?_); rintro e w146 ⟨rfl, hb⟩; have n0_ := zam (zkb (g := gb101) (o := .cells #[.int .i64 a0_0, .int .i64 a0_1] 32 (0, 0)) (by (with_reducible repeat (first | refine zkn ?_ _ | refine zkd ?_ | refine zka ?_ _)); refine blk_far ?_ NB101_111.out _; (with_reducible repeat (first | refine zkn ?_ _ | refine zkd ?_ | refine zka ?_ _)); refine blk_far ?_ NB101_111.out _; (with_reducible repeat (first | refine zkn ?_ _ | refine zkd ?_ | refine zka ?_ _)); exact BK101.out) hb); have n1_ := zam (zkb (g := gb102) (o := .cells #[.int .i64 a1_0, .int .i64 a1_1] 32 (0, 0)) (by (with_reducible repeat (first | refine zkn ?_ _ | refine zkd ?_ | refine zka ?_ _)); refine blk_far ?_ NB102_111.out _; (with_reducible repeat (first | refine zkn ?_ _ | refine zkd ?_ | refine zka ?_ _)); refine blk_far ?_ NB102_111.out _; (with_reducible repeat (first | refine zkn ?_ _ | refine zkd ?_ | refine zka ?_ _)); exact BK102.out) hb); have n2_ := zam (zkb (g := gb111) (o := .cells #[.int .i64 t130, .int .i64 t131] 32 (0, 0)) (by (with_reducible repeat (first | refine zkn ?_ _ | refine zkd ?_ | refine zka ?_ _)); refine blk_put (cs := #[.int .i64 t130, .int .i64 t128]) ?_ 1 _ rfl; (with_reducible repeat (first | refine zkn ?_ _ | refine zkd ?_ | refine zka ?_ _)); refine blk_put (cs := #[.int .i64 t127, .int .i64 t128]) ?_ 0 _ rfl; (with_reducible repeat (first | refine zkn ?_ _ | refine zkd ?_ | refine zka ?_ _)); exact BK111.out) hb); have n3_ := zam (zbt (by repeat (first | (with_reducible first | exact HB.out | apply zba | apply zbn | apply zb1 | refine zbs ?_ GE101.out | refine zbs ?_ GE102.out | refine zbs ?_ GE111.out) | exact HB.out)) hb); clear BK101; clear BK102; clear BK111; clear HB; have BK101 := n0_; have BK102 := n1_; have BK111 := n2_; have HB := n3_; clear n0_ n1_ n2_ n3_; (try clear hb); (try clear hb2); (try clear hk); (try clear hi)))
                      go_meet
                      case rel => exact ⟨_, (!t133), (by first | rfl | (simp; done) | (simp [*]; done)), H', ⟨by have := HJ9.out; have := HJ29.out; have := HJ50.out; have := HJ67.out; have := HJ84.out; have := HJ111.out; first | omega | exact Nat.le_refl _⟩, ⟨by (with_reducible repeat (first | refine zkn ?_ _ | refine zkd ?_ | refine zka ?_ _)); exact BK101.out⟩, ⟨by (with_reducible repeat (first | refine zkn ?_ _ | refine zkd ?_ | refine zka ?_ _)); exact BK102.out⟩, ⟨by (with_reducible repeat (first | refine zkn ?_ _ | refine zkd ?_ | refine zka ?_ _)); exact BK111.out⟩, ⟨by repeat (first | (with_reducible first | exact HB.out | apply zba | apply zbn | apply zb1 | refine zbs ?_ GE101.out | refine zbs ?_ GE102.out | refine zbs ?_ GE111.out) | exact HB.out)⟩⟩
                    rw [if_neg c140] at H
                    have c140b0 : (t132 == 0) = false := beq_eq_false_iff_ne.mpr c140
                    have c140b1 : (t132 != 0) = true := bne_iff_ne.mpr c140
                    (first | rw [c140b0] | (simp only [i64_w, i32_w]; rw [c140b0]) | skip)
                    as_aux_lemma =>
                     have H' := zam H
                     clear H
                     go_wp2
                     go_meet
                     case rel => exact ⟨_, (false), (by first | rfl | (simp; done) | (simp [*]; done)), H', ⟨by have := HJ9.out; have := HJ29.out; have := HJ50.out; have := HJ67.out; have := HJ84.out; have := HJ111.out; first | omega | exact Nat.le_refl _⟩, ⟨by (with_reducible repeat (first | refine zkn ?_ _ | refine zkd ?_ | refine zka ?_ _)); refine blk_far ?_ NB101_111.out _; (with_reducible repeat (first | refine zkn ?_ _ | refine zkd ?_ | refine zka ?_ _)); refine blk_far ?_ NB101_111.out _; (with_reducible repeat (first | refine zkn ?_ _ | refine zkd ?_ | refine zka ?_ _)); exact BK101.out⟩, ⟨by (with_reducible repeat (first | refine zkn ?_ _ | refine zkd ?_ | refine zka ?_ _)); refine blk_far ?_ NB102_111.out _; (with_reducible repeat (first | refine zkn ?_ _ | refine zkd ?_ | refine zka ?_ _)); refine blk_far ?_ NB102_111.out _; (with_reducible repeat (first | refine zkn ?_ _ | refine zkd ?_ | refine zka ?_ _)); exact BK102.out⟩, ⟨by (with_reducible repeat (first | refine zkn ?_ _ | refine zkd ?_ | refine zka ?_ _)); refine blk_put (cs := #[.int .i64 t130, .int .i64 t128]) ?_ 1 _ rfl; (with_reducible repeat (first | refine zkn ?_ _ | refine zkd ?_ | refine zka ?_ _)); refine blk_put (cs := #[.int .i64 t127, .int .i64 t128]) ?_ 0 _ rfl; (with_reducible repeat (first | refine zkn ?_ _ | refine zkd ?_ | refine zka ?_ _)); exact BK111.out⟩, ⟨by repeat (first | (with_reducible first | exact HB.out | apply zba | apply zbn | apply zb1 | refine zbs ?_ GE101.out | refine zbs ?_ GE102.out | refine zbs ?_ GE111.out) | exact HB.out)⟩⟩
                   case rest =>
                    clear HC133
                    try clear c1
                    try clear c2
                    try clear p2
                    try clear c3
                    try clear c4
                    try clear c5
                    try clear c6
                    try clear p6
                    try clear c7
                    try clear c8
                    try clear c9
                    try clear c10
                    try clear c11
                    try clear c12
                    try clear c13
                    try clear c14
                    try clear c16
                    try clear c18
                    try clear c21
                    try clear c22
                    try clear c23
                    try clear c24
                    try clear c27
                    try clear c28
                    try clear c29
                    try clear c30
                    try clear c34
                    try clear c39
                    try clear c40
                    try clear c42
                    try clear c42b0
                    try clear c42b1
                    try clear c44
                    try clear c45
                    try clear c46
                    try clear c49
                    try clear c52
                    try clear c53
                    try clear c55
                    try clear c59
                    try clear c59b0
                    try clear c59b1
                    try clear c61
                    try clear c62
                    try clear c63
                    try clear p64
                    try clear c66
                    try clear c69
                    try clear c70
                    try clear c72
                    try clear c76
                    try clear c76b0
                    try clear c76b1
                    try clear c78
                    try clear c79
                    try clear c80
                    try clear c83
                    try clear c86
                    try clear c87
                    try clear c89
                    try clear c93
                    try clear c93b0
                    try clear c93b1
                    try clear c94
                    try clear c94b0
                    try clear c94b1
                    try clear c96
                    try clear c98
                    try clear c99
                    try clear c102
                    try clear c106
                    try clear c107
                    try clear c110
                    try clear c113
                    try clear c114
                    try clear c117
                    try clear c119
                    try clear c119b0
                    try clear c119b1
                    try clear c120
                    try clear c120b0
                    try clear c121
                    try clear c121b0
                    try clear c122
                    try clear c122b0
                    try clear c123
                    try clear c124
                    try clear c126
                    try clear c128
                    try clear c129
                    try clear c131
                    try clear c134
                    try clear c135
                    try clear c138
                    try clear c140
                    try clear c140b0
                    try clear c140b1
                    try clear c141
                    try clear c141b0
                    try clear c143
                    try clear c144
                    try clear hcz100_0
                    try clear hcz100_1
                    try clear hcz103_0
                    try clear hcz103_1
                    try clear hcz108_0
                    try clear hcz108_1
                    try clear hcz115_0
                    try clear hcz115_1
                    try clear hcz118_0
                    try clear hcz118_1
                    try clear hcz125_0
                    try clear hcz125_1
                    try clear hcz127_0
                    try clear hcz127_1
                    try clear hcz130_0
                    try clear hcz130_1
                    try clear hcz136_0
                    try clear hcz136_1
                    try clear hcz139_0
                    try clear hcz139_1
                    try clear hcz145_0
                    try clear hcz145_1
                    try clear hcz17_0
                    try clear hcz17_1
                    try clear hcz19_0
                    try clear hcz19_1
                    try clear hcz22_0
                    try clear hcz22_1
                    try clear hcz35_0
                    try clear hcz35_1
                    try clear hcz36_0
                    try clear hcz36_1
                    try clear hcz41_0
                    try clear hcz41_1
                    try clear hcz47_0
                    try clear hcz47_1
                    try clear hcz54_0
                    try clear hcz54_1
                    try clear hcz56_0
                    try clear hcz56_1
                    try clear hcz58_0
                    try clear hcz58_1
                    try clear hcz64_0
                    try clear hcz64_1
                    try clear hcz71_0
                    try clear hcz71_1
                    try clear hcz73_0
                    try clear hcz73_1
                    try clear hcz75_0
                    try clear hcz75_1
                    try clear hcz81_0
                    try clear hcz81_1
                    try clear hcz88_0
                    try clear hcz88_1
                    try clear hcz90_0
                    try clear hcz90_1
                    try clear hcz92_0
                    try clear hcz92_1
                    try clear hfz100_0
                    try clear hfz100_1
                    try clear hfz103_0
                    try clear hfz103_1
                    try clear hfz108_0
                    try clear hfz108_1
                    try clear hfz115_0
                    try clear hfz115_1
                    try clear hfz118_0
                    try clear hfz118_1
                    try clear hfz125_0
                    try clear hfz125_1
                    try clear hfz127_0
                    try clear hfz127_1
                    try clear hfz130_0
                    try clear hfz130_1
                    try clear hfz136_0
                    try clear hfz136_1
                    try clear hfz139_0
                    try clear hfz139_1
                    try clear hfz145_0
                    try clear hfz145_1
                    try clear hfz17_0
                    try clear hfz17_1
                    try clear hfz19_0
                    try clear hfz19_1
                    try clear hfz22_0
                    try clear hfz22_1
                    try clear hfz35_0
                    try clear hfz35_1
                    try clear hfz36_0
                    try clear hfz36_1
                    try clear hfz41_0
                    try clear hfz41_1
                    try clear hfz47_0
                    try clear hfz47_1
                    try clear hfz54_0
                    try clear hfz54_1
                    try clear hfz56_0
                    try clear hfz56_1
                    try clear hfz58_0
                    try clear hfz58_1
                    try clear hfz64_0
                    try clear hfz64_1
                    try clear hfz71_0
                    try clear hfz71_1
                    try clear hfz73_0
                    try clear hfz73_1
                    try clear hfz75_0
                    try clear hfz75_1
                    try clear hfz81_0
                    try clear hfz81_1
                    try clear hfz88_0
                    try clear hfz88_1
                    try clear hfz90_0
                    try clear hfz90_1
                    try clear hfz92_0
                    try clear hfz92_1
                    try clear p2
                    try clear p6
                    try clear p64
                    obtain ⟨kq, x195_132, rfl, HA, HJ132, BK101, BK102, BK111, HB⟩ := hcut
                    as_aux_lemma =>
                     cases kq with
                     | zero => exact absurd HA.out (by simp [isobathlaw01_BoundHolds.j6])
                     | succ kj132 =>
                      have H := HA.out
                      clear HA
                      simp only [isobathlaw01_BoundHolds.j6] at H
                      by_cases c147 : x195_132 = true
                      ·subst c147
                       have H1 : (none) = some r := by rw [if_pos rfl] at H; exact H
                       clear H
                       have H := H1
                       clear H1
                       exact absurd H (by simp)
                      replace c147 := Bool.eq_false_iff.mpr c147
                      subst c147
                      have H1 : ((bound_Line.f kj132 a6 a0_0 a0_1 a7 a1_0 a1_1 a8).bind fun bt134 => (if bt134.2.2 = 0 then (if a7 ≤ a6 then (none) else ((isobathlaw01_between.f bt134.1 bt134.2.1 (wrap64 ((wrap64 (t106 * (wrap64 (a7 - a8)))) + (wrap64 (t107 * (wrap64 (a8 - a6)))))) (wrap64 (a7 - a6))).bind fun t137 => (if t137 = true then ((isobathlaw01_Works.f kj132).bind fun t138 => (some t138)) else (none)))) else ((isobathlaw01_Works.f kj132).bind fun t139 => (some t139)))) = some r := by rw [if_neg (show ¬ (false = true) by decide)] at H; exact H
                      clear H
                      have H := H1
                      clear H1
                      replace H := Option.bind_eq_some_iff.mp H
                      obtain ⟨⟨t134, t135, t136⟩, A1480, H⟩ := H
                      replace H : (if t136 = 0 then (if a7 ≤ a6 then (none) else ((isobathlaw01_between.f t134 t135 (wrap64 ((wrap64 (t106 * (wrap64 (a7 - a8)))) + (wrap64 (t107 * (wrap64 (a8 - a6)))))) (wrap64 (a7 - a6))).bind fun t137 => (if t137 = true then ((isobathlaw01_Works.f kj132).bind fun t138 => (some t138)) else (none)))) else ((isobathlaw01_Works.f kj132).bind fun t139 => (some t139))) = some r := H
                      have A148 := zam A1480
                      clear A1480
                      by_cases c149 : t136 = 0
                      ·rw [if_pos c149] at H
                       have c149b0 : (t136 == 0) = true := beq_iff_eq.mpr c149
                       have c149b1 : (t136 != 0) = false := bne_eq_false_iff_eq.mpr c149
                       clear c149
                       by_cases c150 : a7 ≤ a6
                       ·rw [if_pos c150] at H
                        exact absurd H (by simp)
                       rw [if_neg c150] at H
                       have c150b0 : decide (a7 ≤ a6) = false := zdf c150
                       clear c150
                       replace H := Option.bind_eq_some_iff.mp H
                       obtain ⟨t137, A1510, H⟩ := H
                       replace H : (if t137 = true then ((isobathlaw01_Works.f kj132).bind fun t138 => (some t138)) else (none)) = some r := H
                       have A151 := zam A1510
                       clear A1510
                       by_cases c152 : t137 = true
                       ·subst c152
                        have H1 : ((isobathlaw01_Works.f kj132).bind fun t138 => (some t138)) = some r := by rw [if_pos rfl] at H; exact H
                        clear H
                        have H := H1
                        clear H1
                        replace H := Option.bind_eq_some_iff.mp H
                        obtain ⟨t138, A1530, H⟩ := H
                        replace H : (some t138) = some r := H
                        have A153 := zam A1530
                        clear A1530
                        as_aux_lemma =>
                         obtain rfl := zsi H
                         have hnb154 := NB101_102.out
                         have hnc154 := NB102_101.out
                         have hnb155 := NB101_111.out
                         have hnc155 := NB111_101.out
                         have hcz156_0 : wc.cell? ⟨gb101, 0, none⟩ = some (.int .i64 a0_0) := (zkc BK101.out 0).trans rfl
                         have hcz156_1 : wc.cell? ⟨gb101, 1, none⟩ = some (.int .i64 a0_1) := (zkc BK101.out 1).trans rfl
                         have hfz156_0 := zkz BK101.out 0
                         have hfz156_1 := zkz BK101.out 1
                         have hnb157 := NB102_111.out
                         have hnc157 := NB111_102.out
                         have hcz158_0 : wc.cell? ⟨gb102, 0, none⟩ = some (.int .i64 a1_0) := (zkc BK102.out 0).trans rfl
                         have hcz158_1 : wc.cell? ⟨gb102, 1, none⟩ = some (.int .i64 a1_1) := (zkc BK102.out 1).trans rfl
                         have hfz158_0 := zkz BK102.out 0
                         have hfz158_1 := zkz BK102.out 1
                         go_wp2_with (first | ((with_reducible refine zgc (f := 68) rfl ?_); refine goesL_ (some 202) rfl rfl Try.func68 (by kernel_rfl) rfl #[.int .i64 a6, .agg #[.int .i64 a0_0, .int .i64 a0_1], .int .i64 a7, .agg #[.int .i64 a1_0, .int .i64 a1_1], .int .i64 a8] rfl (by (try simp only [zmt, List.map_cons, List.map_nil]); first | done | rfl | (simp only [zld, zlt]; rfl)) ?_; (with_reducible refine (bound_Line.calls kj132 a6 a0_0 a0_1 a7 a1_0 a1_1 a8 t134 t135 t136 _ A148.out).mono ?_); rintro e w159 ⟨rfl, hb⟩; refine ⟨_, rfl, ?_⟩; have n0_ := zam (zkb (g := gb101) (o := .cells #[.int .i64 a0_0, .int .i64 a0_1] 32 (0, 0)) (by (with_reducible repeat (first | refine zkn ?_ _ | refine zkd ?_ | refine zka ?_ _)); exact BK101.out) hb); have n1_ := zam (zkb (g := gb102) (o := .cells #[.int .i64 a1_0, .int .i64 a1_1] 32 (0, 0)) (by (with_reducible repeat (first | refine zkn ?_ _ | refine zkd ?_ | refine zka ?_ _)); exact BK102.out) hb); have n2_ := zam (zkb (g := gb111) (o := .cells #[.int .i64 t130, .int .i64 t131] 32 (0, 0)) (by (with_reducible repeat (first | refine zkn ?_ _ | refine zkd ?_ | refine zka ?_ _)); exact BK111.out) hb); have n3_ := zam (zbt (by repeat (first | (with_reducible first | exact HB.out | apply zba | apply zbn | apply zb1 | refine zbs ?_ GE101.out | refine zbs ?_ GE102.out | refine zbs ?_ GE111.out) | exact HB.out)) hb); clear BK101; clear BK102; clear BK111; clear HB; have BK101 := n0_; have BK102 := n1_; have BK111 := n2_; have HB := n3_; clear n0_ n1_ n2_ n3_; (try clear hb); (try clear hb2); (try clear hk); (try clear hi); have hcz160_0 : w159.cell? ⟨gb111, 0, none⟩ = some (.int .i64 t130) := (zkc BK111.out 0).trans rfl; have hcz160_1 : w159.cell? ⟨gb111, 1, none⟩ = some (.int .i64 t131) := (zkc BK111.out 1).trans rfl; have hfz160_0 := zkz BK111.out 0; have hfz160_1 := zkz BK111.out 1) | (go_at_call 62; (with_reducible refine (isobathlaw01_between.calls t134 t135 (wrap64 ((wrap64 (t106 * (wrap64 (a7 - a8)))) + (wrap64 (t107 * (wrap64 (a8 - a6)))))) (wrap64 (a7 - a6)) true _ A151.out).mono ?_); rintro e w161 ⟨rfl, hb⟩; have n0_ := zam (zkb (g := gb101) (o := .cells #[.int .i64 a0_0, .int .i64 a0_1] 32 (0, 0)) (by (with_reducible repeat (first | refine zkn ?_ _ | refine zkd ?_ | refine zka ?_ _)); refine blk_far ?_ NB101_111.out _; (with_reducible repeat (first | refine zkn ?_ _ | refine zkd ?_ | refine zka ?_ _)); refine blk_far ?_ NB101_111.out _; (with_reducible repeat (first | refine zkn ?_ _ | refine zkd ?_ | refine zka ?_ _)); exact BK101.out) hb); have n1_ := zam (zkb (g := gb102) (o := .cells #[.int .i64 a1_0, .int .i64 a1_1] 32 (0, 0)) (by (with_reducible repeat (first | refine zkn ?_ _ | refine zkd ?_ | refine zka ?_ _)); refine blk_far ?_ NB102_111.out _; (with_reducible repeat (first | refine zkn ?_ _ | refine zkd ?_ | refine zka ?_ _)); refine blk_far ?_ NB102_111.out _; (with_reducible repeat (first | refine zkn ?_ _ | refine zkd ?_ | refine zka ?_ _)); exact BK102.out) hb); have n2_ := zam (zkb (g := gb111) (o := .cells #[.int .i64 t134, .int .i64 t135] 32 (0, 0)) (by (with_reducible repeat (first | refine zkn ?_ _ | refine zkd ?_ | refine zka ?_ _)); refine blk_put (cs := #[.int .i64 t134, .int .i64 t131]) ?_ 1 _ rfl; (with_reducible repeat (first | refine zkn ?_ _ | refine zkd ?_ | refine zka ?_ _)); refine blk_put (cs := #[.int .i64 t130, .int .i64 t131]) ?_ 0 _ rfl; (with_reducible repeat (first | refine zkn ?_ _ | refine zkd ?_ | refine zka ?_ _)); exact BK111.out) hb); have n3_ := zam (zbt (by repeat (first | (with_reducible first | exact HB.out | apply zba | apply zbn | apply zb1 | refine zbs ?_ GE101.out | refine zbs ?_ GE102.out | refine zbs ?_ GE111.out) | exact HB.out)) hb); clear BK101; clear BK102; clear BK111; clear HB; have BK101 := n0_; have BK102 := n1_; have BK111 := n2_; have HB := n3_; clear n0_ n1_ n2_ n3_; (try clear hb); (try clear hb2); (try clear hk); (try clear hi)) | ((with_reducible refine zgc (f := 18) rfl ?_); refine goesL_ (some 231) rfl rfl Try.func18 (by kernel_rfl) rfl #[] rfl (by (try simp only [zmt, List.map_cons, List.map_nil]); first | done | rfl | (simp only [zld, zlt]; rfl)) ?_; (with_reducible refine (isobathlaw01_Works.calls kj132  t138 _ A153.out).mono ?_); rintro e w162 ⟨rfl, hb⟩; refine ⟨_, rfl, ?_⟩; have n0_ := zam (zkb (g := gb101) (o := .cells #[.int .i64 a0_0, .int .i64 a0_1] 32 (0, 0)) (by (with_reducible repeat (first | refine zkn ?_ _ | refine zkd ?_ | refine zka ?_ _)); exact BK101.out) hb); have n1_ := zam (zkb (g := gb102) (o := .cells #[.int .i64 a1_0, .int .i64 a1_1] 32 (0, 0)) (by (with_reducible repeat (first | refine zkn ?_ _ | refine zkd ?_ | refine zka ?_ _)); exact BK102.out) hb); have n2_ := zam (zkb (g := gb111) (o := .cells #[.int .i64 t134, .int .i64 t135] 32 (0, 0)) (by (with_reducible repeat (first | refine zkn ?_ _ | refine zkd ?_ | refine zka ?_ _)); exact BK111.out) hb); have n3_ := zam (zbt (by repeat (first | (with_reducible first | exact HB.out | apply zba | apply zbn | apply zb1 | refine zbs ?_ GE101.out | refine zbs ?_ GE102.out | refine zbs ?_ GE111.out) | exact HB.out)) hb); clear BK101; clear BK102; clear BK111; clear HB; have BK101 := n0_; have BK102 := n1_; have BK111 := n2_; have HB := n3_; clear n0_ n1_ n2_ n3_; (try clear hb); (try clear hb2); (try clear hk); (try clear hi)))
                         go_ret
                         exact ⟨by first | rfl | (simp [errW_none, errW_some] <;> rfl) | (simp [*, errW_none, errW_some] <;> rfl), by repeat (first | (with_reducible first | exact HB.out | apply zba | apply zbn | apply zb1 | refine zbs ?_ GE101.out | refine zbs ?_ GE102.out | refine zbs ?_ GE111.out) | exact HB.out)⟩
                       replace c152 := Bool.eq_false_iff.mpr c152
                       subst c152
                       have H1 : (none) = some r := by rw [if_neg (show ¬ (false = true) by decide)] at H; exact H
                       clear H
                       have H := H1
                       clear H1
                       exact absurd H (by simp)
                      rw [if_neg c149] at H
                      have c149b0 : (t136 == 0) = false := beq_eq_false_iff_ne.mpr c149
                      have c149b1 : (t136 != 0) = true := bne_iff_ne.mpr c149
                      replace H := Option.bind_eq_some_iff.mp H
                      obtain ⟨t139, A1630, H⟩ := H
                      replace H : (some t139) = some r := H
                      have A163 := zam A1630
                      clear A1630
                      as_aux_lemma =>
                       obtain rfl := zsi H
                       have hnb164 := NB101_102.out
                       have hnc164 := NB102_101.out
                       have hnb165 := NB101_111.out
                       have hnc165 := NB111_101.out
                       have hcz166_0 : wc.cell? ⟨gb101, 0, none⟩ = some (.int .i64 a0_0) := (zkc BK101.out 0).trans rfl
                       have hcz166_1 : wc.cell? ⟨gb101, 1, none⟩ = some (.int .i64 a0_1) := (zkc BK101.out 1).trans rfl
                       have hfz166_0 := zkz BK101.out 0
                       have hfz166_1 := zkz BK101.out 1
                       have hnb167 := NB102_111.out
                       have hnc167 := NB111_102.out
                       have hcz168_0 : wc.cell? ⟨gb102, 0, none⟩ = some (.int .i64 a1_0) := (zkc BK102.out 0).trans rfl
                       have hcz168_1 : wc.cell? ⟨gb102, 1, none⟩ = some (.int .i64 a1_1) := (zkc BK102.out 1).trans rfl
                       have hfz168_0 := zkz BK102.out 0
                       have hfz168_1 := zkz BK102.out 1
                       go_wp2_with (first | ((with_reducible refine zgc (f := 68) rfl ?_); refine goesL_ (some 202) rfl rfl Try.func68 (by kernel_rfl) rfl #[.int .i64 a6, .agg #[.int .i64 a0_0, .int .i64 a0_1], .int .i64 a7, .agg #[.int .i64 a1_0, .int .i64 a1_1], .int .i64 a8] rfl (by (try simp only [zmt, List.map_cons, List.map_nil]); first | done | rfl | (simp only [zld, zlt]; rfl)) ?_; (with_reducible refine (bound_Line.calls kj132 a6 a0_0 a0_1 a7 a1_0 a1_1 a8 t134 t135 t136 _ A148.out).mono ?_); rintro e w169 ⟨rfl, hb⟩; refine ⟨_, rfl, ?_⟩; have n0_ := zam (zkb (g := gb101) (o := .cells #[.int .i64 a0_0, .int .i64 a0_1] 32 (0, 0)) (by (with_reducible repeat (first | refine zkn ?_ _ | refine zkd ?_ | refine zka ?_ _)); exact BK101.out) hb); have n1_ := zam (zkb (g := gb102) (o := .cells #[.int .i64 a1_0, .int .i64 a1_1] 32 (0, 0)) (by (with_reducible repeat (first | refine zkn ?_ _ | refine zkd ?_ | refine zka ?_ _)); exact BK102.out) hb); have n2_ := zam (zkb (g := gb111) (o := .cells #[.int .i64 t130, .int .i64 t131] 32 (0, 0)) (by (with_reducible repeat (first | refine zkn ?_ _ | refine zkd ?_ | refine zka ?_ _)); exact BK111.out) hb); have n3_ := zam (zbt (by repeat (first | (with_reducible first | exact HB.out | apply zba | apply zbn | apply zb1 | refine zbs ?_ GE101.out | refine zbs ?_ GE102.out | refine zbs ?_ GE111.out) | exact HB.out)) hb); clear BK101; clear BK102; clear BK111; clear HB; have BK101 := n0_; have BK102 := n1_; have BK111 := n2_; have HB := n3_; clear n0_ n1_ n2_ n3_; (try clear hb); (try clear hb2); (try clear hk); (try clear hi); have hcz170_0 : w169.cell? ⟨gb111, 0, none⟩ = some (.int .i64 t130) := (zkc BK111.out 0).trans rfl; have hcz170_1 : w169.cell? ⟨gb111, 1, none⟩ = some (.int .i64 t131) := (zkc BK111.out 1).trans rfl; have hfz170_0 := zkz BK111.out 0; have hfz170_1 := zkz BK111.out 1) | ((with_reducible refine zgc (f := 18) rfl ?_); refine goesL_ (some 231) rfl rfl Try.func18 (by kernel_rfl) rfl #[] rfl (by (try simp only [zmt, List.map_cons, List.map_nil]); first | done | rfl | (simp only [zld, zlt]; rfl)) ?_; (with_reducible refine (isobathlaw01_Works.calls kj132  t139 _ A163.out).mono ?_); rintro e w171 ⟨rfl, hb⟩; refine ⟨_, rfl, ?_⟩; have n0_ := zam (zkb (g := gb101) (o := .cells #[.int .i64 a0_0, .int .i64 a0_1] 32 (0, 0)) (by (with_reducible repeat (first | refine zkn ?_ _ | refine zkd ?_ | refine zka ?_ _)); refine blk_far ?_ NB101_111.out _; (with_reducible repeat (first | refine zkn ?_ _ | refine zkd ?_ | refine zka ?_ _)); refine blk_far ?_ NB101_111.out _; (with_reducible repeat (first | refine zkn ?_ _ | refine zkd ?_ | refine zka ?_ _)); exact BK101.out) hb); have n1_ := zam (zkb (g := gb102) (o := .cells #[.int .i64 a1_0, .int .i64 a1_1] 32 (0, 0)) (by (with_reducible repeat (first | refine zkn ?_ _ | refine zkd ?_ | refine zka ?_ _)); refine blk_far ?_ NB102_111.out _; (with_reducible repeat (first | refine zkn ?_ _ | refine zkd ?_ | refine zka ?_ _)); refine blk_far ?_ NB102_111.out _; (with_reducible repeat (first | refine zkn ?_ _ | refine zkd ?_ | refine zka ?_ _)); exact BK102.out) hb); have n2_ := zam (zkb (g := gb111) (o := .cells #[.int .i64 t134, .int .i64 t135] 32 (0, 0)) (by (with_reducible repeat (first | refine zkn ?_ _ | refine zkd ?_ | refine zka ?_ _)); refine blk_put (cs := #[.int .i64 t134, .int .i64 t131]) ?_ 1 _ rfl; (with_reducible repeat (first | refine zkn ?_ _ | refine zkd ?_ | refine zka ?_ _)); refine blk_put (cs := #[.int .i64 t130, .int .i64 t131]) ?_ 0 _ rfl; (with_reducible repeat (first | refine zkn ?_ _ | refine zkd ?_ | refine zka ?_ _)); exact BK111.out) hb); have n3_ := zam (zbt (by repeat (first | (with_reducible first | exact HB.out | apply zba | apply zbn | apply zb1 | refine zbs ?_ GE101.out | refine zbs ?_ GE102.out | refine zbs ?_ GE111.out) | exact HB.out)) hb); clear BK101; clear BK102; clear BK111; clear HB; have BK101 := n0_; have BK102 := n1_; have BK111 := n2_; have HB := n3_; clear n0_ n1_ n2_ n3_; (try clear hb); (try clear hb2); (try clear hk); (try clear hi)))
                       go_ret
                       exact ⟨by first | rfl | (simp [errW_none, errW_some] <;> rfl) | (simp [*, errW_none, errW_some] <;> rfl), by repeat (first | (with_reducible first | exact HB.out | apply zba | apply zbn | apply zb1 | refine zbs ?_ GE101.out | refine zbs ?_ GE102.out | refine zbs ?_ GE111.out) | exact HB.out)⟩
end Go.Proofs.Ytlkafgibgipodaa.P
namespace Go.Proofs.Ytlkafgibgipodaa.P
open Go.RowKit Go.Proofs.YtlkafgibgipodaaW.PrintWords Go.Proofs.YtlkafgibgipodaaW.PrintLast Go.Proofs.YtlkafgibgipodaaW.PrintMore
namespace boundHolds
open Go.ChangeShapes Go.WideShapes Go.ChangeAt
set_option linter.unusedVariables false
set_option linter.unusedSimpArgs false
def B32 (x : S32) : Prop := (fun n : Int => (Lit.int .i64 n).wf = true) x.f0 ∧ (fun n : Int => (Lit.int .i64 n).wf = true) x.f1
theorem opens32 : Opens Try.prog 32 k32 B32 := Opens.struct (fs := _) Try.underlying32 (fun x : S32 => (x.f0, x.f1)) (fun t => ⟨t.1, t.2⟩) (fun _ => rfl) (OpensF.cons rfl (by kernel_rfl) (Opens.int Try.underlying2) (OpensF.last rfl (by kernel_rfl) (Opens.int Try.underlying2)))
def Pure : Prop := ∀ (x0 : S32) (x1 : S32) (x2 : Int) (x3 : Int) (x4 : Int) (x5 : Int) (x6 : Int) (x7 : Int) (x8 : Int), B32 x0 → B32 x1 → (fun n : Int => (Lit.int .u16 n).wf = true) x2 → (fun n : Int => (Lit.int .u16 n).wf = true) x3 → (fun n : Int => (Lit.int .i64 n).wf = true) x4 → (fun n : Int => (Lit.int .i64 n).wf = true) x5 → (fun n : Int => (Lit.int .i64 n).wf = true) x6 → (fun n : Int => (Lit.int .i64 n).wf = true) x7 → (fun n : Int => (Lit.int .i64 n).wf = true) x8 → ∃ k, isobathlaw01_BoundHolds.f k x0.f0 x0.f1 x1.f0 x1.f1 x2 x3 x4 x5 x6 x7 x8 = some true
theorem own : ownKnob Try.prog.godebug = none := by kernel_rfl
theorem laidOut : laidOutB Try.prog = true := by kernel_rfl
set_option maxRecDepth 100000 in
theorem lifted (hP : Pure) (os : Os) (started : os.Started) (H : Type) (enc : TypeId × Value → H) :
  ReturnsInHanded {} Try.checked os 14 .any (Rows.boundHoldsSpec.pre6 enc Try.prog Try.f14 Rows.boundHoldsRow.domain false) (Rows.boundHoldsSpec.post enc Try.prog Try.f14 false true false false) := by
 refine returnsInHanded_of_change_sized (C := Try.checked) own started (by kernel_rfl) Try.func14
  (ChangeSpec.witness6 (enc := enc) (C := Try.checked) false ⟨#[], #[.agg #[.int .i64 0, .int .i64 0], .agg #[.int .i64 0, .int .i64 0], .int .u16 0, .int .u16 0, .int .i64 0, .int .i64 0, .int .i64 0, .int .i64 0, .int .i64 0], []⟩ 8 (by kernel_rfl) (by kernel_rfl) (by kernel_rfl) (by kernel_rfl)) ?_
 intro W base args ds gs before hval0 hW hcnd hsz0 _
 have hval : ∀ (j : Nat) t v, Try.f14.params[j]? = some t → args[j]? = some v → Value.okWide Try.prog W .any base t v := hval0
 have hW' := hW
 obtain ⟨p, q, hA0, hV, rfl, hfz, hnd⟩ := hW
 have hA : DataW.TrodAll enc Try.prog W 0 (fun _ => true) true Try.f14.params.toList args.toList ds p := hA0
 rw [Try.params14] at hA hval
 obtain ⟨v0, vs0, d0, ds0, p0, q0, hargs, rfl, rfl, h0, r0⟩ := trodAll_cons hA
 obtain ⟨v1, vs1, d1, ds1, p1, q1, rfl, rfl, rfl, h1, r1⟩ := trodAll_cons r0
 obtain ⟨v2, vs2, d2, ds2, p2, q2, rfl, rfl, rfl, h2, r2⟩ := trodAll_cons r1
 obtain ⟨v3, vs3, d3, ds3, p3, q3, rfl, rfl, rfl, h3, r3⟩ := trodAll_cons r2
 obtain ⟨v4, vs4, d4, ds4, p4, q4, rfl, rfl, rfl, h4, r4⟩ := trodAll_cons r3
 obtain ⟨v5, vs5, d5, ds5, p5, q5, rfl, rfl, rfl, h5, r5⟩ := trodAll_cons r4
 obtain ⟨v6, vs6, d6, ds6, p6, q6, rfl, rfl, rfl, h6, r6⟩ := trodAll_cons r5
 obtain ⟨v7, vs7, d7, ds7, p7, q7, rfl, rfl, rfl, h7, r7⟩ := trodAll_cons r6
 obtain ⟨v8, vs8, d8, ds8, p8, q8, rfl, rfl, rfl, h8, r8⟩ := trodAll_cons r7
 obtain ⟨rfl, rfl, rfl⟩ := trodAll_nil r8
 obtain rfl : args = #[v0, v1, v2, v3, v4, v5, v6, v7, v8] := by cases args; simp_all
 obtain ⟨rfl, rfl⟩ := trodVars_none hV
 have k0 := h0
 have lt0 : ∀ x ∈ p0, x.block < W.heap.size := by obtain ⟨m, hm⟩ := k0; exact DataW.trod_lt m _ _ _ hm
 obtain ⟨m0, hm0⟩ := h0
 obtain ⟨x0, hk0, w0⟩ := Opens.run opens32 hm0
 have hcs0 := k32_open hk0
 obtain rfl := cells_agg hcs0 (by simp)
 have k1 := h1
 have lt1 : ∀ x ∈ p1, x.block < W.heap.size := by obtain ⟨m, hm⟩ := k1; exact DataW.trod_lt m _ _ _ hm
 obtain ⟨m1, hm1⟩ := h1
 obtain ⟨x1, hk1, w1⟩ := Opens.run opens32 hm1
 have hcs1 := k32_open hk1
 obtain rfl := cells_agg hcs1 (by simp)
 obtain ⟨x2, rfl, rfl, rfl, w2⟩ := open_int Try.underlying33 (hval 2 33 v2 rfl rfl) h2
 obtain ⟨x3, rfl, rfl, rfl, w3⟩ := open_int Try.underlying33 (hval 3 33 v3 rfl rfl) h3
 obtain ⟨x4, rfl, rfl, rfl, w4⟩ := open_int Try.underlying2 (hval 4 2 v4 rfl rfl) h4
 obtain ⟨x5, rfl, rfl, rfl, w5⟩ := open_int Try.underlying2 (hval 5 2 v5 rfl rfl) h5
 obtain ⟨x6, rfl, rfl, rfl, w6⟩ := open_int Try.underlying2 (hval 6 2 v6 rfl rfl) h6
 obtain ⟨x7, rfl, rfl, rfl, w7⟩ := open_int Try.underlying2 (hval 7 2 v7 rfl rfl) h7
 obtain ⟨x8, rfl, rfl, rfl, w8⟩ := open_int Try.underlying2 (hval 8 2 v8 rfl rfl) h8
 clear hA0 hval0 hsz0
 obtain ⟨k, hf⟩ := hP x0 x1 x2 x3 x4 x5 x6 x7 x8 w0 w1 w2 w3 w4 w5 w6 w7 w8
 refine (isobathlaw01_BoundHolds.calls (k := k) (a0_0 := x0.f0) (a0_1 := x0.f1) (a1_0 := x1.f0) (a1_1 := x1.f1) (a2 := x2) (a3 := x3) (a4 := x4) (a5 := x5) (a6 := x6) (a7 := x7) (a8 := x8) (r := true) (w := W) (h := hf)).mono fun e W' ⟨he, hd⟩ => ?_
 have bel : Below W.heap.size W W' := by first | exact hd | (obtain ⟨m, rfl⟩ := hd; exact zbn (Below.refl _ _) m)
 subst he
 exact ⟨_, rfl, _, _, _, [], _, [], hW', trodAll_mk1 (shut_bool Try.underlying4 _), (trodAll_cons_mk (Below.trod laidOut (by kernel_rfl) (zod (by kernel_rfl)) k0 bel lt0) (trodAll_cons_mk (Below.trod laidOut (by kernel_rfl) (zod (by kernel_rfl)) k1 bel lt1) (trodAll_cons_mk (shut_int Try.underlying33 w2) (trodAll_cons_mk (shut_int Try.underlying33 w3) (trodAll_cons_mk (shut_int Try.underlying2 w4) (trodAll_cons_mk (shut_int Try.underlying2 w5) (trodAll_cons_mk (shut_int Try.underlying2 w6) (trodAll_cons_mk (shut_int Try.underlying2 w7) (trodAll_cons_mk (shut_int Try.underlying2 w8) trodAll_mk0))))))))), rfl, bel.frame _, fun h => by cases h⟩
theorem over (hP : Pure) : Rows.boundHoldsRow.holds Try.pinned (OpenSpec.ofChange Rows.boundHoldsSpec) :=
 OpenClaim.holds_of_wide 14 Try.f14 rfl rfl rfl rfl rfl rfl rfl ⟨rfl, rfl, rfl, rfl, rfl⟩ rfl rfl rfl rfl rfl (by kernel_rfl) Try.func14 (by kernel_rfl)
  (zod (by kernel_rfl)) (by unfold Func.isWrapper; first | (rw [if_pos (by decide +kernel)]; kernel_rfl) | (rw [if_neg (by decide +kernel)]; exact ⟨rfl, rfl⟩))
  (fun os started H enc _ => lifted hP os started H enc)
theorem proved (hP : Pure) : Rows.BoundHoldsSaid := over hP
end boundHolds
end Go.Proofs.Ytlkafgibgipodaa.P
namespace Go.Proofs.Ytlkafgibgipodaa.P
open Go.RowKit Go.Proofs.YtlkafgibgipodaaW.PrintWords Go.Proofs.YtlkafgibgipodaaW.PrintLast Go.Proofs.YtlkafgibgipodaaW.PrintMore
attribute [local go_sem] max2_int min2_int max_two min_two max_three min_three max_four min_four   -- for this text's walks alone
set_option linter.unusedVariables false
set_option linter.unusedSimpArgs false
theorem Bo.lin {w0 w1 x b : Int} (h0 : w0 ≤ x) (h1 : x ≤ w1) : min (w0 * b) (w1 * b) ≤ x * b ∧ x * b ≤ max (w0 * b) (w1 * b) := by
 by_cases q : 0 ≤ b
 ·have := Int.mul_le_mul_of_nonneg_right h0 q
  have := Int.mul_le_mul_of_nonneg_right h1 q
  omega
 have := Int.mul_le_mul_of_nonpos_right h0 (show b ≤ 0 by omega)
 have := Int.mul_le_mul_of_nonpos_right h1 (show b ≤ 0 by omega)
 omega
theorem Bo.lin' {w0 w1 x b : Int} (h0 : w0 ≤ x) (h1 : x ≤ w1) : min (b * w0) (b * w1) ≤ b * x ∧ b * x ≤ max (b * w0) (b * w1) := by
 rw [Int.mul_comm b w0, Int.mul_comm b w1, Int.mul_comm b x]
 exact Bo.lin h0 h1
theorem Bo.corner {a0 a1 b0 b1 x y : Int} (x0 : a0 ≤ x) (x1 : x ≤ a1) (y0 : b0 ≤ y) (y1 : y ≤ b1) :
  min (min (min (a0 * b0) (a0 * b1)) (a1 * b0)) (a1 * b1) ≤ x * y ∧ x * y ≤ max (max (max (a0 * b0) (a0 * b1)) (a1 * b0)) (a1 * b1) := by
 have h := Bo.lin (b := y) x0 x1
 have p := Bo.lin' (b := a0) y0 y1
 have q := Bo.lin' (b := a1) y0 y1
 omega
theorem Bo.rootW {n : Int} (h0 : 0 ≤ n) (h1 : n ≤ 576460752303423488) : wrap64 (Rt.root n * Rt.root n) = Rt.root n * Rt.root n := by
 have r1 := Bo.root_is h0
 exact wrap_id (by have := Int.mul_nonneg r1.1 r1.1; omega) (by omega)
theorem Bo.rootUpW {n : Int} (h0 : 0 ≤ n) (h1 : n ≤ 576460752303423488) : wrap64 (Rt.rootUp n * Rt.rootUp n) = Rt.rootUp n * Rt.rootUp n := by
 have r3 := Bo.rootUp_le (n := n) (M := 1073741824) (by omega) (by omega) h0
 have r4 := Int.mul_le_mul r3.2 r3.2 r3.1 (by omega)
 exact wrap_id (by have := Int.mul_nonneg r3.1 r3.1; omega) (by omega)
theorem Bo.partH {a0 a1 p : Int} (h : Bo.v a0 a1) (h0 : 0 ≤ p) (h1 : p ≤ 65535) : ∃ x, isobathlaw01_Part.f a0 a1 p = some x ∧ a0 ≤ x ∧ x ≤ a1 := by
 obtain ⟨g1, g2, g3⟩ := h
 unfold isobathlaw01_Part.f
 have m0 : 0 ≤ (a1 - a0) * p := Int.mul_nonneg (by omega) h0
 have m1 : (a1 - a0) * p ≤ (a1 - a0) * 65535 := Int.mul_le_mul_of_nonneg_left h1 (by omega)
 have w0 : wrap64 (a1 - a0) = a1 - a0 := wrap_id (by omega) (by omega)
 have w1 : wrap64 p = p := wrap_id (by omega) (by omega)
 have w2 : wrap64 ((a1 - a0) * p) = (a1 - a0) * p := wrap_id (by omega) (by omega)
 rw [w0, w1, w2, tdiv_pos m0]
 have d0 : 0 ≤ (a1 - a0) * p / 65535 := by omega
 have d1 : (a1 - a0) * p / 65535 ≤ a1 - a0 := by omega
 rw [wrap_id (n := (a1 - a0) * p / 65535) (by omega) (by omega), wrap_id (by omega) (by omega)]
 exact ⟨_, rfl, by omega, by omega⟩
theorem Bo.holdsH (a0 a1 x : Int) : isobathlaw01_holds.f a0 a1 x = some (decide (a0 ≤ x ∧ x ≤ a1)) := by
 unfold isobathlaw01_holds.f
 by_cases h : a0 ≤ x
 ·rw [if_pos h]
  simp [h]
 rw [if_neg h]
 simp [h]
theorem Bo.between_pos {a0 a1 n d : Int} (hv : Bo.v a0 a1) (hd : 0 < d) (hd1 : d ≤ 1073741824) (h0 : a0 * d ≤ n) (h1 : n ≤ a1 * d) : isobathlaw01_between.f a0 a1 n d = some true := by
 obtain ⟨v1, v2, v3⟩ := hv
 have m0 := Bo.mul_le (a := a0) (b := d) (by omega) (by omega) (by omega) (by omega)
 have m1 := Bo.mul_le (a := a1) (b := d) (by omega) (by omega) (by omega) (by omega)
 unfold isobathlaw01_between.f
 rw [if_neg (by omega), wrap_id (n := a0 * d) (by omega) (by omega), wrap_id (n := a1 * d) (by omega) (by omega), if_pos h0, zdt h1]
theorem Bo.between_neg {a0 a1 n d : Int} (hv : Bo.v a0 a1) (hd : d < 0) (hd1 : -1073741824 ≤ d) (h0 : a0 * -d ≤ -n) (h1 : -n ≤ a1 * -d) : isobathlaw01_between.f a0 a1 n d = some true := by
 obtain ⟨v1, v2, v3⟩ := hv
 have m0 := Bo.mul_le (a := a0) (b := -d) (by omega) (by omega) (by omega) (by omega)
 have m1 := Bo.mul_le (a := a1) (b := -d) (by omega) (by omega) (by omega) (by omega)
 unfold isobathlaw01_between.f
 have e : wrap64 (-d) = -d := wrap_id (by omega) (by omega)
 have e2 : wrap64 (-n) = -n := wrap_id (by omega) (by omega)
 rw [if_pos hd, e, e2, wrap_id (n := a0 * -d) (by omega) (by omega), wrap_id (n := a1 * -d) (by omega) (by omega), if_pos h0, zdt h1]
theorem Bo.quot_lo {L a b0 b1 y : Int} (hb : 0 < b0) (y0 : b0 ≤ y) (y1 : y ≤ b1) (h0 : L ≤ Bo.fl a b0) (h1 : L ≤ Bo.fl a b1) : L * y ≤ a := by
 have e0 := Int.mul_le_mul_of_nonneg_right h0 (show 0 ≤ b0 by omega)
 have e1 := Int.mul_le_mul_of_nonneg_right h1 (show 0 ≤ b1 by omega)
 have f0 := Bo.fl_le hb a
 have f1 := Bo.fl_le (show 0 < b1 by omega) a
 have := (Bo.lin' (b := L) y0 y1).2
 omega
theorem Bo.quot_hi {H a b0 b1 y : Int} (hb : 0 < b0) (y0 : b0 ≤ y) (y1 : y ≤ b1) (h0 : Bo.cl a b0 ≤ H) (h1 : Bo.cl a b1 ≤ H) : a ≤ H * y := by
 have e0 := Int.mul_le_mul_of_nonneg_right h0 (show 0 ≤ b0 by omega)
 have e1 := Int.mul_le_mul_of_nonneg_right h1 (show 0 ≤ b1 by omega)
 have f0 := Bo.le_cl hb a
 have f1 := Bo.le_cl (show 0 < b1 by omega) a
 have := (Bo.lin' (b := H) y0 y1).1
 omega
theorem Bo.cl_neg (n d : Int) (h : d ≠ 0) : Bo.cl (-n) (-d) = Bo.cl n d := by
 unfold Bo.cl
 rw [Bo.fl_neg (-n) d h]
set_option linter.unusedVariables false
theorem Bo.holds1 {a0 a1 b0 b1 x y : Int} (ha : Bo.v a0 a1) (hb : Bo.v b0 b1) (x0 : a0 ≤ x) (x1 : x ≤ a1) (y0 : b0 ≤ y) (y1 : y ≤ b1) (n d t0 t1 t : Int) {k : Nat} (hk : 20 ≤ k) : isobathlaw01_BoundHolds.j1 (k + 1) n d t0 t1 t x y false a0 a1 b0 b1 = isobathlaw01_BoundHolds.j2 k n d t0 t1 t x y false a0 a1 b0 b1 := by
 obtain ⟨a2, a3, a4⟩ := id ha
 obtain ⟨b2, b3, b4⟩ := id hb
 simp only [isobathlaw01_BoundHolds.j1]
 have e : Bo.sub a0 a1 b0 b1 = Bo.res (a0 - b1) (a1 - b0) := by unfold Bo.sub Bo.op2; exact if_pos ⟨ha, hb⟩
 rw [if_neg (by decide), Bo.sub_b _ _ _ _ hk, Option.bind_some, e, wrap_id (by omega) (by omega)]
 unfold Bo.res
 by_cases q : Bo.v (a0 - b1) (a1 - b0)
 ·rw [if_pos q]
  simp only [if_true]
  rw [Bo.holdsH, Option.bind_some, if_pos (zdt (by omega))]
 rw [if_neg q]
 rfl
theorem Bo.holds2 {a0 a1 b0 b1 x y : Int} (ha : Bo.v a0 a1) (hb : Bo.v b0 b1) (x0 : a0 ≤ x) (x1 : x ≤ a1) (y0 : b0 ≤ y) (y1 : y ≤ b1) (n d t0 t1 t : Int) {k : Nat} (hk : 20 ≤ k) : isobathlaw01_BoundHolds.j2 (k + 1) n d t0 t1 t x y false a0 a1 b0 b1 = isobathlaw01_BoundHolds.j3 k n d t0 t1 t x y false a0 a1 b0 b1 := by
 obtain ⟨a2, a3, a4⟩ := id ha
 obtain ⟨b2, b3, b4⟩ := id hb
 have c := Bo.corner x0 x1 y0 y1
 simp only [isobathlaw01_BoundHolds.j2]
 have e : Bo.mul a0 a1 b0 b1 = Bo.res (min (min (min (a0 * b0) (a0 * b1)) (a1 * b0)) (a1 * b1)) (max (max (max (a0 * b0) (a0 * b1)) (a1 * b0)) (a1 * b1)) := by unfold Bo.mul Bo.op2; exact if_pos ⟨ha, hb⟩
 rw [if_neg (by decide), Bo.mul_b _ _ _ _ hk, Option.bind_some, Bo.mul_w (by omega) (by omega) (by omega) (by omega), e]
 unfold Bo.res
 generalize min (min (min (a0 * b0) (a0 * b1)) (a1 * b0)) (a1 * b1) = L at c ⊢
 generalize max (max (max (a0 * b0) (a0 * b1)) (a1 * b0)) (a1 * b1) = H at c ⊢
 by_cases q : Bo.v L H
 ·rw [if_pos q]
  simp only [if_true]
  rw [Bo.holdsH, Option.bind_some, if_pos (zdt c)]
 rw [if_neg q]
 rfl
theorem Bo.holds3 {a0 a1 b0 b1 x y : Int} (ha : Bo.v a0 a1) (hb : Bo.v b0 b1) (x0 : a0 ≤ x) (x1 : x ≤ a1) (y0 : b0 ≤ y) (y1 : y ≤ b1) (n d t0 t1 t : Int) {k : Nat} (hk : 20 ≤ k) : isobathlaw01_BoundHolds.j3 (k + 1) n d t0 t1 t x y false a0 a1 b0 b1 = isobathlaw01_BoundHolds.j4 k n d t0 t1 t x y false a0 a1 b0 b1 := by
 obtain ⟨a2, a3, a4⟩ := id ha
 obtain ⟨b2, b3, b4⟩ := id hb
 simp only [isobathlaw01_BoundHolds.j3]
 have e : Bo.div a0 a1 b0 b1 = if b0 ≤ 0 ∧ 0 ≤ b1 then (0, 0, 9) else Bo.res (min (min (min (Bo.fl a0 b0) (Bo.fl a0 b1)) (Bo.fl a1 b0)) (Bo.fl a1 b1)) (max (max (max (Bo.cl a0 b0) (Bo.cl a0 b1)) (Bo.cl a1 b0)) (Bo.cl a1 b1)) := by unfold Bo.div Bo.op2; exact if_pos ⟨ha, hb⟩
 rw [if_neg (by decide), Bo.div_b _ _ _ _ hk, Option.bind_some, Bo.holdsH, e]
 by_cases q : b0 ≤ 0 ∧ 0 ≤ b1
 ·rw [if_pos q]
  simp only []
  rw [if_neg (by decide), Option.bind_some, zdt q]
  rfl
 rw [if_neg q]
 obtain ⟨L, eL⟩ : ∃ L, min (min (min (Bo.fl a0 b0) (Bo.fl a0 b1)) (Bo.fl a1 b0)) (Bo.fl a1 b1) = L := ⟨_, rfl⟩
 obtain ⟨H, eH⟩ : ∃ H, max (max (max (Bo.cl a0 b0) (Bo.cl a0 b1)) (Bo.cl a1 b0)) (Bo.cl a1 b1) = H := ⟨_, rfl⟩
 rw [eL, eH]
 unfold Bo.res
 by_cases qv : Bo.v L H
 ·rw [if_pos qv]
  simp only [if_true]
  have bt : isobathlaw01_between.f L H x y = some true := by
   by_cases p : 0 < b0
   ·refine Bo.between_pos qv (by omega) (by omega) ?_ ?_
    ·have := Bo.quot_lo (L := L) (a := a0) p y0 y1 (by omega) (by omega)
     omega
    have := Bo.quot_hi (H := H) (a := a1) p y0 y1 (by omega) (by omega)
    omega
   have n0 : b0 ≠ 0 := by omega
   have n1 : b1 ≠ 0 := by omega
   have g0 := Bo.fl_neg a1 b0 n0
   have g1 := Bo.fl_neg a1 b1 n1
   have g2 := Bo.cl_neg a0 b0 n0
   have g3 := Bo.cl_neg a0 b1 n1
   refine Bo.between_neg qv (by omega) (by omega) ?_ ?_
   ·have := Bo.quot_lo (L := L) (a := -a1) (b0 := -b1) (b1 := -b0) (y := -y) (by omega) (by omega) (by omega) (by omega) (by omega)
    omega
   have := Bo.quot_hi (H := H) (a := -a0) (b0 := -b1) (b1 := -b0) (y := -y) (by omega) (by omega) (by omega) (by omega) (by omega)
   omega
  rw [if_neg (by omega), bt, Option.bind_some, if_pos rfl, Option.bind_some, zdf q]
  rfl
 rw [if_neg qv]
 simp only []
 rw [if_neg (by decide), Option.bind_some, zdf q]
 rfl
theorem Bo.holds4 {a0 a1 b0 b1 x y : Int} (ha : Bo.v a0 a1) (hb : Bo.v b0 b1) (x0 : a0 ≤ x) (x1 : x ≤ a1) (y0 : b0 ≤ y) (y1 : y ≤ b1) (n d t0 t1 t : Int) {k : Nat} (hk : 20 ≤ k) : isobathlaw01_BoundHolds.j4 (k + 1) n d t0 t1 t x y false a0 a1 b0 b1 = isobathlaw01_BoundHolds.j5 k n d t0 t1 t x y false a0 a1 b0 b1 := by
 obtain ⟨a2, a3, a4⟩ := id ha
 simp only [isobathlaw01_BoundHolds.j4]
 have e : Bo.root a0 a1 = if a0 < 0 then (0, 0, 3) else (Rt.root a0, Rt.rootUp a1, 0) := by unfold Bo.root; exact if_pos ha
 rw [if_neg (by decide), Bo.root_b2 _ _ hk, Option.bind_some, e]
 by_cases q : a0 < 0
 ·rw [if_pos q]
  simp only []
  rw [if_neg (by decide), zdf (show ¬ a0 ≥ 0 by omega)]
  rfl
 rw [if_neg q]
 simp only [if_true]
 have r1 := Bo.root_is (n := a0) (by omega)
 have r2 := Bo.rootUp_is (n := a1) (by omega)
 rw [Bo.rootW (by omega) (by omega), Bo.rootUpW (by omega) (by omega), if_neg (Int.not_lt.2 (Int.le_trans r1.2.1 x0)), if_neg (Int.not_lt.2 (Int.le_trans x1 r2.2.1)), if_neg (Int.not_lt.2 r1.1), zdt (show a0 ≥ 0 from Int.not_lt.1 q)]
 rfl
theorem Bo.holds5 {a0 a1 b0 b1 x y : Int} (ha : Bo.v a0 a1) (hb : Bo.v b0 b1) (x0 : a0 ≤ x) (x1 : x ≤ a1) (y0 : b0 ≤ y) (y1 : y ≤ b1) (n d t0 t1 t : Int) (hn : -9223372036854775808 ≤ n ∧ n ≤ 9223372036854775807) {k : Nat} (hk : 20 ≤ k) : isobathlaw01_BoundHolds.j5 (k + 1) n d t0 t1 t x y false a0 a1 b0 b1 = isobathlaw01_BoundHolds.j6 k t0 t1 t x y false a0 a1 b0 b1 := by
 obtain ⟨a2, a3, a4⟩ := id ha
 simp only [isobathlaw01_BoundHolds.j5]
 have e : Bo.scale a0 a1 n d = if -1073741824 ≤ n ∧ n ≤ 1073741824 ∧ 1 ≤ d ∧ d ≤ 1073741824 then Bo.res (min (Bo.fl (a0 * n) d) (Bo.fl (a1 * n) d)) (max (Bo.cl (a0 * n) d) (Bo.cl (a1 * n) d)) else (0, 0, 3) := by unfold Bo.scale; exact if_pos ha
 rw [if_neg (by decide), Bo.scale_b _ _ _ _ hn.1 hn.2 hk, Option.bind_some, e]
 by_cases q : -1073741824 ≤ n ∧ n ≤ 1073741824 ∧ 1 ≤ d ∧ d ≤ 1073741824
 ·rw [if_pos q]
  obtain ⟨L, eL⟩ : ∃ L, min (Bo.fl (a0 * n) d) (Bo.fl (a1 * n) d) = L := ⟨_, rfl⟩
  obtain ⟨H, eH⟩ : ∃ H, max (Bo.cl (a0 * n) d) (Bo.cl (a1 * n) d) = H := ⟨_, rfl⟩
  rw [eL, eH]
  unfold Bo.res
  by_cases qv : Bo.v L H
  ·rw [if_pos qv]
   simp only [if_true]
   have hd : 0 < d := by omega
   have c := Bo.lin (b := n) x0 x1
   have e0 := Int.mul_le_mul_of_nonneg_right (show L ≤ Bo.fl (a0 * n) d by omega) (show 0 ≤ d by omega)
   have e1 := Int.mul_le_mul_of_nonneg_right (show L ≤ Bo.fl (a1 * n) d by omega) (show 0 ≤ d by omega)
   have f0 := Bo.fl_le hd (a0 * n)
   have f1 := Bo.fl_le hd (a1 * n)
   have u0 := Int.mul_le_mul_of_nonneg_right (show Bo.cl (a0 * n) d ≤ H by omega) (show 0 ≤ d by omega)
   have u1 := Int.mul_le_mul_of_nonneg_right (show Bo.cl (a1 * n) d ≤ H by omega) (show 0 ≤ d by omega)
   have g0 := Bo.le_cl hd (a0 * n)
   have g1 := Bo.le_cl hd (a1 * n)
   rw [if_neg (by omega), Bo.mul_w (by omega) (by omega) (by omega) (by omega), Bo.between_pos qv hd (by omega) (by omega) (by omega)]
   rfl
  rw [if_neg qv]
  rfl
 rw [if_neg q]
 rfl
theorem Bo.holds6 {a0 a1 b0 b1 x y : Int} (ha : Bo.v a0 a1) (hb : Bo.v b0 b1) (x0 : a0 ≤ x) (x1 : x ≤ a1) (y0 : b0 ≤ y) (y1 : y ≤ b1) (t0 t1 t : Int) {k : Nat} (hk : 30 ≤ k) : isobathlaw01_BoundHolds.j6 (k + 1) t0 t1 t x y false a0 a1 b0 b1 = some true := by
 obtain ⟨a2, a3, a4⟩ := id ha
 obtain ⟨b2, b3, b4⟩ := id hb
 simp only [isobathlaw01_BoundHolds.j6]
 have e : Bo.line t0 a0 a1 t1 b0 b1 t = if 0 ≤ t0 ∧ t1 ≤ 1073741824 ∧ t0 < t1 ∧ t0 ≤ t ∧ t ≤ t1 then Bo.res (Bo.fl (a0 * (t1 - t) + b0 * (t - t0)) (t1 - t0)) (Bo.cl (a1 * (t1 - t) + b1 * (t - t0)) (t1 - t0)) else (0, 0, 3) := by unfold Bo.line Bo.op2; exact if_pos ⟨ha, hb⟩
 rw [if_neg (by decide), Bo.line_b _ _ _ _ _ _ _ (by omega), Option.bind_some, Bo.works (by omega), e]
 by_cases q : 0 ≤ t0 ∧ t1 ≤ 1073741824 ∧ t0 < t1 ∧ t0 ≤ t ∧ t ≤ t1
 ·rw [if_pos q]
  obtain ⟨q0, q1, q2, q3, q4⟩ := q
  have p0 := Int.mul_le_mul_of_nonneg_right x0 (show 0 ≤ t1 - t by omega)
  have p1 := Int.mul_le_mul_of_nonneg_right x1 (show 0 ≤ t1 - t by omega)
  have p2 := Int.mul_le_mul_of_nonneg_right y0 (show 0 ≤ t - t0 by omega)
  have p3 := Int.mul_le_mul_of_nonneg_right y1 (show 0 ≤ t - t0 by omega)
  have u0 : wrap64 (t1 - t) = t1 - t := wrap_id (by omega) (by omega)
  have u1 : wrap64 (t - t0) = t - t0 := wrap_id (by omega) (by omega)
  have u2 : wrap64 (t1 - t0) = t1 - t0 := wrap_id (by omega) (by omega)
  have m0 := Bo.mul_le (a := x) (b := t1 - t) (by omega) (by omega) (by omega) (by omega)
  have m1 := Bo.mul_le (a := y) (b := t - t0) (by omega) (by omega) (by omega) (by omega)
  have hd : 0 < t1 - t0 := by omega
  have f0 := Bo.fl_le hd (a0 * (t1 - t) + b0 * (t - t0))
  have f1 := Bo.le_cl hd (a1 * (t1 - t) + b1 * (t - t0))
  rw [u0, u1, u2, wrap_id (n := x * (t1 - t)) (by omega) (by omega), wrap_id (n := y * (t - t0)) (by omega) (by omega), wrap_id (by omega) (by omega)]
  generalize Bo.fl (a0 * (t1 - t) + b0 * (t - t0)) (t1 - t0) = L at f0 ⊢
  generalize Bo.cl (a1 * (t1 - t) + b1 * (t - t0)) (t1 - t0) = H at f1 ⊢
  unfold Bo.res
  by_cases qv : Bo.v L H
  ·rw [if_pos qv]
   simp only [if_true]
   rw [if_neg (by omega), Bo.between_pos qv hd (by omega) (by omega) (by omega)]
   rfl
  rw [if_neg qv]
  rfl
 rw [if_neg q]
 rfl
theorem Bo.holdsAll (a0 a1 b0 b1 p q n d t0 t1 t : Int) (hp : 0 ≤ p ∧ p ≤ 65535) (hq : 0 ≤ q ∧ q ≤ 65535) (hn : -9223372036854775808 ≤ n ∧ n ≤ 9223372036854775807) : isobathlaw01_BoundHolds.f 107 a0 a1 b0 b1 p q n d t0 t1 t = some true := by
 unfold isobathlaw01_BoundHolds.f
 rw [Bo.both1 a0 a1 b0 b1 fun z => isobathlaw01_BoundHolds.j0 107 p q n d t0 t1 t z a0 a1 b0 b1]
 rw [show (107 : Nat) = 100 + 1 + 1 + 1 + 1 + 1 + 1 + 1 from rfl, isobathlaw01_BoundHolds.j0, isobathlaw01_BoundHolds.j0]
 by_cases h : Bo.v a0 a1 ∧ Bo.v b0 b1
 ·obtain ⟨x, hx, x0, x1⟩ := Bo.partH h.1 hp.1 hp.2
  obtain ⟨y, hy, y0, y1⟩ := Bo.partH h.2 hq.1 hq.2
  obtain ⟨⟨h1, h2, h3⟩, h4, h5, h6⟩ := id h
  have rest : isobathlaw01_BoundHolds.j1 (100 + 1 + 1 + 1 + 1 + 1 + 1) n d t0 t1 t x y false a0 a1 b0 b1 = some true := by
   rw [Bo.holds1 h.1 h.2 x0 x1 y0 y1 n d t0 t1 t (by omega), Bo.holds2 h.1 h.2 x0 x1 y0 y1 n d t0 t1 t (by omega), Bo.holds3 h.1 h.2 x0 x1 y0 y1 n d t0 t1 t (by omega), Bo.holds4 h.1 h.2 x0 x1 y0 y1 n d t0 t1 t (by omega), Bo.holds5 h.1 h.2 x0 x1 y0 y1 n d t0 t1 t hn (by omega), Bo.holds6 h.1 h.2 x0 x1 y0 y1 t0 t1 t (by omega)]
  rw [if_pos h, if_neg (by decide), hx, hy, Option.bind_some, Option.bind_some, Bo.add_b _ _ _ _ (by omega), Option.bind_some, show Bo.add a0 a1 b0 b1 = Bo.res (a0 + b0) (a1 + b1) from if_pos h, wrap_id (by omega) (by omega)]
  unfold Bo.res
  by_cases qv : Bo.v (a0 + b0) (a1 + b1)
  ·rw [if_pos qv]
   simp only [if_true]
   rw [Bo.holdsH, Option.bind_some, if_pos (zdt (by omega))]
   exact rest
  rw [if_neg qv]
  exact rest
 rw [if_neg h, if_pos rfl, Bo.works (by omega)]
 rfl
theorem Bo.i64H {n : Int} (h : (Lit.int .i64 n).wf = true) : -9223372036854775808 ≤ n ∧ n ≤ 9223372036854775807 := by
 have e : (decide ((-9223372036854775808 : Int) ≤ n) && decide (n ≤ 9223372036854775807)) = true := h
 simp at e
 omega
theorem Bo.u16H {n : Int} (h : (Lit.int .u16 n).wf = true) : 0 ≤ n ∧ n ≤ 65535 := by
 have e : (decide ((0 : Int) ≤ n) && decide (n ≤ 65535)) = true := h
 simp at e
 omega
theorem boundHolds_holds : Rows.BoundHoldsSaid := boundHolds.proved fun a b p q n d t0 t1 t _ _ hp hq hn _ _ _ _ => ⟨107, Bo.holdsAll _ _ _ _ p q n d t0 t1 t (Bo.u16H hp) (Bo.u16H hq) (Bo.i64H hn)⟩
#print axioms boundHolds_holds
end Go.Proofs.Ytlkafgibgipodaa.P
