/- both sets together have as many numbers as their union and their common part; a set and what is outside of it within its hull fill the hull. Part 1 of 1. -/
-- Put together by wip/tools/shake.py, a program of this work: out of the words that the kit's print tool (print.sh) writes for a claim and what wip/tools/xprint.py prints, those that this claim reaches, and this work's own texts.
import Derived.Below
import Derived.Deep.Draws
import Derived.Deep.AppendLies
import Derived.Maps.AppendAt
import Derived.OwnWalk
import Derived.Laws.BytesArg
import Derived.Laws.MakeOwn
import Derived.Laws.OwnMore
import Derived.Deep.OwnRows
import Derived.Tactics
import Derived.Lib.ConvBytes
import Derived.Laws.Slices
import Derived.WalkKit
import Derived.KernelRfl
import Derived.RowKit3
import Derived.Deep.LoopGhost
import Derived.Deep.QuietTactic
import Derived.BigQuiet
import Derived.WideLaws
import Derived.Deep.DeepCutAuto
import Derived.Deep.CutBlock
import Derived.Deep.RegionHeld3
import Derived.Laws.Rows
import Derived.Lib.AppendStr
import Derived.ArgAppend
import Derived.Laws.IdiomCopy
import Derived.RowKit
import Derived.OrdersHeld
import Derived.Laws.BitsLemmas
import Derived.Laws.StructEq
import Derived.Test.YtlkafgibgipodaaProg
import Derived.RangeFuncBox
import Derived.RangeFuncNested
import Derived.RangeFuncBound
import Derived.RangeFuncCalls
import Derived.RangeFuncLeaves
import Derived.Shelf.Abstract
import Derived.Shelf.RegionOpen
import Derived.OwnWalkIn
import Derived.TacticsInMore
import Derived.LoopNIn
import Derived.LoopIn
import Derived.Sort.QuietIn
import Derived.Sort.LoopGhostIn
import Derived.Laws.EntriesVeiled
import Derived.Shelf.SlSortCmp.WholeK
import Derived.Deep.Slices
import Derived.OpenShut
import Derived.Test.YtlkafgibgipodaaRows
import Derived.ProofKit
import Derived.ShutString
import Derived.ChangeOld
import Derived.SizedLaws
import Derived.Carry
import Derived.Laws.Externs
import Derived.Test.YtlkafgibgipodaaKSets3
namespace Go.Proofs.Ytlkafgibgipodaa.P
open Go.RowKit Go.Proofs.YtlkafgibgipodaaW.PrintWords Go.Proofs.YtlkafgibgipodaaW.PrintLast Go.Proofs.YtlkafgibgipodaaW.PrintMore
attribute [local go_sem] max2_int min2_int max_two min_two max_three min_three max_four min_four   -- for this text's walks alone
set_option linter.unusedVariables false
set_option linter.unusedSimpArgs false
set_option maxHeartbeats 8000000 in
set_option maxRecDepth 100000 in
theorem isobathref01_Within.calls (a0 : Int) (a1 : Int) (a2 : Int) (r : Bool) (w : World) (h : isobathref01_Within.f a0 a1 a2 = some r) :
  Calls Try.prog 79 #[.int .i64 a0, .int .i64 a1, .int .i64 a2] w fun e w' => e = .returned (.bool r) ∧ Drawn0 w w' := by
 have H : (if a0 ≥ a1 then (some (decide (a0 ≤ a2))) else (some false)) = some r := h
 clear h
 by_cases c4 : a0 ≥ a1
 ·rw [if_pos c4] at H
  have c4b0 : decide (a1 ≤ a0) = true := zdt c4
  clear c4
  obtain rfl := zsi H
  go_enter Try.func79, Try.ntmps79
  go_wp2
  go_ret
  exact ⟨by first | rfl | (simp; done) | (simp [*]; done), by repeat (first | exact Drawn0.refl _ | apply Drawn0.step)⟩
 rw [if_neg c4] at H
 have c4b0 : decide (a1 ≤ a0) = false := zdf c4
 clear c4
 obtain rfl := zsi H
 go_enter Try.func79, Try.ntmps79
 go_wp2
 go_ret
 exact ⟨by first | rfl | (simp; done) | (simp [*]; done), by repeat (first | exact Drawn0.refl _ | apply Drawn0.step)⟩
set_option maxHeartbeats 8000000 in
set_option maxRecDepth 100000 in
theorem isobathref01_Valid.calls (a0_0 : Int) (a0_1 : Int) (r : Bool) (w : World) (h : isobathref01_Valid.f a0_0 a0_1 = some r) :
  Calls Try.prog 22 #[.agg #[.int .i64 a0_0, .int .i64 a0_1]] w fun e w' => e = .returned (.bool r) ∧ Below w.heap.size w w' := by
 have hu32 := Try.underlying32
 have HB := zam (Below.refl w.heap.size w)
 have H : (if a0_0 ≤ a0_1 then ((isobathref01_Within.f a0_0 (-1073741824) 1073741824).bind fun t102 => (if t102 = true then ((isobathref01_Within.f a0_1 (-1073741824) 1073741824).bind fun t103 => (some t103)) else (some false))) else (some false)) = some r := h
 clear h
 by_cases c2 : a0_0 ≤ a0_1
 ·rw [if_pos c2] at H
  have c2b0 : decide (a0_0 ≤ a0_1) = true := zdt c2
  clear c2
  replace H := Option.bind_eq_some_iff.mp H
  obtain ⟨t102, A30, H⟩ := H
  replace H : (if t102 = true then ((isobathref01_Within.f a0_1 (-1073741824) 1073741824).bind fun t103 => (some t103)) else (some false)) = some r := H
  have A3 := zam A30
  clear A30
  by_cases c4 : t102 = true
  ·subst c4
   have H1 : ((isobathref01_Within.f a0_1 (-1073741824) 1073741824).bind fun t103 => (some t103)) = some r := by rw [if_pos rfl] at H; exact H
   clear H
   have H := H1
   clear H1
   replace H := Option.bind_eq_some_iff.mp H
   obtain ⟨t103, A50, H⟩ := H
   replace H : (some t103) = some r := H
   have A5 := zam A50
   clear A50
   obtain rfl := zsi H
   go_enter Try.func22, Try.ntmps22
   go_wp2_with (first | ((with_reducible refine zgd (N := 1) rfl ?_); refine box_event ?hg (N := 1) ?hd (cs := #[.int .i64 a0_0, .int .i64 a0_1]) (t := 32) ?hr ?_; (case hd => rfl); (case hg => rfl); (case hr => first | (go_simp; done) | (go_simp; rfl)); intro gb101 hg w6 hbox hb; have n0_ := zam (zbt (by repeat (first | (with_reducible first | exact HB.out | apply zba | apply zbn | apply zb1) | exact HB.out)) hb); have n1_ := zam (hbox); have n2_ := zam ((by rw [hg]; exact (zbz (by repeat (first | (with_reducible first | exact HB.out | apply zba | apply zbn | apply zb1) | exact HB.out))) : w.heap.size ≤ gb101)); have n3_ := zam ((by rw [hg]; exact (zbz (by repeat (first | (with_reducible first | exact HB.out | apply zba | apply zbn | apply zb1) | exact HB.out))) : w.heap.size ≤ gb101)); clear HB; have HB := n0_; have BK101 := n1_; have GW101 := n2_; have GE101 := n3_; clear n0_ n1_ n2_ n3_; clear hb hbox hg; have hcz7_0 : w6.cell? ⟨gb101, 0, none⟩ = some (.int .i64 a0_0) := (zkc BK101.out 0).trans rfl; have hcz7_1 : w6.cell? ⟨gb101, 1, none⟩ = some (.int .i64 a0_1) := (zkc BK101.out 1).trans rfl; have hfz7_0 := zkz BK101.out 0; have hfz7_1 := zkz BK101.out 1) | (go_at_call 79; (with_reducible refine (isobathref01_Within.calls a0_0 (-1073741824) 1073741824 true _ A3.out).mono ?_); rintro e w' ⟨rfl, ⟨nd, rfl⟩⟩) | (go_at_call 79; (with_reducible refine (isobathref01_Within.calls a0_1 (-1073741824) 1073741824 t103 _ A5.out).mono ?_); rintro e w' ⟨rfl, ⟨nd, rfl⟩⟩))
   go_ret
   exact ⟨by first | rfl | (simp [errW_none, errW_some] <;> rfl) | (simp [*, errW_none, errW_some] <;> rfl), by repeat (first | (with_reducible first | exact HB.out | apply zba | apply zbn | apply zb1 | refine zbs ?_ GE101.out) | exact HB.out)⟩
  replace c4 := Bool.eq_false_iff.mpr c4
  subst c4
  have H1 : (some false) = some r := by rw [if_neg (show ¬ (false = true) by decide)] at H; exact H
  clear H
  have H := H1
  clear H1
  obtain rfl := zsi H
  go_enter Try.func22, Try.ntmps22
  go_wp2_with (first | ((with_reducible refine zgd (N := 1) rfl ?_); refine box_event ?hg (N := 1) ?hd (cs := #[.int .i64 a0_0, .int .i64 a0_1]) (t := 32) ?hr ?_; (case hd => rfl); (case hg => rfl); (case hr => first | (go_simp; done) | (go_simp; rfl)); intro gb101 hg w8 hbox hb; have n0_ := zam (zbt (by repeat (first | (with_reducible first | exact HB.out | apply zba | apply zbn | apply zb1) | exact HB.out)) hb); have n1_ := zam (hbox); have n2_ := zam ((by rw [hg]; exact (zbz (by repeat (first | (with_reducible first | exact HB.out | apply zba | apply zbn | apply zb1) | exact HB.out))) : w.heap.size ≤ gb101)); have n3_ := zam ((by rw [hg]; exact (zbz (by repeat (first | (with_reducible first | exact HB.out | apply zba | apply zbn | apply zb1) | exact HB.out))) : w.heap.size ≤ gb101)); clear HB; have HB := n0_; have BK101 := n1_; have GW101 := n2_; have GE101 := n3_; clear n0_ n1_ n2_ n3_; clear hb hbox hg; have hcz9_0 : w8.cell? ⟨gb101, 0, none⟩ = some (.int .i64 a0_0) := (zkc BK101.out 0).trans rfl; have hcz9_1 : w8.cell? ⟨gb101, 1, none⟩ = some (.int .i64 a0_1) := (zkc BK101.out 1).trans rfl; have hfz9_0 := zkz BK101.out 0; have hfz9_1 := zkz BK101.out 1) | (go_at_call 79; (with_reducible refine (isobathref01_Within.calls a0_0 (-1073741824) 1073741824 false _ A3.out).mono ?_); rintro e w' ⟨rfl, ⟨nd, rfl⟩⟩))
  go_ret
  exact ⟨by first | rfl | (simp [errW_none, errW_some] <;> rfl) | (simp [*, errW_none, errW_some] <;> rfl), by repeat (first | (with_reducible first | exact HB.out | apply zba | apply zbn | apply zb1 | refine zbs ?_ GE101.out) | exact HB.out)⟩
 rw [if_neg c2] at H
 have c2b0 : decide (a0_0 ≤ a0_1) = false := zdf c2
 clear c2
 obtain rfl := zsi H
 go_enter Try.func22, Try.ntmps22
 go_wp2_with (first | ((with_reducible refine zgd (N := 1) rfl ?_); refine box_event ?hg (N := 1) ?hd (cs := #[.int .i64 a0_0, .int .i64 a0_1]) (t := 32) ?hr ?_; (case hd => rfl); (case hg => rfl); (case hr => first | (go_simp; done) | (go_simp; rfl)); intro gb101 hg w10 hbox hb; have n0_ := zam (zbt (by repeat (first | (with_reducible first | exact HB.out | apply zba | apply zbn | apply zb1) | exact HB.out)) hb); have n1_ := zam (hbox); have n2_ := zam ((by rw [hg]; exact (zbz (by repeat (first | (with_reducible first | exact HB.out | apply zba | apply zbn | apply zb1) | exact HB.out))) : w.heap.size ≤ gb101)); have n3_ := zam ((by rw [hg]; exact (zbz (by repeat (first | (with_reducible first | exact HB.out | apply zba | apply zbn | apply zb1) | exact HB.out))) : w.heap.size ≤ gb101)); clear HB; have HB := n0_; have BK101 := n1_; have GW101 := n2_; have GE101 := n3_; clear n0_ n1_ n2_ n3_; clear hb hbox hg; have hcz11_0 : w10.cell? ⟨gb101, 0, none⟩ = some (.int .i64 a0_0) := (zkc BK101.out 0).trans rfl; have hcz11_1 : w10.cell? ⟨gb101, 1, none⟩ = some (.int .i64 a0_1) := (zkc BK101.out 1).trans rfl; have hfz11_0 := zkz BK101.out 0; have hfz11_1 := zkz BK101.out 1))
 go_ret
 exact ⟨by first | rfl | (simp [errW_none, errW_some] <;> rfl) | (simp [*, errW_none, errW_some] <;> rfl), by repeat (first | (with_reducible first | exact HB.out | apply zba | apply zbn | apply zb1 | refine zbs ?_ GE101.out) | exact HB.out)⟩
def isobathref01_CheckSet.T6 : Bool × List (List Nat × List Nat) := (true, [([], []), ([], []), ([0, 1], [0, 1]), ([2], [2]), ([3], [3]), ([4], [4]), ([5, 4], [5]), ([6], [6]), ([7, 6], [6, 7]), ([8, 6, 6], [6, 8]), ([9], [9]), ([9], [9]), ([10, 11, 9], [9, 10, 11]), ([12, 9], [9, 12]), ([13, 9], [9, 13]), ([9], [9]), ([9], [9]), ([16, 9], [9, 16]), ([15, 17, 9], [9, 15, 17]), ([18, 9], [9, 18]), ([19, 9], [9, 19]), ([20, 9], [9, 20]), ([14, 21, 9], [9, 14, 21]), ([9, 22, 6], [6, 9, 22]), ([6, 23], [6, 23])])
def isobathref01_CheckSet.B6 : List Nat := [0, 0, 3, 7, 15, 31, 63, 127, 255, 511, 1023, 1023, 4095, 8191, 16383, 1023, 1023, 66559, 230399, 492543, 1016831, 2065407, 4194303, 8388607, 16777215]
theorem isobathref01_CheckSet.tab6 : rtab .any (opsOf Try.f39 6) = isobathref01_CheckSet.T6 := by kernel_rfl
theorem isobathref01_CheckSet.bits6 : waitsOk isobathref01_CheckSet.T6.2 isobathref01_CheckSet.B6 = true := by kernel_rfl
set_option maxHeartbeats 8000000 in
set_option maxRecDepth 100000 in
theorem isobathref01_CheckSet.calls (k : Nat) (A0 : Option Addr) (c0 : Nat) (l0 : List (S32)) (r : Int) (w : World) (hr0 : Kd.C k32 w A0 l0.length l0) (hc0 : l0.length ≤ c0) (h : isobathref01_CheckSet.f k l0 = some r) :
  Calls Try.prog 39 #[.slice A0 l0.length c0] w fun e w' => e = .returned (.int .i64 r) ∧ Below w.heap.size w w' := by
 have hu32 := Try.underlying32
 have HR0 := zam hr0
 have HC0 := zam hc0
 clear hr0 hc0
 have HB := zam (Below.refl w.heap.size w)
 have H : (if (l0.length : Int) > 256 then (some 6) else (isobathref01_CheckSet.l0 k l0 0)) = some r := h
 clear h
 by_cases c2 : (l0.length : Int) > 256
 ·rw [if_pos c2] at H
  have c2b0 : decide (256 < (l0.length : Int)) = true := zdt c2
  have c2b1 : decide (256 < l0.length) = true := zdt (by omega)
  clear c2
  obtain rfl := zsi H
  go_enter Try.func39, Try.ntmps39
  go_wp2
  go_ret
  exact ⟨by first | rfl | (simp [errW_none, errW_some] <;> rfl) | (simp [*, errW_none, errW_some] <;> rfl), by repeat (first | (with_reducible first | exact HB.out | apply zba | apply zbn | apply zb1) | exact HB.out)⟩
 rw [if_neg c2] at H
 have c2b0 : decide (256 < (l0.length : Int)) = false := zdf c2
 have c2b1 : decide (256 < l0.length) = false := zdf (by omega)
 clear c2
 have H' := zam H
 clear H
 go_enter Try.func39, Try.ntmps39
 go_wp2
 go_loopg [3] k (fun kq v3 w' => ∃ (x3_1 : Int), v3 = .int .i64 x3_1 ∧ Aside0 (isobathref01_CheckSet.l0 kq l0 x3_1 = some r) ∧ Aside0 (kq ≤ k) ∧ Aside0 (Below w.heap.size w w'))
 case atStart => exact ⟨(0), (by first | rfl | (simp; done) | (simp [*]; done)), H', ⟨Nat.le_refl _⟩, ⟨by repeat (first | (with_reducible first | exact HB.out | apply zba | apply zbn | apply zb1) | exact HB.out)⟩⟩
 case round =>
  clear H'
  try clear c2
  try clear c2b0
  try clear c2b1
  try clear p2
  obtain ⟨x3_1, rfl, HA, HK1, HB⟩ := hrel
  cases gk with
  | zero => exact absurd HA.out (by simp [isobathref01_CheckSet.l0])
  | succ k1 =>
   have H := HA.out
   clear HA
   simp only [isobathref01_CheckSet.l0] at H
   by_cases c3 : x3_1 < (l0.length : Int)
   ·rw [if_pos c3] at H
    have c3b0 : decide (x3_1 < (l0.length : Int)) = true := zdt c3
    clear c3
    by_cases c4 : 0 ≤ x3_1
    ·rw [if_pos c4] at H
     have c4b0 : decide (0 ≤ x3_1) = true := zdt c4
     clear c4
     replace H := Option.bind_eq_some_iff.mp H
     obtain ⟨t102, A50, H⟩ := H
     replace H : (if t102 = true then (if x3_1 > 0 then (if 0 ≤ (wrap64 (x3_1 - 1)) then (if (wrap64 (x3_1 - 1)) < (l0.length : Int) then (if ((rd_T32 l0 x3_1).f0) < (wrap64 (((rd_T32 l0 (wrap64 (x3_1 - 1))).f1) + 2)) then (some 2) else (isobathref01_CheckSet.l0 k1 l0 (wrap64 (x3_1 + 1)))) else (none)) else (none)) else (isobathref01_CheckSet.l0 k1 l0 (wrap64 (x3_1 + 1)))) else (some 2)) = some r := H
     have A5 := zam A50
     clear A50
     by_cases c6 : t102 = true
     ·subst c6
      have H1 : (if x3_1 > 0 then (if 0 ≤ (wrap64 (x3_1 - 1)) then (if (wrap64 (x3_1 - 1)) < (l0.length : Int) then (if ((rd_T32 l0 x3_1).f0) < (wrap64 (((rd_T32 l0 (wrap64 (x3_1 - 1))).f1) + 2)) then (some 2) else (isobathref01_CheckSet.l0 k1 l0 (wrap64 (x3_1 + 1)))) else (none)) else (none)) else (isobathref01_CheckSet.l0 k1 l0 (wrap64 (x3_1 + 1)))) = some r := by rw [if_pos rfl] at H; exact H
      clear H
      have H := H1
      clear H1
      by_cases c7 : x3_1 > 0
      ·rw [if_pos c7] at H
       have c7b0 : decide (0 < x3_1) = true := zdt c7
       clear c7
       obtain ⟨ji8, hji8⟩ : ∃ j_ : Int, (wrap64 (x3_1 - 1)) = j_ := ⟨_, rfl⟩
       replace H : (if 0 ≤ (ji8) then (if (ji8) < (l0.length : Int) then (if ((rd_T32 l0 x3_1).f0) < (wrap64 (((rd_T32 l0 (ji8)).f1) + 2)) then (some 2) else (isobathref01_CheckSet.l0 k1 l0 (wrap64 (x3_1 + 1)))) else (none)) else (none)) = some r := by first | (rw [hji8] at H; exact H) | (simp only [hji8] at H ⊢; exact H)
       (try rw [hji8] at A5)
       have hji8w : (IntKind.i64.wrap (x3_1 - 1)) = ji8 := (i64_w _).trans hji8
       by_cases c9 : 0 ≤ (ji8)
       ·rw [if_pos c9] at H
        have c9b0 : decide (0 ≤ (ji8)) = true := zdt c9
        clear c9
        by_cases c10 : (ji8) < (l0.length : Int)
        ·rw [if_pos c10] at H
         have c10b0 : decide ((ji8) < (l0.length : Int)) = true := zdt c10
         clear c10
         by_cases c11 : ((rd_T32 l0 x3_1).f0) < (wrap64 (((rd_T32 l0 (ji8)).f1) + 2))
         ·rw [if_pos c11] at H
          have c11b0 : decide (((rd_T32 l0 x3_1).f0) < (wrap64 (((rd_T32 l0 (ji8)).f1) + 2))) = true := zdt c11
          clear c11
          obtain rfl := zsi H
          try go_wp2
          have n0_ := zam (zb1 HB.out)
          clear HB
          have HB := n0_
          clear n0_
          have p101 : 0 ≤ (x3_1 : Int) := zod (by first | (with_reducible assumption) | assumption)
          have q101 : x3_1 < (l0.length : Int) := zod (by first | (with_reducible assumption) | assumption)
          obtain ⟨ad101, e101, hx101_0, hx101_1⟩ := at_T32 HR0.out x3_1 p101 q101
          have hw101_1 := hx101_1
          have hw101_0 := hx101_0
          cases e101
          replace hx101_0 := (HB.out.cell (zwb w _ hx101_0)).trans hx101_0
          replace hx101_1 := (HB.out.cell (zwb w _ hx101_1)).trans hx101_1
          replace p101 := eq_true p101
          replace q101 := eq_true q101
          have p103 : 0 ≤ (x3_1 : Int) := zod (by first | (with_reducible assumption) | assumption)
          have q103 : x3_1 < (l0.length : Int) := zod (by first | (with_reducible assumption) | assumption)
          obtain ⟨ad103, e103, hx103_0, hx103_1⟩ := at_T32 HR0.out x3_1 p103 q103
          have hw103_1 := hx103_1
          have hw103_0 := hx103_0
          obtain rfl : ad101 = ad103 := (by injection e103)
          replace hx103_0 := (HB.out.cell (zwb w _ hx103_0)).trans hx103_0
          replace hx103_1 := (HB.out.cell (zwb w _ hx103_1)).trans hx103_1
          replace p103 := eq_true p103
          replace q103 := eq_true q103
          have p104 : 0 ≤ ((ji8) : Int) := zod (by first | (with_reducible assumption) | assumption)
          have q104 : (ji8) < (l0.length : Int) := zod (by first | (with_reducible assumption) | assumption)
          obtain ⟨ad104, e104, hx104_0, hx104_1⟩ := at_T32 HR0.out (ji8) p104 q104
          have hw104_1 := hx104_1
          have hw104_0 := hx104_0
          obtain rfl : ad101 = ad104 := (by injection e104)
          replace hx104_0 := (HB.out.cell (zwb w _ hx104_0)).trans hx104_0
          replace hx104_1 := (HB.out.cell (zwb w _ hx104_1)).trans hx104_1
          replace p104 := eq_true p104
          replace q104 := eq_true q104
          refine start_ (n := 25) (S := fun w' => w'.cell? (ad101.add ((x3_1).toNat * 2)) = some (.int .i64 ((rd_T32 l0 x3_1).f0)) ∧ w'.cell? ⟨(ad101.add ((x3_1).toNat * 2)).block, (ad101.add ((x3_1).toNat * 2)).off + 1, none⟩ = some (.int .i64 ((rd_T32 l0 x3_1).f1)) ∧ w'.cell? (ad101.add ((x3_1).toNat * 2)) = some (.int .i64 ((rd_T32 l0 x3_1).f0)) ∧ w'.cell? ⟨(ad101.add ((x3_1).toNat * 2)).block, (ad101.add ((x3_1).toNat * 2)).off + 1, none⟩ = some (.int .i64 ((rd_T32 l0 x3_1).f1)) ∧ w'.cell? (ad101.add (((ji8)).toNat * 2)) = some (.int .i64 ((rd_T32 l0 (ji8)).f0)) ∧ w'.cell? ⟨(ad101.add (((ji8)).toNat * 2)).block, (ad101.add (((ji8)).toNat * 2)).off + 1, none⟩ = some (.int .i64 ((rd_T32 l0 (ji8)).f1))) (ds := []) #[false, false, false, false, false, false, false, false, false, false, false, false, false, false, false, false, false, false, false, false, false, false, false, false, false] (by kernel_rfl) rfl rfl ⟨((HB.out.cell (zwb w _ hw101_0)).trans hw101_0), ((HB.out.cell (zwb w _ hw101_1)).trans hw101_1), ((HB.out.cell (zwb w _ hw103_0)).trans hw103_0), ((HB.out.cell (zwb w _ hw103_1)).trans hw103_1), ((HB.out.cell (zwb w _ hw104_0)).trans hw104_0), ((HB.out.cell (zwb w _ hw104_1)).trans hw104_1)⟩ (fun hHeld => ?_); refine with_tabW isobathref01_CheckSet.tab6 isobathref01_CheckSet.bits6 (fun HT_ HW_ => ?_)
          generalize wr.drew = w12 at HB hx101_0 hx101_1 hx103_0 hx103_1 hx104_0 hx104_1 hHeld ⊢
          refine pure_ (i := 0) (N := some 13) (v := ?_) (a' := ?_) #[true, false, false, false, false, false, false, false, false, false, false, false, false, false, false, false, false, false, false, false, false, false, false, false, false] rfl rfl (any_of HT_.out (by kernel_rfl)) (fun _ _ _ h => h) (Or.inl ⟨by rfl, ?_⟩) ?_ ?_
          rotate_left
          ·intro w'
           go_simp
           with_reducible rfl
          rotate_left
          ·simp only [Act.put, zsa, zsz, zss, i64_w, i32_w]
           rfl
          refine pure_ (i := 1) (N := some 14) (v := ?_) (a' := ?_) #[true, true, false, false, false, false, false, false, false, false, false, false, false, false, false, false, false, false, false, false, false, false, false, false, false] rfl rfl (any_of HT_.out (by kernel_rfl)) (fun _ _ _ h => h) (Or.inl ⟨by rfl, ?_⟩) ?_ ?_
          rotate_left
          ·intro w'
           go_simp
           with_reducible rfl
          rotate_left
          ·simp only [Act.put, zsa, zsz, zss, i64_w, i32_w]
           rfl
          refine pure_ (i := 2) (N := some 15) (v := ?_) (a' := ?_) #[true, true, true, false, false, false, false, false, false, false, false, false, false, false, false, false, false, false, false, false, false, false, false, false, false] rfl rfl (any_of HT_.out (by kernel_rfl)) (fun _ _ _ h => h) (Or.inl ⟨by rfl, ?_⟩) ?_ ?_
          rotate_left
          ·intro w'
           go_simp
           with_reducible rfl
          rotate_left
          ·simp only [Act.put, zsa, zsz, zss, i64_w, i32_w]
           rfl
          refine take_ (i := 3) (N := some 16) (v := ?_) (a' := ?_) #[true, true, true, true, false, false, false, false, false, false, false, false, false, false, false, false, false, false, false, false, false, false, false, false, false] rfl rfl (take_ofW HT_.out HW_.out (by kernel_rfl)) (fun _ _ _ h => h) (Or.inl ⟨by rfl, ?_⟩) hHeld ?_ ?_
          rotate_left
          ·rintro w' ⟨s0, s1, s2, s3, s4, s5⟩
           go_simp
           with_reducible rfl
          rotate_left
          ·simp only [Act.put, zsa, zsz, zss, i64_w, i32_w]
           rfl
          refine one_ (i := 4) (N := some 17) #[true, true, true, true, true, false, false, false, false, false, false, false, false, false, false, false, false, false, false, false, false, false, false, false, false] rfl rfl (one_of HT_.out (by kernel_rfl)) (by decide) (fun K hK => ?_)
          refine goes_ Try.func22 (by kernel_rfl) rfl #[.agg #[.int .i64 ((rd_T32 l0 x3_1).f0), .int .i64 ((rd_T32 l0 x3_1).f1)]] (by rfl) rfl rfl (by (try simp only [zmt, List.map_cons, List.map_nil]); first | done | rfl | (simp only [zld, zlt]; rfl)) ?_
          with_reducible refine (isobathref01_Valid.calls ((rd_T32 l0 x3_1).f0) ((rd_T32 l0 x3_1).f1) true _ A5.out).mono ?_
          rintro e w13 ⟨rfl, hb⟩
          refine ⟨_, rfl, ?_⟩
          have n0_ := zam (zbt (by repeat (first | (with_reducible first | exact HB.out | apply zba | apply zbn | apply zb1) | exact HB.out)) hb)
          clear HB
          have HB := n0_
          clear n0_
          (try clear hb)
          (try clear hb2)
          (try clear hk)
          (try clear hi)
          refine hK.out _ _ ⟨((HB.out.cell (zwb w _ hw101_0)).trans hw101_0), ((HB.out.cell (zwb w _ hw101_1)).trans hw101_1), ((HB.out.cell (zwb w _ hw103_0)).trans hw103_0), ((HB.out.cell (zwb w _ hw103_1)).trans hw103_1), ((HB.out.cell (zwb w _ hw104_0)).trans hw104_0), ((HB.out.cell (zwb w _ hw104_1)).trans hw104_1)⟩ (fun hHeld => ?_)
          clear hK K
          refine norm_ (a' := ?_) ?_ ?_
          rotate_left
          ·show Act.put _ (some 17) _ = _
           simp only [Act.put, zsa, zsz, zss, i64_w, i32_w]
           rfl
          refine pure_ (i := 5) (N := some 18) (v := ?_) (a' := ?_) #[true, true, true, true, true, true, false, false, false, false, false, false, false, false, false, false, false, false, false, false, false, false, false, false, false] rfl rfl (any_of HT_.out (by kernel_rfl)) (fun _ _ _ h => h) (Or.inl ⟨by rfl, ?_⟩) ?_ ?_
          rotate_left
          ·intro w'
           go_simp
           with_reducible rfl
          rotate_left
          ·simp only [Act.put, zsa, zsz, zss, i64_w, i32_w]
           rfl
          refine pure_ (i := 6) (N := some 19) (v := ?_) (a' := ?_) #[true, true, true, true, true, true, true, false, false, false, false, false, false, false, false, false, false, false, false, false, false, false, false, false, false] rfl rfl (any_of HT_.out (by kernel_rfl)) (fun _ _ _ h => h) (Or.inl ⟨by rfl, ?_⟩) ?_ ?_
          rotate_left
          ·intro w'
           go_simp
           with_reducible rfl
          rotate_left
          ·simp only [Act.put, zsa, zsz, zss, i64_w, i32_w]
           rfl
          refine pure_ (i := 7) (N := some 20) (v := ?_) (a' := ?_) #[true, true, true, true, true, true, true, true, false, false, false, false, false, false, false, false, false, false, false, false, false, false, false, false, false] rfl rfl (any_of HT_.out (by kernel_rfl)) (fun _ _ _ h => h) (Or.inl ⟨by rfl, ?_⟩) ?_ ?_
          rotate_left
          ·intro w'
           go_simp
           with_reducible rfl
          rotate_left
          ·simp only [Act.put, zsa, zsz, zss, i64_w, i32_w]
           rfl
          refine pure_ (i := 8) (N := some 21) (v := ?_) (a' := ?_) #[true, true, true, true, true, true, true, true, true, false, false, false, false, false, false, false, false, false, false, false, false, false, false, false, false] rfl rfl (any_of HT_.out (by kernel_rfl)) (fun _ _ _ h => h) (Or.inl ⟨by rfl, ?_⟩) ?_ ?_
          rotate_left
          ·intro w'
           go_simp
           with_reducible rfl
          rotate_left
          ·simp only [Act.put, zsa, zsz, zss, i64_w, i32_w]
           rfl
          refine pure_ (i := 9) (N := some 22) (v := ?_) (a' := ?_) #[true, true, true, true, true, true, true, true, true, true, false, false, false, false, false, false, false, false, false, false, false, false, false, false, false] rfl rfl (any_of HT_.out (by kernel_rfl)) (fun _ _ _ h => h) (Or.inl ⟨by rfl, ?_⟩) ?_ ?_
          rotate_left
          ·intro w'
           go_simp
           with_reducible rfl
          rotate_left
          ·simp only [Act.put, zsa, zsz, zss, i64_w, i32_w]
           rfl
          refine pure_ (i := 10) (N := some 23) (v := ?_) (a' := ?_) #[true, true, true, true, true, true, true, true, true, true, true, false, false, false, false, false, false, false, false, false, false, false, false, false, false] rfl rfl (any_of HT_.out (by kernel_rfl)) (fun _ _ _ h => h) (Or.inl ⟨by rfl, ?_⟩) ?_ ?_
          rotate_left
          ·intro w'
           go_simp
           with_reducible rfl
          rotate_left
          ·simp only [Act.put, zsa, zsz, zss, i64_w, i32_w]
           rfl
          refine pure_ (i := 11) (N := some 24) (v := ?_) (a' := ?_) #[true, true, true, true, true, true, true, true, true, true, true, true, false, false, false, false, false, false, false, false, false, false, false, false, false] rfl rfl (any_of HT_.out (by kernel_rfl)) (fun _ _ _ h => h) (Or.inl ⟨by rfl, ?_⟩) ?_ ?_
          rotate_left
          ·intro w'
           go_simp
           with_reducible rfl
          rotate_left
          ·simp only [Act.put, zsa, zsz, zss, i64_w, i32_w]
           rfl
          refine pure_ (i := 12) (N := some 25) (v := ?_) (a' := ?_) #[true, true, true, true, true, true, true, true, true, true, true, true, true, false, false, false, false, false, false, false, false, false, false, false, false] rfl rfl (any_of HT_.out (by kernel_rfl)) (fun _ _ _ h => h) (Or.inl ⟨by rfl, ?_⟩) ?_ ?_
          rotate_left
          ·intro w'
           go_simp
           with_reducible rfl
          rotate_left
          ·simp only [Act.put, zsa, zsz, zss, i64_w, i32_w]
           rfl
          refine pure_ (i := 13) (N := some 26) (v := ?_) (a' := ?_) #[true, true, true, true, true, true, true, true, true, true, true, true, true, true, false, false, false, false, false, false, false, false, false, false, false] rfl rfl (any_of HT_.out (by kernel_rfl)) (fun _ _ _ h => h) (Or.inl ⟨by rfl, ?_⟩) ?_ ?_
          rotate_left
          ·intro w'
           go_simp
           with_reducible rfl
          rotate_left
          ·simp only [Act.put, zsa, zsz, zss, i64_w, i32_w]
           rfl
          refine pure_ (i := 15) (N := some 28) (v := ?_) (a' := ?_) #[true, true, true, true, true, true, true, true, true, true, true, true, true, true, false, true, false, false, false, false, false, false, false, false, false] rfl rfl (any_of HT_.out (by kernel_rfl)) (fun _ _ _ h => h) (Or.inl ⟨by rfl, ?_⟩) ?_ ?_
          rotate_left
          ·intro w'
           go_simp
           with_reducible rfl
          rotate_left
          ·simp only [Act.put, zsa, zsz, zss, i64_w, i32_w]
           rfl
          refine pure_ (i := 16) (N := some 29) (v := ?_) (a' := ?_) #[true, true, true, true, true, true, true, true, true, true, true, true, true, true, false, true, true, false, false, false, false, false, false, false, false] rfl rfl (any_of HT_.out (by kernel_rfl)) (fun _ _ _ h => h) (Or.inl ⟨by rfl, ?_⟩) ?_ ?_
          rotate_left
          ·intro w'
           go_simp
           with_reducible rfl
          rotate_left
          ·simp only [Act.put, zsa, zsz, zss, i64_w, i32_w]
           rfl
          refine pure_ (i := 17) (N := some 30) (v := ?_) (a' := ?_) #[true, true, true, true, true, true, true, true, true, true, true, true, true, true, false, true, true, true, false, false, false, false, false, false, false] rfl rfl (any_of HT_.out (by kernel_rfl)) (fun _ _ _ h => h) (Or.inl ⟨by rfl, ?_⟩) ?_ ?_
          rotate_left
          ·intro w'
           go_simp
           with_reducible rfl
          rotate_left
          ·simp only [Act.put, zsa, zsz, zss, i64_w, i32_w]
           rfl
          refine pure_ (i := 18) (N := some 31) (v := ?_) (a' := ?_) #[true, true, true, true, true, true, true, true, true, true, true, true, true, true, false, true, true, true, true, false, false, false, false, false, false] rfl rfl (any_of HT_.out (by kernel_rfl)) (fun _ _ _ h => h) (Or.inl ⟨by rfl, ?_⟩) ?_ ?_
          rotate_left
          ·intro w'
           go_simp
           with_reducible rfl
          rotate_left
          ·simp only [Act.put, zsa, zsz, zss, i64_w, i32_w]
           rfl
          refine pure_ (i := 19) (N := some 32) (v := ?_) (a' := ?_) #[true, true, true, true, true, true, true, true, true, true, true, true, true, true, false, true, true, true, true, true, false, false, false, false, false] rfl rfl (any_of HT_.out (by kernel_rfl)) (fun _ _ _ h => h) (Or.inl ⟨by rfl, ?_⟩) ?_ ?_
          rotate_left
          ·intro w'
           go_simp
           with_reducible rfl
          rotate_left
          ·simp only [Act.put, zsa, zsz, zss, i64_w, i32_w]
           rfl
          refine take_ (i := 14) (N := some 27) (v := ?_) (a' := ?_) #[true, true, true, true, true, true, true, true, true, true, true, true, true, true, true, true, true, true, true, true, false, false, false, false, false] rfl rfl (take_ofW HT_.out HW_.out (by kernel_rfl)) (fun _ _ _ h => h) (Or.inl ⟨by rfl, ?_⟩) hHeld ?_ ?_
          rotate_left
          ·rintro w' ⟨s0, s1, s2, s3, s4, s5⟩
           go_simp
           with_reducible rfl
          rotate_left
          ·simp only [Act.put, zsa, zsz, zss, i64_w, i32_w]
           rfl
          refine take_ (i := 20) (N := some 33) (v := ?_) (a' := ?_) #[true, true, true, true, true, true, true, true, true, true, true, true, true, true, true, true, true, true, true, true, true, false, false, false, false] rfl rfl (take_ofW HT_.out HW_.out (by kernel_rfl)) (fun _ _ _ h => h) (Or.inl ⟨by rfl, ?_⟩) hHeld ?_ ?_
          rotate_left
          ·rintro w' ⟨s0, s1, s2, s3, s4, s5⟩
           go_simp
           with_reducible rfl
          rotate_left
          ·simp only [Act.put, zsa, zsz, zss, i64_w, i32_w]
           rfl
          refine pure_ (i := 21) (N := some 34) (v := ?_) (a' := ?_) #[true, true, true, true, true, true, true, true, true, true, true, true, true, true, true, true, true, true, true, true, true, true, false, false, false] rfl rfl (any_of HT_.out (by kernel_rfl)) (fun _ _ _ h => h) (Or.inl ⟨by rfl, ?_⟩) ?_ ?_
          rotate_left
          ·intro w'
           go_simp
           with_reducible rfl
          rotate_left
          ·simp only [Act.put, zsa, zsz, zss, i64_w, i32_w]
           rfl
          refine pure_ (i := 22) (N := some 35) (v := ?_) (a' := ?_) #[true, true, true, true, true, true, true, true, true, true, true, true, true, true, true, true, true, true, true, true, true, true, true, false, false] rfl rfl (any_of HT_.out (by kernel_rfl)) (fun _ _ _ h => h) (Or.inl ⟨by rfl, ?_⟩) ?_ ?_
          rotate_left
          ·intro w'
           go_simp
           with_reducible rfl
          rotate_left
          ·simp only [Act.put, zsa, zsz, zss, i64_w, i32_w]
           rfl
          refine pure_ (i := 23) (N := some 36) (v := ?_) (a' := ?_) #[true, true, true, true, true, true, true, true, true, true, true, true, true, true, true, true, true, true, true, true, true, true, true, true, false] rfl rfl (any_of HT_.out (by kernel_rfl)) (fun _ _ _ h => h) (Or.inl ⟨by rfl, ?_⟩) ?_ ?_
          rotate_left
          ·intro w'
           go_simp
           with_reducible rfl
          rotate_left
          ·simp only [Act.put, zsa, zsz, zss, i64_w, i32_w]
           rfl
          refine pure_ (i := 24) (N := some 37) (v := ?_) (a' := ?_) #[true, true, true, true, true, true, true, true, true, true, true, true, true, true, true, true, true, true, true, true, true, true, true, true, true] rfl rfl (any_of HT_.out (by kernel_rfl)) (fun _ _ _ h => h) (Or.inl ⟨by rfl, ?_⟩) ?_ ?_
          rotate_left
          ·intro w'
           go_simp
           with_reducible rfl
          rotate_left
          ·simp only [Act.put, zsa, zsz, zss, i64_w, i32_w]
           rfl
          refine done_ (done_of HT_.out (by kernel_rfl)) ?_
          try go_wp2
          go_ret
          exact ⟨by first | rfl | (simp [errW_none, errW_some] <;> rfl) | (simp only [← hji8]; first | rfl | (simp [errW_none, errW_some] <;> rfl)) | (simp [*, errW_none, errW_some] <;> rfl), by repeat (first | (with_reducible first | exact HB.out | apply zba | apply zbn | apply zb1) | exact HB.out)⟩
         rw [if_neg c11] at H
         have c11b0 : decide (((rd_T32 l0 x3_1).f0) < (wrap64 (((rd_T32 l0 (ji8)).f1) + 2))) = false := zdf c11
         clear c11
         have H' := zam H
         clear H
         try go_wp2
         have n0_ := zam (zb1 HB.out)
         clear HB
         have HB := n0_
         clear n0_
         have p101 : 0 ≤ (x3_1 : Int) := zod (by first | (with_reducible assumption) | assumption)
         have q101 : x3_1 < (l0.length : Int) := zod (by first | (with_reducible assumption) | assumption)
         obtain ⟨ad101, e101, hx101_0, hx101_1⟩ := at_T32 HR0.out x3_1 p101 q101
         have hw101_1 := hx101_1
         have hw101_0 := hx101_0
         cases e101
         replace hx101_0 := (HB.out.cell (zwb w _ hx101_0)).trans hx101_0
         replace hx101_1 := (HB.out.cell (zwb w _ hx101_1)).trans hx101_1
         replace p101 := eq_true p101
         replace q101 := eq_true q101
         have p103 : 0 ≤ (x3_1 : Int) := zod (by first | (with_reducible assumption) | assumption)
         have q103 : x3_1 < (l0.length : Int) := zod (by first | (with_reducible assumption) | assumption)
         obtain ⟨ad103, e103, hx103_0, hx103_1⟩ := at_T32 HR0.out x3_1 p103 q103
         have hw103_1 := hx103_1
         have hw103_0 := hx103_0
         obtain rfl : ad101 = ad103 := (by injection e103)
         replace hx103_0 := (HB.out.cell (zwb w _ hx103_0)).trans hx103_0
         replace hx103_1 := (HB.out.cell (zwb w _ hx103_1)).trans hx103_1
         replace p103 := eq_true p103
         replace q103 := eq_true q103
         have p104 : 0 ≤ ((ji8) : Int) := zod (by first | (with_reducible assumption) | assumption)
         have q104 : (ji8) < (l0.length : Int) := zod (by first | (with_reducible assumption) | assumption)
         obtain ⟨ad104, e104, hx104_0, hx104_1⟩ := at_T32 HR0.out (ji8) p104 q104
         have hw104_1 := hx104_1
         have hw104_0 := hx104_0
         obtain rfl : ad101 = ad104 := (by injection e104)
         replace hx104_0 := (HB.out.cell (zwb w _ hx104_0)).trans hx104_0
         replace hx104_1 := (HB.out.cell (zwb w _ hx104_1)).trans hx104_1
         replace p104 := eq_true p104
         replace q104 := eq_true q104
         refine start_ (n := 25) (S := fun w' => w'.cell? (ad101.add ((x3_1).toNat * 2)) = some (.int .i64 ((rd_T32 l0 x3_1).f0)) ∧ w'.cell? ⟨(ad101.add ((x3_1).toNat * 2)).block, (ad101.add ((x3_1).toNat * 2)).off + 1, none⟩ = some (.int .i64 ((rd_T32 l0 x3_1).f1)) ∧ w'.cell? (ad101.add ((x3_1).toNat * 2)) = some (.int .i64 ((rd_T32 l0 x3_1).f0)) ∧ w'.cell? ⟨(ad101.add ((x3_1).toNat * 2)).block, (ad101.add ((x3_1).toNat * 2)).off + 1, none⟩ = some (.int .i64 ((rd_T32 l0 x3_1).f1)) ∧ w'.cell? (ad101.add (((ji8)).toNat * 2)) = some (.int .i64 ((rd_T32 l0 (ji8)).f0)) ∧ w'.cell? ⟨(ad101.add (((ji8)).toNat * 2)).block, (ad101.add (((ji8)).toNat * 2)).off + 1, none⟩ = some (.int .i64 ((rd_T32 l0 (ji8)).f1))) (ds := []) #[false, false, false, false, false, false, false, false, false, false, false, false, false, false, false, false, false, false, false, false, false, false, false, false, false] (by kernel_rfl) rfl rfl ⟨((HB.out.cell (zwb w _ hw101_0)).trans hw101_0), ((HB.out.cell (zwb w _ hw101_1)).trans hw101_1), ((HB.out.cell (zwb w _ hw103_0)).trans hw103_0), ((HB.out.cell (zwb w _ hw103_1)).trans hw103_1), ((HB.out.cell (zwb w _ hw104_0)).trans hw104_0), ((HB.out.cell (zwb w _ hw104_1)).trans hw104_1)⟩ (fun hHeld => ?_); refine with_tabW isobathref01_CheckSet.tab6 isobathref01_CheckSet.bits6 (fun HT_ HW_ => ?_)
         generalize wr.drew = w14 at HB hx101_0 hx101_1 hx103_0 hx103_1 hx104_0 hx104_1 hHeld ⊢
         refine pure_ (i := 0) (N := some 13) (v := ?_) (a' := ?_) #[true, false, false, false, false, false, false, false, false, false, false, false, false, false, false, false, false, false, false, false, false, false, false, false, false] rfl rfl (any_of HT_.out (by kernel_rfl)) (fun _ _ _ h => h) (Or.inl ⟨by rfl, ?_⟩) ?_ ?_
         rotate_left
         ·intro w'
          go_simp
          with_reducible rfl
         rotate_left
         ·simp only [Act.put, zsa, zsz, zss, i64_w, i32_w]
          rfl
         refine pure_ (i := 1) (N := some 14) (v := ?_) (a' := ?_) #[true, true, false, false, false, false, false, false, false, false, false, false, false, false, false, false, false, false, false, false, false, false, false, false, false] rfl rfl (any_of HT_.out (by kernel_rfl)) (fun _ _ _ h => h) (Or.inl ⟨by rfl, ?_⟩) ?_ ?_
         rotate_left
         ·intro w'
          go_simp
          with_reducible rfl
         rotate_left
         ·simp only [Act.put, zsa, zsz, zss, i64_w, i32_w]
          rfl
         refine pure_ (i := 2) (N := some 15) (v := ?_) (a' := ?_) #[true, true, true, false, false, false, false, false, false, false, false, false, false, false, false, false, false, false, false, false, false, false, false, false, false] rfl rfl (any_of HT_.out (by kernel_rfl)) (fun _ _ _ h => h) (Or.inl ⟨by rfl, ?_⟩) ?_ ?_
         rotate_left
         ·intro w'
          go_simp
          with_reducible rfl
         rotate_left
         ·simp only [Act.put, zsa, zsz, zss, i64_w, i32_w]
          rfl
         refine take_ (i := 3) (N := some 16) (v := ?_) (a' := ?_) #[true, true, true, true, false, false, false, false, false, false, false, false, false, false, false, false, false, false, false, false, false, false, false, false, false] rfl rfl (take_ofW HT_.out HW_.out (by kernel_rfl)) (fun _ _ _ h => h) (Or.inl ⟨by rfl, ?_⟩) hHeld ?_ ?_
         rotate_left
         ·rintro w' ⟨s0, s1, s2, s3, s4, s5⟩
          go_simp
          with_reducible rfl
         rotate_left
         ·simp only [Act.put, zsa, zsz, zss, i64_w, i32_w]
          rfl
         refine one_ (i := 4) (N := some 17) #[true, true, true, true, true, false, false, false, false, false, false, false, false, false, false, false, false, false, false, false, false, false, false, false, false] rfl rfl (one_of HT_.out (by kernel_rfl)) (by decide) (fun K hK => ?_)
         refine goes_ Try.func22 (by kernel_rfl) rfl #[.agg #[.int .i64 ((rd_T32 l0 x3_1).f0), .int .i64 ((rd_T32 l0 x3_1).f1)]] (by rfl) rfl rfl (by (try simp only [zmt, List.map_cons, List.map_nil]); first | done | rfl | (simp only [zld, zlt]; rfl)) ?_
         with_reducible refine (isobathref01_Valid.calls ((rd_T32 l0 x3_1).f0) ((rd_T32 l0 x3_1).f1) true _ A5.out).mono ?_
         rintro e w15 ⟨rfl, hb⟩
         refine ⟨_, rfl, ?_⟩
         have n0_ := zam (zbt (by repeat (first | (with_reducible first | exact HB.out | apply zba | apply zbn | apply zb1) | exact HB.out)) hb)
         clear HB
         have HB := n0_
         clear n0_
         (try clear hb)
         (try clear hb2)
         (try clear hk)
         (try clear hi)
         refine hK.out _ _ ⟨((HB.out.cell (zwb w _ hw101_0)).trans hw101_0), ((HB.out.cell (zwb w _ hw101_1)).trans hw101_1), ((HB.out.cell (zwb w _ hw103_0)).trans hw103_0), ((HB.out.cell (zwb w _ hw103_1)).trans hw103_1), ((HB.out.cell (zwb w _ hw104_0)).trans hw104_0), ((HB.out.cell (zwb w _ hw104_1)).trans hw104_1)⟩ (fun hHeld => ?_)
         clear hK K
         refine norm_ (a' := ?_) ?_ ?_
         rotate_left
         ·show Act.put _ (some 17) _ = _
          simp only [Act.put, zsa, zsz, zss, i64_w, i32_w]
          rfl
         refine pure_ (i := 5) (N := some 18) (v := ?_) (a' := ?_) #[true, true, true, true, true, true, false, false, false, false, false, false, false, false, false, false, false, false, false, false, false, false, false, false, false] rfl rfl (any_of HT_.out (by kernel_rfl)) (fun _ _ _ h => h) (Or.inl ⟨by rfl, ?_⟩) ?_ ?_
         rotate_left
         ·intro w'
          go_simp
          with_reducible rfl
         rotate_left
         ·simp only [Act.put, zsa, zsz, zss, i64_w, i32_w]
          rfl
         refine pure_ (i := 6) (N := some 19) (v := ?_) (a' := ?_) #[true, true, true, true, true, true, true, false, false, false, false, false, false, false, false, false, false, false, false, false, false, false, false, false, false] rfl rfl (any_of HT_.out (by kernel_rfl)) (fun _ _ _ h => h) (Or.inl ⟨by rfl, ?_⟩) ?_ ?_
         rotate_left
         ·intro w'
          go_simp
          with_reducible rfl
         rotate_left
         ·simp only [Act.put, zsa, zsz, zss, i64_w, i32_w]
          rfl
         refine pure_ (i := 7) (N := some 20) (v := ?_) (a' := ?_) #[true, true, true, true, true, true, true, true, false, false, false, false, false, false, false, false, false, false, false, false, false, false, false, false, false] rfl rfl (any_of HT_.out (by kernel_rfl)) (fun _ _ _ h => h) (Or.inl ⟨by rfl, ?_⟩) ?_ ?_
         rotate_left
         ·intro w'
          go_simp
          with_reducible rfl
         rotate_left
         ·simp only [Act.put, zsa, zsz, zss, i64_w, i32_w]
          rfl
         refine pure_ (i := 8) (N := some 21) (v := ?_) (a' := ?_) #[true, true, true, true, true, true, true, true, true, false, false, false, false, false, false, false, false, false, false, false, false, false, false, false, false] rfl rfl (any_of HT_.out (by kernel_rfl)) (fun _ _ _ h => h) (Or.inl ⟨by rfl, ?_⟩) ?_ ?_
         rotate_left
         ·intro w'
          go_simp
          with_reducible rfl
         rotate_left
         ·simp only [Act.put, zsa, zsz, zss, i64_w, i32_w]
          rfl
         refine pure_ (i := 9) (N := some 22) (v := ?_) (a' := ?_) #[true, true, true, true, true, true, true, true, true, true, false, false, false, false, false, false, false, false, false, false, false, false, false, false, false] rfl rfl (any_of HT_.out (by kernel_rfl)) (fun _ _ _ h => h) (Or.inl ⟨by rfl, ?_⟩) ?_ ?_
         rotate_left
         ·intro w'
          go_simp
          with_reducible rfl
         rotate_left
         ·simp only [Act.put, zsa, zsz, zss, i64_w, i32_w]
          rfl
         refine pure_ (i := 10) (N := some 23) (v := ?_) (a' := ?_) #[true, true, true, true, true, true, true, true, true, true, true, false, false, false, false, false, false, false, false, false, false, false, false, false, false] rfl rfl (any_of HT_.out (by kernel_rfl)) (fun _ _ _ h => h) (Or.inl ⟨by rfl, ?_⟩) ?_ ?_
         rotate_left
         ·intro w'
          go_simp
          with_reducible rfl
         rotate_left
         ·simp only [Act.put, zsa, zsz, zss, i64_w, i32_w]
          rfl
         refine pure_ (i := 11) (N := some 24) (v := ?_) (a' := ?_) #[true, true, true, true, true, true, true, true, true, true, true, true, false, false, false, false, false, false, false, false, false, false, false, false, false] rfl rfl (any_of HT_.out (by kernel_rfl)) (fun _ _ _ h => h) (Or.inl ⟨by rfl, ?_⟩) ?_ ?_
         rotate_left
         ·intro w'
          go_simp
          with_reducible rfl
         rotate_left
         ·simp only [Act.put, zsa, zsz, zss, i64_w, i32_w]
          rfl
         refine pure_ (i := 12) (N := some 25) (v := ?_) (a' := ?_) #[true, true, true, true, true, true, true, true, true, true, true, true, true, false, false, false, false, false, false, false, false, false, false, false, false] rfl rfl (any_of HT_.out (by kernel_rfl)) (fun _ _ _ h => h) (Or.inl ⟨by rfl, ?_⟩) ?_ ?_
         rotate_left
         ·intro w'
          go_simp
          with_reducible rfl
         rotate_left
         ·simp only [Act.put, zsa, zsz, zss, i64_w, i32_w]
          rfl
         refine pure_ (i := 13) (N := some 26) (v := ?_) (a' := ?_) #[true, true, true, true, true, true, true, true, true, true, true, true, true, true, false, false, false, false, false, false, false, false, false, false, false] rfl rfl (any_of HT_.out (by kernel_rfl)) (fun _ _ _ h => h) (Or.inl ⟨by rfl, ?_⟩) ?_ ?_
         rotate_left
         ·intro w'
          go_simp
          with_reducible rfl
         rotate_left
         ·simp only [Act.put, zsa, zsz, zss, i64_w, i32_w]
          rfl
         refine pure_ (i := 15) (N := some 28) (v := ?_) (a' := ?_) #[true, true, true, true, true, true, true, true, true, true, true, true, true, true, false, true, false, false, false, false, false, false, false, false, false] rfl rfl (any_of HT_.out (by kernel_rfl)) (fun _ _ _ h => h) (Or.inl ⟨by rfl, ?_⟩) ?_ ?_
         rotate_left
         ·intro w'
          go_simp
          with_reducible rfl
         rotate_left
         ·simp only [Act.put, zsa, zsz, zss, i64_w, i32_w]
          rfl
         refine pure_ (i := 16) (N := some 29) (v := ?_) (a' := ?_) #[true, true, true, true, true, true, true, true, true, true, true, true, true, true, false, true, true, false, false, false, false, false, false, false, false] rfl rfl (any_of HT_.out (by kernel_rfl)) (fun _ _ _ h => h) (Or.inl ⟨by rfl, ?_⟩) ?_ ?_
         rotate_left
         ·intro w'
          go_simp
          with_reducible rfl
         rotate_left
         ·simp only [Act.put, zsa, zsz, zss, i64_w, i32_w]
          rfl
         refine pure_ (i := 17) (N := some 30) (v := ?_) (a' := ?_) #[true, true, true, true, true, true, true, true, true, true, true, true, true, true, false, true, true, true, false, false, false, false, false, false, false] rfl rfl (any_of HT_.out (by kernel_rfl)) (fun _ _ _ h => h) (Or.inl ⟨by rfl, ?_⟩) ?_ ?_
         rotate_left
         ·intro w'
          go_simp
          with_reducible rfl
         rotate_left
         ·simp only [Act.put, zsa, zsz, zss, i64_w, i32_w]
          rfl
         refine pure_ (i := 18) (N := some 31) (v := ?_) (a' := ?_) #[true, true, true, true, true, true, true, true, true, true, true, true, true, true, false, true, true, true, true, false, false, false, false, false, false] rfl rfl (any_of HT_.out (by kernel_rfl)) (fun _ _ _ h => h) (Or.inl ⟨by rfl, ?_⟩) ?_ ?_
         rotate_left
         ·intro w'
          go_simp
          with_reducible rfl
         rotate_left
         ·simp only [Act.put, zsa, zsz, zss, i64_w, i32_w]
          rfl
         refine pure_ (i := 19) (N := some 32) (v := ?_) (a' := ?_) #[true, true, true, true, true, true, true, true, true, true, true, true, true, true, false, true, true, true, true, true, false, false, false, false, false] rfl rfl (any_of HT_.out (by kernel_rfl)) (fun _ _ _ h => h) (Or.inl ⟨by rfl, ?_⟩) ?_ ?_
         rotate_left
         ·intro w'
          go_simp
          with_reducible rfl
         rotate_left
         ·simp only [Act.put, zsa, zsz, zss, i64_w, i32_w]
          rfl
         refine take_ (i := 14) (N := some 27) (v := ?_) (a' := ?_) #[true, true, true, true, true, true, true, true, true, true, true, true, true, true, true, true, true, true, true, true, false, false, false, false, false] rfl rfl (take_ofW HT_.out HW_.out (by kernel_rfl)) (fun _ _ _ h => h) (Or.inl ⟨by rfl, ?_⟩) hHeld ?_ ?_
         rotate_left
         ·rintro w' ⟨s0, s1, s2, s3, s4, s5⟩
          go_simp
          with_reducible rfl
         rotate_left
         ·simp only [Act.put, zsa, zsz, zss, i64_w, i32_w]
          rfl
         refine take_ (i := 20) (N := some 33) (v := ?_) (a' := ?_) #[true, true, true, true, true, true, true, true, true, true, true, true, true, true, true, true, true, true, true, true, true, false, false, false, false] rfl rfl (take_ofW HT_.out HW_.out (by kernel_rfl)) (fun _ _ _ h => h) (Or.inl ⟨by rfl, ?_⟩) hHeld ?_ ?_
         rotate_left
         ·rintro w' ⟨s0, s1, s2, s3, s4, s5⟩
          go_simp
          with_reducible rfl
         rotate_left
         ·simp only [Act.put, zsa, zsz, zss, i64_w, i32_w]
          rfl
         refine pure_ (i := 21) (N := some 34) (v := ?_) (a' := ?_) #[true, true, true, true, true, true, true, true, true, true, true, true, true, true, true, true, true, true, true, true, true, true, false, false, false] rfl rfl (any_of HT_.out (by kernel_rfl)) (fun _ _ _ h => h) (Or.inl ⟨by rfl, ?_⟩) ?_ ?_
         rotate_left
         ·intro w'
          go_simp
          with_reducible rfl
         rotate_left
         ·simp only [Act.put, zsa, zsz, zss, i64_w, i32_w]
          rfl
         refine pure_ (i := 22) (N := some 35) (v := ?_) (a' := ?_) #[true, true, true, true, true, true, true, true, true, true, true, true, true, true, true, true, true, true, true, true, true, true, true, false, false] rfl rfl (any_of HT_.out (by kernel_rfl)) (fun _ _ _ h => h) (Or.inl ⟨by rfl, ?_⟩) ?_ ?_
         rotate_left
         ·intro w'
          go_simp
          with_reducible rfl
         rotate_left
         ·simp only [Act.put, zsa, zsz, zss, i64_w, i32_w]
          rfl
         refine pure_ (i := 23) (N := some 36) (v := ?_) (a' := ?_) #[true, true, true, true, true, true, true, true, true, true, true, true, true, true, true, true, true, true, true, true, true, true, true, true, false] rfl rfl (any_of HT_.out (by kernel_rfl)) (fun _ _ _ h => h) (Or.inl ⟨by rfl, ?_⟩) ?_ ?_
         rotate_left
         ·intro w'
          go_simp
          with_reducible rfl
         rotate_left
         ·simp only [Act.put, zsa, zsz, zss, i64_w, i32_w]
          rfl
         refine pure_ (i := 24) (N := some 37) (v := ?_) (a' := ?_) #[true, true, true, true, true, true, true, true, true, true, true, true, true, true, true, true, true, true, true, true, true, true, true, true, true] rfl rfl (any_of HT_.out (by kernel_rfl)) (fun _ _ _ h => h) (Or.inl ⟨by rfl, ?_⟩) ?_ ?_
         rotate_left
         ·intro w'
          go_simp
          with_reducible rfl
         rotate_left
         ·simp only [Act.put, zsa, zsz, zss, i64_w, i32_w]
          rfl
         refine done_ (done_of HT_.out (by kernel_rfl)) ?_
         try go_wp2
         go_roundg k1
         case measure => have := HK1.out; omega
         case rel => exact ⟨(wrap64 (x3_1 + 1)), (by first | rfl | (simp; done) | (simp [*]; done)), H', ⟨by have := HK1.out; omega⟩, ⟨by repeat (first | (with_reducible first | exact HB.out | apply zba | apply zbn | apply zb1) | exact HB.out)⟩⟩
        rw [if_neg c10] at H
        exact absurd H (by simp)
       rw [if_neg c9] at H
       exact absurd H (by simp)
      rw [if_neg c7] at H
      have c7b0 : decide (0 < x3_1) = false := zdf c7
      clear c7
      have H' := zam H
      clear H
      try go_wp2
      have n0_ := zam (zb1 HB.out)
      clear HB
      have HB := n0_
      clear n0_
      have p101 : 0 ≤ (x3_1 : Int) := zod (by first | (with_reducible assumption) | assumption)
      have q101 : x3_1 < (l0.length : Int) := zod (by first | (with_reducible assumption) | assumption)
      obtain ⟨ad101, e101, hx101_0, hx101_1⟩ := at_T32 HR0.out x3_1 p101 q101
      have hw101_1 := hx101_1
      have hw101_0 := hx101_0
      cases e101
      replace hx101_0 := (HB.out.cell (zwb w _ hx101_0)).trans hx101_0
      replace hx101_1 := (HB.out.cell (zwb w _ hx101_1)).trans hx101_1
      replace p101 := eq_true p101
      replace q101 := eq_true q101
      refine start_ (n := 25) (S := fun w' => w'.cell? (ad101.add ((x3_1).toNat * 2)) = some (.int .i64 ((rd_T32 l0 x3_1).f0)) ∧ w'.cell? ⟨(ad101.add ((x3_1).toNat * 2)).block, (ad101.add ((x3_1).toNat * 2)).off + 1, none⟩ = some (.int .i64 ((rd_T32 l0 x3_1).f1))) (ds := []) #[false, false, false, false, false, false, false, false, false, false, false, false, false, false, false, false, false, false, false, false, false, false, false, false, false] (by kernel_rfl) rfl rfl ⟨((HB.out.cell (zwb w _ hw101_0)).trans hw101_0), ((HB.out.cell (zwb w _ hw101_1)).trans hw101_1)⟩ (fun hHeld => ?_); refine with_tabW isobathref01_CheckSet.tab6 isobathref01_CheckSet.bits6 (fun HT_ HW_ => ?_)
      generalize wr.drew = w16 at HB hx101_0 hx101_1 hHeld ⊢
      refine pure_ (i := 0) (N := some 13) (v := ?_) (a' := ?_) #[true, false, false, false, false, false, false, false, false, false, false, false, false, false, false, false, false, false, false, false, false, false, false, false, false] rfl rfl (any_of HT_.out (by kernel_rfl)) (fun _ _ _ h => h) (Or.inl ⟨by rfl, ?_⟩) ?_ ?_
      rotate_left
      ·intro w'
       go_simp
       with_reducible rfl
      rotate_left
      ·simp only [Act.put, zsa, zsz, zss, i64_w, i32_w]
       rfl
      refine pure_ (i := 1) (N := some 14) (v := ?_) (a' := ?_) #[true, true, false, false, false, false, false, false, false, false, false, false, false, false, false, false, false, false, false, false, false, false, false, false, false] rfl rfl (any_of HT_.out (by kernel_rfl)) (fun _ _ _ h => h) (Or.inl ⟨by rfl, ?_⟩) ?_ ?_
      rotate_left
      ·intro w'
       go_simp
       with_reducible rfl
      rotate_left
      ·simp only [Act.put, zsa, zsz, zss, i64_w, i32_w]
       rfl
      refine pure_ (i := 2) (N := some 15) (v := ?_) (a' := ?_) #[true, true, true, false, false, false, false, false, false, false, false, false, false, false, false, false, false, false, false, false, false, false, false, false, false] rfl rfl (any_of HT_.out (by kernel_rfl)) (fun _ _ _ h => h) (Or.inl ⟨by rfl, ?_⟩) ?_ ?_
      rotate_left
      ·intro w'
       go_simp
       with_reducible rfl
      rotate_left
      ·simp only [Act.put, zsa, zsz, zss, i64_w, i32_w]
       rfl
      refine take_ (i := 3) (N := some 16) (v := ?_) (a' := ?_) #[true, true, true, true, false, false, false, false, false, false, false, false, false, false, false, false, false, false, false, false, false, false, false, false, false] rfl rfl (take_ofW HT_.out HW_.out (by kernel_rfl)) (fun _ _ _ h => h) (Or.inl ⟨by rfl, ?_⟩) hHeld ?_ ?_
      rotate_left
      ·rintro w' ⟨s0, s1⟩
       go_simp
       with_reducible rfl
      rotate_left
      ·simp only [Act.put, zsa, zsz, zss, i64_w, i32_w]
       rfl
      refine one_ (i := 4) (N := some 17) #[true, true, true, true, true, false, false, false, false, false, false, false, false, false, false, false, false, false, false, false, false, false, false, false, false] rfl rfl (one_of HT_.out (by kernel_rfl)) (by decide) (fun K hK => ?_)
      refine goes_ Try.func22 (by kernel_rfl) rfl #[.agg #[.int .i64 ((rd_T32 l0 x3_1).f0), .int .i64 ((rd_T32 l0 x3_1).f1)]] (by rfl) rfl rfl (by (try simp only [zmt, List.map_cons, List.map_nil]); first | done | rfl | (simp only [zld, zlt]; rfl)) ?_
      with_reducible refine (isobathref01_Valid.calls ((rd_T32 l0 x3_1).f0) ((rd_T32 l0 x3_1).f1) true _ A5.out).mono ?_
      rintro e w17 ⟨rfl, hb⟩
      refine ⟨_, rfl, ?_⟩
      have n0_ := zam (zbt (by repeat (first | (with_reducible first | exact HB.out | apply zba | apply zbn | apply zb1) | exact HB.out)) hb)
      clear HB
      have HB := n0_
      clear n0_
      (try clear hb)
      (try clear hb2)
      (try clear hk)
      (try clear hi)
      refine hK.out _ _ ⟨((HB.out.cell (zwb w _ hw101_0)).trans hw101_0), ((HB.out.cell (zwb w _ hw101_1)).trans hw101_1)⟩ (fun hHeld => ?_)
      clear hK K
      refine norm_ (a' := ?_) ?_ ?_
      rotate_left
      ·show Act.put _ (some 17) _ = _
       simp only [Act.put, zsa, zsz, zss, i64_w, i32_w]
       rfl
      refine pure_ (i := 5) (N := some 18) (v := ?_) (a' := ?_) #[true, true, true, true, true, true, false, false, false, false, false, false, false, false, false, false, false, false, false, false, false, false, false, false, false] rfl rfl (any_of HT_.out (by kernel_rfl)) (fun _ _ _ h => h) (Or.inl ⟨by rfl, ?_⟩) ?_ ?_
      rotate_left
      ·intro w'
       go_simp
       with_reducible rfl
      rotate_left
      ·simp only [Act.put, zsa, zsz, zss, i64_w, i32_w]
       rfl
      refine pure_ (i := 6) (N := some 19) (v := ?_) (a' := ?_) #[true, true, true, true, true, true, true, false, false, false, false, false, false, false, false, false, false, false, false, false, false, false, false, false, false] rfl rfl (any_of HT_.out (by kernel_rfl)) (fun _ _ _ h => h) (Or.inl ⟨by rfl, ?_⟩) ?_ ?_
      rotate_left
      ·intro w'
       go_simp
       with_reducible rfl
      rotate_left
      ·simp only [Act.put, zsa, zsz, zss, i64_w, i32_w]
       rfl
      refine pure_ (i := 7) (N := some 20) (v := ?_) (a' := ?_) #[true, true, true, true, true, true, true, true, false, false, false, false, false, false, false, false, false, false, false, false, false, false, false, false, false] rfl rfl (any_of HT_.out (by kernel_rfl)) (fun _ _ _ h => h) (Or.inl ⟨by rfl, ?_⟩) ?_ ?_
      rotate_left
      ·intro w'
       go_simp
       with_reducible rfl
      rotate_left
      ·simp only [Act.put, zsa, zsz, zss, i64_w, i32_w]
       rfl
      refine pure_ (i := 8) (N := some 21) (v := ?_) (a' := ?_) #[true, true, true, true, true, true, true, true, true, false, false, false, false, false, false, false, false, false, false, false, false, false, false, false, false] rfl rfl (any_of HT_.out (by kernel_rfl)) (fun _ _ _ h => h) (Or.inl ⟨by rfl, ?_⟩) ?_ ?_
      rotate_left
      ·intro w'
       go_simp
       with_reducible rfl
      rotate_left
      ·simp only [Act.put, zsa, zsz, zss, i64_w, i32_w]
       rfl
      refine pure_ (i := 9) (N := some 22) (v := ?_) (a' := ?_) #[true, true, true, true, true, true, true, true, true, true, false, false, false, false, false, false, false, false, false, false, false, false, false, false, false] rfl rfl (any_of HT_.out (by kernel_rfl)) (fun _ _ _ h => h) (Or.inl ⟨by rfl, ?_⟩) ?_ ?_
      rotate_left
      ·intro w'
       go_simp
       with_reducible rfl
      rotate_left
      ·simp only [Act.put, zsa, zsz, zss, i64_w, i32_w]
       rfl
      refine pure_ (i := 10) (N := some 23) (v := undef) (a' := ?_) #[true, true, true, true, true, true, true, true, true, true, true, false, false, false, false, false, false, false, false, false, false, false, false, false, false] rfl rfl (any_of HT_.out (by kernel_rfl)) (fun _ _ _ h => h) (Or.inr ⟨by rfl, rfl⟩) ?_ ?_
      rotate_left
      ·simp only [Act.put, zsa, zsz, zss, i64_w, i32_w]
       rfl
      refine pure_ (i := 11) (N := some 24) (v := undef) (a' := ?_) #[true, true, true, true, true, true, true, true, true, true, true, true, false, false, false, false, false, false, false, false, false, false, false, false, false] rfl rfl (any_of HT_.out (by kernel_rfl)) (fun _ _ _ h => h) (Or.inr ⟨by rfl, rfl⟩) ?_ ?_
      rotate_left
      ·simp only [Act.put, zsa, zsz, zss, i64_w, i32_w]
       rfl
      refine pure_ (i := 12) (N := some 25) (v := undef) (a' := ?_) #[true, true, true, true, true, true, true, true, true, true, true, true, true, false, false, false, false, false, false, false, false, false, false, false, false] rfl rfl (any_of HT_.out (by kernel_rfl)) (fun _ _ _ h => h) (Or.inr ⟨by rfl, rfl⟩) ?_ ?_
      rotate_left
      ·simp only [Act.put, zsa, zsz, zss, i64_w, i32_w]
       rfl
      refine pure_ (i := 13) (N := some 26) (v := undef) (a' := ?_) #[true, true, true, true, true, true, true, true, true, true, true, true, true, true, false, false, false, false, false, false, false, false, false, false, false] rfl rfl (any_of HT_.out (by kernel_rfl)) (fun _ _ _ h => h) (Or.inr ⟨by rfl, rfl⟩) ?_ ?_
      rotate_left
      ·simp only [Act.put, zsa, zsz, zss, i64_w, i32_w]
       rfl
      refine pure_ (i := 14) (N := some 27) (v := undef) (a' := ?_) #[true, true, true, true, true, true, true, true, true, true, true, true, true, true, true, false, false, false, false, false, false, false, false, false, false] rfl rfl (any_of HT_.out (by kernel_rfl)) (fun _ _ _ h => h) (Or.inr ⟨by rfl, rfl⟩) ?_ ?_
      rotate_left
      ·simp only [Act.put, zsa, zsz, zss, i64_w, i32_w]
       rfl
      refine pure_ (i := 15) (N := some 28) (v := undef) (a' := ?_) #[true, true, true, true, true, true, true, true, true, true, true, true, true, true, true, true, false, false, false, false, false, false, false, false, false] rfl rfl (any_of HT_.out (by kernel_rfl)) (fun _ _ _ h => h) (Or.inr ⟨by rfl, rfl⟩) ?_ ?_
      rotate_left
      ·simp only [Act.put, zsa, zsz, zss, i64_w, i32_w]
       rfl
      refine pure_ (i := 16) (N := some 29) (v := undef) (a' := ?_) #[true, true, true, true, true, true, true, true, true, true, true, true, true, true, true, true, true, false, false, false, false, false, false, false, false] rfl rfl (any_of HT_.out (by kernel_rfl)) (fun _ _ _ h => h) (Or.inr ⟨by rfl, rfl⟩) ?_ ?_
      rotate_left
      ·simp only [Act.put, zsa, zsz, zss, i64_w, i32_w]
       rfl
      refine pure_ (i := 17) (N := some 30) (v := undef) (a' := ?_) #[true, true, true, true, true, true, true, true, true, true, true, true, true, true, true, true, true, true, false, false, false, false, false, false, false] rfl rfl (any_of HT_.out (by kernel_rfl)) (fun _ _ _ h => h) (Or.inr ⟨by rfl, rfl⟩) ?_ ?_
      rotate_left
      ·simp only [Act.put, zsa, zsz, zss, i64_w, i32_w]
       rfl
      refine pure_ (i := 18) (N := some 31) (v := undef) (a' := ?_) #[true, true, true, true, true, true, true, true, true, true, true, true, true, true, true, true, true, true, true, false, false, false, false, false, false] rfl rfl (any_of HT_.out (by kernel_rfl)) (fun _ _ _ h => h) (Or.inr ⟨by rfl, rfl⟩) ?_ ?_
      rotate_left
      ·simp only [Act.put, zsa, zsz, zss, i64_w, i32_w]
       rfl
      refine pure_ (i := 19) (N := some 32) (v := undef) (a' := ?_) #[true, true, true, true, true, true, true, true, true, true, true, true, true, true, true, true, true, true, true, true, false, false, false, false, false] rfl rfl (any_of HT_.out (by kernel_rfl)) (fun _ _ _ h => h) (Or.inr ⟨by rfl, rfl⟩) ?_ ?_
      rotate_left
      ·simp only [Act.put, zsa, zsz, zss, i64_w, i32_w]
       rfl
      refine pure_ (i := 20) (N := some 33) (v := undef) (a' := ?_) #[true, true, true, true, true, true, true, true, true, true, true, true, true, true, true, true, true, true, true, true, true, false, false, false, false] rfl rfl (any_of HT_.out (by kernel_rfl)) (fun _ _ _ h => h) (Or.inr ⟨by rfl, rfl⟩) ?_ ?_
      rotate_left
      ·simp only [Act.put, zsa, zsz, zss, i64_w, i32_w]
       rfl
      refine pure_ (i := 21) (N := some 34) (v := undef) (a' := ?_) #[true, true, true, true, true, true, true, true, true, true, true, true, true, true, true, true, true, true, true, true, true, true, false, false, false] rfl rfl (any_of HT_.out (by kernel_rfl)) (fun _ _ _ h => h) (Or.inr ⟨by rfl, rfl⟩) ?_ ?_
      rotate_left
      ·simp only [Act.put, zsa, zsz, zss, i64_w, i32_w]
       rfl
      refine pure_ (i := 22) (N := some 35) (v := undef) (a' := ?_) #[true, true, true, true, true, true, true, true, true, true, true, true, true, true, true, true, true, true, true, true, true, true, true, false, false] rfl rfl (any_of HT_.out (by kernel_rfl)) (fun _ _ _ h => h) (Or.inr ⟨by rfl, rfl⟩) ?_ ?_
      rotate_left
      ·simp only [Act.put, zsa, zsz, zss, i64_w, i32_w]
       rfl
      refine pure_ (i := 23) (N := some 36) (v := ?_) (a' := ?_) #[true, true, true, true, true, true, true, true, true, true, true, true, true, true, true, true, true, true, true, true, true, true, true, true, false] rfl rfl (any_of HT_.out (by kernel_rfl)) (fun _ _ _ h => h) (Or.inl ⟨by rfl, ?_⟩) ?_ ?_
      rotate_left
      ·intro w'
       go_simp
       with_reducible rfl
      rotate_left
      ·simp only [Act.put, zsa, zsz, zss, i64_w, i32_w]
       rfl
      refine pure_ (i := 24) (N := some 37) (v := ?_) (a' := ?_) #[true, true, true, true, true, true, true, true, true, true, true, true, true, true, true, true, true, true, true, true, true, true, true, true, true] rfl rfl (any_of HT_.out (by kernel_rfl)) (fun _ _ _ h => h) (Or.inl ⟨by rfl, ?_⟩) ?_ ?_
      rotate_left
      ·intro w'
       go_simp
       with_reducible rfl
      rotate_left
      ·simp only [Act.put, zsa, zsz, zss, i64_w, i32_w]
       rfl
      refine done_ (done_of HT_.out (by kernel_rfl)) ?_
      try go_wp2
      go_roundg k1
      case measure => have := HK1.out; omega
      case rel => exact ⟨(wrap64 (x3_1 + 1)), (by first | rfl | (simp; done) | (simp [*]; done)), H', ⟨by have := HK1.out; omega⟩, ⟨by repeat (first | (with_reducible first | exact HB.out | apply zba | apply zbn | apply zb1) | exact HB.out)⟩⟩
     replace c6 := Bool.eq_false_iff.mpr c6
     subst c6
     have H1 : (some 2) = some r := by rw [if_neg (show ¬ (false = true) by decide)] at H; exact H
     clear H
     have H := H1
     clear H1
     obtain rfl := zsi H
     try go_wp2
     have n0_ := zam (zb1 HB.out)
     clear HB
     have HB := n0_
     clear n0_
     have p101 : 0 ≤ (x3_1 : Int) := zod (by first | (with_reducible assumption) | assumption)
     have q101 : x3_1 < (l0.length : Int) := zod (by first | (with_reducible assumption) | assumption)
     obtain ⟨ad101, e101, hx101_0, hx101_1⟩ := at_T32 HR0.out x3_1 p101 q101
     have hw101_1 := hx101_1
     have hw101_0 := hx101_0
     cases e101
     replace hx101_0 := (HB.out.cell (zwb w _ hx101_0)).trans hx101_0
     replace hx101_1 := (HB.out.cell (zwb w _ hx101_1)).trans hx101_1
     replace p101 := eq_true p101
     replace q101 := eq_true q101
     refine start_ (n := 25) (S := fun w' => w'.cell? (ad101.add ((x3_1).toNat * 2)) = some (.int .i64 ((rd_T32 l0 x3_1).f0)) ∧ w'.cell? ⟨(ad101.add ((x3_1).toNat * 2)).block, (ad101.add ((x3_1).toNat * 2)).off + 1, none⟩ = some (.int .i64 ((rd_T32 l0 x3_1).f1))) (ds := []) #[false, false, false, false, false, false, false, false, false, false, false, false, false, false, false, false, false, false, false, false, false, false, false, false, false] (by kernel_rfl) rfl rfl ⟨((HB.out.cell (zwb w _ hw101_0)).trans hw101_0), ((HB.out.cell (zwb w _ hw101_1)).trans hw101_1)⟩ (fun hHeld => ?_); refine with_tabW isobathref01_CheckSet.tab6 isobathref01_CheckSet.bits6 (fun HT_ HW_ => ?_)
     generalize wr.drew = w18 at HB hx101_0 hx101_1 hHeld ⊢
     refine pure_ (i := 0) (N := some 13) (v := ?_) (a' := ?_) #[true, false, false, false, false, false, false, false, false, false, false, false, false, false, false, false, false, false, false, false, false, false, false, false, false] rfl rfl (any_of HT_.out (by kernel_rfl)) (fun _ _ _ h => h) (Or.inl ⟨by rfl, ?_⟩) ?_ ?_
     rotate_left
     ·intro w'
      go_simp
      with_reducible rfl
     rotate_left
     ·simp only [Act.put, zsa, zsz, zss, i64_w, i32_w]
      rfl
     refine pure_ (i := 1) (N := some 14) (v := ?_) (a' := ?_) #[true, true, false, false, false, false, false, false, false, false, false, false, false, false, false, false, false, false, false, false, false, false, false, false, false] rfl rfl (any_of HT_.out (by kernel_rfl)) (fun _ _ _ h => h) (Or.inl ⟨by rfl, ?_⟩) ?_ ?_
     rotate_left
     ·intro w'
      go_simp
      with_reducible rfl
     rotate_left
     ·simp only [Act.put, zsa, zsz, zss, i64_w, i32_w]
      rfl
     refine pure_ (i := 2) (N := some 15) (v := ?_) (a' := ?_) #[true, true, true, false, false, false, false, false, false, false, false, false, false, false, false, false, false, false, false, false, false, false, false, false, false] rfl rfl (any_of HT_.out (by kernel_rfl)) (fun _ _ _ h => h) (Or.inl ⟨by rfl, ?_⟩) ?_ ?_
     rotate_left
     ·intro w'
      go_simp
      with_reducible rfl
     rotate_left
     ·simp only [Act.put, zsa, zsz, zss, i64_w, i32_w]
      rfl
     refine take_ (i := 3) (N := some 16) (v := ?_) (a' := ?_) #[true, true, true, true, false, false, false, false, false, false, false, false, false, false, false, false, false, false, false, false, false, false, false, false, false] rfl rfl (take_ofW HT_.out HW_.out (by kernel_rfl)) (fun _ _ _ h => h) (Or.inl ⟨by rfl, ?_⟩) hHeld ?_ ?_
     rotate_left
     ·rintro w' ⟨s0, s1⟩
      go_simp
      with_reducible rfl
     rotate_left
     ·simp only [Act.put, zsa, zsz, zss, i64_w, i32_w]
      rfl
     refine one_ (i := 4) (N := some 17) #[true, true, true, true, true, false, false, false, false, false, false, false, false, false, false, false, false, false, false, false, false, false, false, false, false] rfl rfl (one_of HT_.out (by kernel_rfl)) (by decide) (fun K hK => ?_)
     refine goes_ Try.func22 (by kernel_rfl) rfl #[.agg #[.int .i64 ((rd_T32 l0 x3_1).f0), .int .i64 ((rd_T32 l0 x3_1).f1)]] (by rfl) rfl rfl (by (try simp only [zmt, List.map_cons, List.map_nil]); first | done | rfl | (simp only [zld, zlt]; rfl)) ?_
     with_reducible refine (isobathref01_Valid.calls ((rd_T32 l0 x3_1).f0) ((rd_T32 l0 x3_1).f1) false _ A5.out).mono ?_
     rintro e w19 ⟨rfl, hb⟩
     refine ⟨_, rfl, ?_⟩
     have n0_ := zam (zbt (by repeat (first | (with_reducible first | exact HB.out | apply zba | apply zbn | apply zb1) | exact HB.out)) hb)
     clear HB
     have HB := n0_
     clear n0_
     (try clear hb)
     (try clear hb2)
     (try clear hk)
     (try clear hi)
     refine hK.out _ _ ⟨((HB.out.cell (zwb w _ hw101_0)).trans hw101_0), ((HB.out.cell (zwb w _ hw101_1)).trans hw101_1)⟩ (fun hHeld => ?_)
     clear hK K
     refine norm_ (a' := ?_) ?_ ?_
     rotate_left
     ·show Act.put _ (some 17) _ = _
      simp only [Act.put, zsa, zsz, zss, i64_w, i32_w]
      rfl
     refine pure_ (i := 5) (N := some 18) (v := ?_) (a' := ?_) #[true, true, true, true, true, true, false, false, false, false, false, false, false, false, false, false, false, false, false, false, false, false, false, false, false] rfl rfl (any_of HT_.out (by kernel_rfl)) (fun _ _ _ h => h) (Or.inl ⟨by rfl, ?_⟩) ?_ ?_
     rotate_left
     ·intro w'
      go_simp
      with_reducible rfl
     rotate_left
     ·simp only [Act.put, zsa, zsz, zss, i64_w, i32_w]
      rfl
     refine pure_ (i := 6) (N := some 19) (v := ?_) (a' := ?_) #[true, true, true, true, true, true, true, false, false, false, false, false, false, false, false, false, false, false, false, false, false, false, false, false, false] rfl rfl (any_of HT_.out (by kernel_rfl)) (fun _ _ _ h => h) (Or.inl ⟨by rfl, ?_⟩) ?_ ?_
     rotate_left
     ·intro w'
      go_simp
      with_reducible rfl
     rotate_left
     ·simp only [Act.put, zsa, zsz, zss, i64_w, i32_w]
      rfl
     refine pure_ (i := 7) (N := some 20) (v := undef) (a' := ?_) #[true, true, true, true, true, true, true, true, false, false, false, false, false, false, false, false, false, false, false, false, false, false, false, false, false] rfl rfl (any_of HT_.out (by kernel_rfl)) (fun _ _ _ h => h) (Or.inr ⟨by rfl, rfl⟩) ?_ ?_
     rotate_left
     ·simp only [Act.put, zsa, zsz, zss, i64_w, i32_w]
      rfl
     refine pure_ (i := 8) (N := some 21) (v := undef) (a' := ?_) #[true, true, true, true, true, true, true, true, true, false, false, false, false, false, false, false, false, false, false, false, false, false, false, false, false] rfl rfl (any_of HT_.out (by kernel_rfl)) (fun _ _ _ h => h) (Or.inr ⟨by rfl, rfl⟩) ?_ ?_
     rotate_left
     ·simp only [Act.put, zsa, zsz, zss, i64_w, i32_w]
      rfl
     refine pure_ (i := 9) (N := some 22) (v := undef) (a' := ?_) #[true, true, true, true, true, true, true, true, true, true, false, false, false, false, false, false, false, false, false, false, false, false, false, false, false] rfl rfl (any_of HT_.out (by kernel_rfl)) (fun _ _ _ h => h) (Or.inr ⟨by rfl, rfl⟩) ?_ ?_
     rotate_left
     ·simp only [Act.put, zsa, zsz, zss, i64_w, i32_w]
      rfl
     refine pure_ (i := 10) (N := some 23) (v := undef) (a' := ?_) #[true, true, true, true, true, true, true, true, true, true, true, false, false, false, false, false, false, false, false, false, false, false, false, false, false] rfl rfl (any_of HT_.out (by kernel_rfl)) (fun _ _ _ h => h) (Or.inr ⟨by rfl, rfl⟩) ?_ ?_
     rotate_left
     ·simp only [Act.put, zsa, zsz, zss, i64_w, i32_w]
      rfl
     refine pure_ (i := 11) (N := some 24) (v := undef) (a' := ?_) #[true, true, true, true, true, true, true, true, true, true, true, true, false, false, false, false, false, false, false, false, false, false, false, false, false] rfl rfl (any_of HT_.out (by kernel_rfl)) (fun _ _ _ h => h) (Or.inr ⟨by rfl, rfl⟩) ?_ ?_
     rotate_left
     ·simp only [Act.put, zsa, zsz, zss, i64_w, i32_w]
      rfl
     refine pure_ (i := 12) (N := some 25) (v := undef) (a' := ?_) #[true, true, true, true, true, true, true, true, true, true, true, true, true, false, false, false, false, false, false, false, false, false, false, false, false] rfl rfl (any_of HT_.out (by kernel_rfl)) (fun _ _ _ h => h) (Or.inr ⟨by rfl, rfl⟩) ?_ ?_
     rotate_left
     ·simp only [Act.put, zsa, zsz, zss, i64_w, i32_w]
      rfl
     refine pure_ (i := 13) (N := some 26) (v := undef) (a' := ?_) #[true, true, true, true, true, true, true, true, true, true, true, true, true, true, false, false, false, false, false, false, false, false, false, false, false] rfl rfl (any_of HT_.out (by kernel_rfl)) (fun _ _ _ h => h) (Or.inr ⟨by rfl, rfl⟩) ?_ ?_
     rotate_left
     ·simp only [Act.put, zsa, zsz, zss, i64_w, i32_w]
      rfl
     refine pure_ (i := 14) (N := some 27) (v := undef) (a' := ?_) #[true, true, true, true, true, true, true, true, true, true, true, true, true, true, true, false, false, false, false, false, false, false, false, false, false] rfl rfl (any_of HT_.out (by kernel_rfl)) (fun _ _ _ h => h) (Or.inr ⟨by rfl, rfl⟩) ?_ ?_
     rotate_left
     ·simp only [Act.put, zsa, zsz, zss, i64_w, i32_w]
      rfl
     refine pure_ (i := 15) (N := some 28) (v := undef) (a' := ?_) #[true, true, true, true, true, true, true, true, true, true, true, true, true, true, true, true, false, false, false, false, false, false, false, false, false] rfl rfl (any_of HT_.out (by kernel_rfl)) (fun _ _ _ h => h) (Or.inr ⟨by rfl, rfl⟩) ?_ ?_
     rotate_left
     ·simp only [Act.put, zsa, zsz, zss, i64_w, i32_w]
      rfl
     refine pure_ (i := 16) (N := some 29) (v := undef) (a' := ?_) #[true, true, true, true, true, true, true, true, true, true, true, true, true, true, true, true, true, false, false, false, false, false, false, false, false] rfl rfl (any_of HT_.out (by kernel_rfl)) (fun _ _ _ h => h) (Or.inr ⟨by rfl, rfl⟩) ?_ ?_
     rotate_left
     ·simp only [Act.put, zsa, zsz, zss, i64_w, i32_w]
      rfl
     refine pure_ (i := 17) (N := some 30) (v := undef) (a' := ?_) #[true, true, true, true, true, true, true, true, true, true, true, true, true, true, true, true, true, true, false, false, false, false, false, false, false] rfl rfl (any_of HT_.out (by kernel_rfl)) (fun _ _ _ h => h) (Or.inr ⟨by rfl, rfl⟩) ?_ ?_
     rotate_left
     ·simp only [Act.put, zsa, zsz, zss, i64_w, i32_w]
      rfl
     refine pure_ (i := 18) (N := some 31) (v := undef) (a' := ?_) #[true, true, true, true, true, true, true, true, true, true, true, true, true, true, true, true, true, true, true, false, false, false, false, false, false] rfl rfl (any_of HT_.out (by kernel_rfl)) (fun _ _ _ h => h) (Or.inr ⟨by rfl, rfl⟩) ?_ ?_
     rotate_left
     ·simp only [Act.put, zsa, zsz, zss, i64_w, i32_w]
      rfl
     refine pure_ (i := 19) (N := some 32) (v := undef) (a' := ?_) #[true, true, true, true, true, true, true, true, true, true, true, true, true, true, true, true, true, true, true, true, false, false, false, false, false] rfl rfl (any_of HT_.out (by kernel_rfl)) (fun _ _ _ h => h) (Or.inr ⟨by rfl, rfl⟩) ?_ ?_
     rotate_left
     ·simp only [Act.put, zsa, zsz, zss, i64_w, i32_w]
      rfl
     refine pure_ (i := 20) (N := some 33) (v := undef) (a' := ?_) #[true, true, true, true, true, true, true, true, true, true, true, true, true, true, true, true, true, true, true, true, true, false, false, false, false] rfl rfl (any_of HT_.out (by kernel_rfl)) (fun _ _ _ h => h) (Or.inr ⟨by rfl, rfl⟩) ?_ ?_
     rotate_left
     ·simp only [Act.put, zsa, zsz, zss, i64_w, i32_w]
      rfl
     refine pure_ (i := 21) (N := some 34) (v := undef) (a' := ?_) #[true, true, true, true, true, true, true, true, true, true, true, true, true, true, true, true, true, true, true, true, true, true, false, false, false] rfl rfl (any_of HT_.out (by kernel_rfl)) (fun _ _ _ h => h) (Or.inr ⟨by rfl, rfl⟩) ?_ ?_
     rotate_left
     ·simp only [Act.put, zsa, zsz, zss, i64_w, i32_w]
      rfl
     refine pure_ (i := 22) (N := some 35) (v := undef) (a' := ?_) #[true, true, true, true, true, true, true, true, true, true, true, true, true, true, true, true, true, true, true, true, true, true, true, false, false] rfl rfl (any_of HT_.out (by kernel_rfl)) (fun _ _ _ h => h) (Or.inr ⟨by rfl, rfl⟩) ?_ ?_
     rotate_left
     ·simp only [Act.put, zsa, zsz, zss, i64_w, i32_w]
      rfl
     refine pure_ (i := 23) (N := some 36) (v := undef) (a' := ?_) #[true, true, true, true, true, true, true, true, true, true, true, true, true, true, true, true, true, true, true, true, true, true, true, true, false] rfl rfl (any_of HT_.out (by kernel_rfl)) (fun _ _ _ h => h) (Or.inr ⟨by rfl, rfl⟩) ?_ ?_
     rotate_left
     ·simp only [Act.put, zsa, zsz, zss, i64_w, i32_w]
      rfl
     refine pure_ (i := 24) (N := some 37) (v := ?_) (a' := ?_) #[true, true, true, true, true, true, true, true, true, true, true, true, true, true, true, true, true, true, true, true, true, true, true, true, true] rfl rfl (any_of HT_.out (by kernel_rfl)) (fun _ _ _ h => h) (Or.inl ⟨by rfl, ?_⟩) ?_ ?_
     rotate_left
     ·intro w'
      go_simp
      with_reducible rfl
     rotate_left
     ·simp only [Act.put, zsa, zsz, zss, i64_w, i32_w]
      rfl
     refine done_ (done_of HT_.out (by kernel_rfl)) ?_
     try go_wp2
     go_ret
     exact ⟨by first | rfl | (simp [errW_none, errW_some] <;> rfl) | (simp [*, errW_none, errW_some] <;> rfl), by repeat (first | (with_reducible first | exact HB.out | apply zba | apply zbn | apply zb1) | exact HB.out)⟩
    rw [if_neg c4] at H
    exact absurd H (by simp)
   rw [if_neg c3] at H
   have c3b0 : decide (x3_1 < (l0.length : Int)) = false := zdf c3
   clear c3
   obtain rfl := zsi H
   go_wp2
   go_ret
   exact ⟨by first | rfl | (simp [errW_none, errW_some] <;> rfl) | (simp [*, errW_none, errW_some] <;> rfl), by repeat (first | (with_reducible first | exact HB.out | apply zba | apply zbn | apply zb1) | exact HB.out)⟩
mutual
def isobathlaw01_BoundCounts.j0 : Nat → List (S32) → List (S32) → Bool → Option (Bool)
 | 0, _, _, _ => none
 | k + 1, x0, x1, x36 => if x36 = true then ((isobathlaw01_Works.f k).bind fun t103 => (some t103)) else ((bound_Unite.f k x0 x1).bind fun bt104 => ((bound_Cut.f k x0 x1).bind fun bt108 => ((bound_Count.f k x0).bind fun bt112 => ((bound_Count.f k x1).bind fun bt114 => (if bt112.2 = 0 then (isobathlaw01_BoundCounts.j1 k x0 bt104.1 bt104.2 bt108.1 bt108.2 bt112.1 bt114.1 (bt114.2 != 0)) else (none))))))
def isobathlaw01_BoundCounts.j1 : Nat → List (S32) → List (S32) → Int → List (S32) → Int → Int → Int → Bool → Option (Bool)
 | 0, _, _, _, _, _, _, _, _ => none
 | k + 1, x0, x5, x6, x7, x8, x9, x11, x65 => if x65 = true then (none) else (if x6 = 0 then (isobathlaw01_BoundCounts.j2 k x0 x5 x7 x9 x11 (x8 == 0)) else (isobathlaw01_BoundCounts.j2 k x0 x5 x7 x9 x11 false))
def isobathlaw01_BoundCounts.j2 : Nat → List (S32) → List (S32) → List (S32) → Int → Int → Bool → Option (Bool)
 | 0, _, _, _, _, _, _ => none
 | k + 1, x0, x5, x7, x9, x11, x71 => if x71 = true then ((bound_Count.f k x5).bind fun bt116 => ((bound_Count.f k x7).bind fun bt118 => (if bt116.2 = 0 then (if bt118.2 = 0 then (if (wrap64 (bt116.1 + bt118.1)) = (wrap64 (x9 + x11)) then (isobathlaw01_BoundCounts.j3 k x0 x9) else (none)) else (none)) else (none)))) else (isobathlaw01_BoundCounts.j3 k x0 x9)
def isobathlaw01_BoundCounts.j3 : Nat → List (S32) → Int → Option (Bool)
 | 0, _, _ => none
 | k + 1, x0, x9 => if (x0.length : Int) = 0 then (if x9 = 0 then ((isobathlaw01_Works.f k).bind fun t120 => (some t120)) else (none)) else (if 0 < (x0.length : Int) then (if 0 ≤ (wrap64 ((x0.length : Int) - 1)) then (if (wrap64 ((x0.length : Int) - 1)) < (x0.length : Int) then ((bound_Outside.f k x0 ((rd_T32 x0 0).f0) ((rd_T32 x0 (wrap64 ((x0.length : Int) - 1))).f1)).bind fun bt123 => ((bound_Count.f k bt123.1).bind fun bt127 => (if bt123.2 = 0 then (if bt127.2 = 0 then (if (bt123.1.length : Int) = (wrap64 ((x0.length : Int) - 1)) then (if (wrap64 (x9 + bt127.1)) = (wrap64 ((wrap64 (((rd_T32 x0 (wrap64 ((x0.length : Int) - 1))).f1) - ((rd_T32 x0 0).f0))) + 1)) then ((isobathlaw01_Works.f k).bind fun t131 => (some t131)) else (none)) else (none)) else (none)) else (none)))) else (none)) else (none)) else (none))
end
def isobathlaw01_BoundCounts.f (k : Nat) (l0 : List (S32)) (l1 : List (S32)) : Option (Bool) := if (l0.length : Int) > 256 then (isobathlaw01_BoundCounts.j0 k l0 l1 true) else (if (l1.length : Int) > 256 then (isobathlaw01_BoundCounts.j0 k l0 l1 true) else ((isobathref01_CheckSet.f k l0).bind fun t101 => (if t101 = 0 then ((isobathref01_CheckSet.f k l1).bind fun t102 => (isobathlaw01_BoundCounts.j0 k l0 l1 (t102 != 0))) else (isobathlaw01_BoundCounts.j0 k l0 l1 true))))
def isobathlaw01_BoundCounts.T16 : Bool × List (List Nat × List Nat) := (true, [([], []), ([], []), ([1], [1]), ([2], [2]), ([3], [3]), ([], []), ([], []), ([6], [6]), ([7], [7]), ([5, 8], [5, 8]), ([9], [9]), ([10], [10]), ([4, 11], [4, 11]), ([0, 12], [0, 12]), ([13], [13]), ([14], [14]), ([14], [14]), ([15, 13, 0, 1, 2, 3, 4, 5, 6, 7, 8, 9, 10, 11, 12, 13, 14, 15], [15]), ([16, 17, 0, 1, 2, 3, 4, 5, 6, 7, 8, 9, 10, 11, 12, 13, 14, 15, 16, 17], [16])])
def isobathlaw01_BoundCounts.B16 : List Nat := [0, 0, 2, 6, 14, 0, 0, 64, 192, 480, 992, 2016, 4094, 8191, 16383, 32767, 32767, 65535, 262143]
theorem isobathlaw01_BoundCounts.tab16 : rtab .any (opsOf Try.f7 16) = isobathlaw01_BoundCounts.T16 := by kernel_rfl
theorem isobathlaw01_BoundCounts.bits16 : waitsOk isobathlaw01_BoundCounts.T16.2 isobathlaw01_BoundCounts.B16 = true := by kernel_rfl
def isobathlaw01_BoundCounts.T18 : Bool × List (List Nat × List Nat) := (true, [([], []), ([0], [0]), ([1], [1]), ([2], [2]), ([3, 2], [2, 3]), ([2, 4], [2, 4]), ([5, 2], [5]), ([6], [6]), ([7, 6], [6, 7]), ([6], [6]), ([9, 6], [6, 9]), ([10, 6], [6, 10]), ([8, 11, 6], [6, 8, 11]), ([6, 12], [6, 12]), ([13, 6], [13]), ([14], [14]), ([14], [14]), ([15, 16, 14], [14, 15, 16]), ([14], [14]), ([14], [14]), ([19, 14], [14, 19]), ([20, 14], [14, 20]), ([18, 21, 14], [14, 18, 21]), ([22, 14], [14, 22]), ([23, 14], [14, 23]), ([14], [14]), ([25, 14], [14, 25]), ([26, 14], [14, 26]), ([27, 14], [14, 27]), ([24, 28, 14], [14, 24, 28]), ([29, 14], [14, 29]), ([17, 30, 14], [14, 17, 30]), ([14, 31], [14, 31]), ([32, 14], [32]), ([33, 33], [33]), ([33, 34], [33, 34]), ([35, 34, 0, 1, 2, 3, 4, 5, 6, 7, 8, 9, 10, 11, 12, 13, 14, 15, 16, 17, 18, 19, 20, 21, 22, 23, 24, 25, 26, 27, 28, 29, 30, 31, 32, 33, 34, 35], [35])])
def isobathlaw01_BoundCounts.B18 : List Nat := [0, 1, 3, 7, 15, 31, 63, 127, 255, 127, 639, 1663, 4095, 8191, 16383, 32767, 32767, 131071, 32767, 32767, 557055, 1605631, 3964927, 8159231, 16547839, 32767, 33587199, 100696063, 234913791, 536641535, 1073512447, 2147483647, 4294967295, 8589934591, 17179869183, 34359738367, 68719476735]
theorem isobathlaw01_BoundCounts.tab18 : rtab .any (opsOf Try.f7 18) = isobathlaw01_BoundCounts.T18 := by kernel_rfl
theorem isobathlaw01_BoundCounts.bits18 : waitsOk isobathlaw01_BoundCounts.T18.2 isobathlaw01_BoundCounts.B18 = true := by kernel_rfl
set_option maxHeartbeats 8000000 in
set_option maxRecDepth 100000 in
theorem isobathlaw01_BoundCounts.calls (k : Nat) (A0 : Option Addr) (c0 : Nat) (l0 : List (S32)) (A1 : Option Addr) (c1 : Nat) (l1 : List (S32)) (r : Bool) (w : World) (hr0 : Kd.C k32 w A0 l0.length l0) (hc0 : l0.length ≤ c0) (hr1 : Kd.C k32 w A1 l1.length l1) (hc1 : l1.length ≤ c1) (h : isobathlaw01_BoundCounts.f k l0 l1 = some r) :
  Calls Try.prog 7 #[.slice A0 l0.length c0, .slice A1 l1.length c1] w fun e w' => e = .returned (.bool r) ∧ Below w.heap.size w w' := by
 have hu32 := Try.underlying32
 have HR0 := zam hr0
 have HC0 := zam hc0
 clear hr0 hc0
 have HR1 := zam hr1
 have HC1 := zam hc1
 clear hr1 hc1
 have HB := zam (Below.refl w.heap.size w)
 have H : (if (l0.length : Int) > 256 then (isobathlaw01_BoundCounts.j0 k l0 l1 true) else (if (l1.length : Int) > 256 then (isobathlaw01_BoundCounts.j0 k l0 l1 true) else ((isobathref01_CheckSet.f k l0).bind fun t101 => (if t101 = 0 then ((isobathref01_CheckSet.f k l1).bind fun t102 => (isobathlaw01_BoundCounts.j0 k l0 l1 (t102 != 0))) else (isobathlaw01_BoundCounts.j0 k l0 l1 true))))) = some r := h
 clear h
 have HC3 := zam H
 clear H
 go_enter Try.func7, Try.ntmps7
 go_upto_region 1 with (fail)
 go_cut [36] (fun v36 wc => ∃ (kq : Nat) (x36_2 : Bool), v36 = .bool x36_2 ∧ Aside0 (isobathlaw01_BoundCounts.j0 kq l0 l1 x36_2 = some r) ∧ Aside0 (kq ≤ k) ∧ Aside0 (Below w.heap.size w wc))
 case first =>
  have H := HC3.out
  clear HC3
  by_cases c4 : (l0.length : Int) > 256
  ·rw [if_pos c4] at H
   have c4b0 : decide (256 < (l0.length : Int)) = true := zdt c4
   have c4b1 : decide (256 < l0.length) = true := zdt (by omega)
   clear c4
   (first | rw [c4b0] | (simp only [i64_w, i32_w]; rw [c4b0]) | skip)
   have H' := zam H
   clear H
   go_wp2
   go_meet
   case rel => exact ⟨_, (true), (by first | rfl | (simp; done) | (simp [*]; done)), H', ⟨by first | omega | exact Nat.le_refl _⟩, ⟨by repeat (first | (with_reducible first | exact HB.out | apply zba | apply zbn | apply zb1) | exact HB.out)⟩⟩
  rw [if_neg c4] at H
  have c4b0 : decide (256 < (l0.length : Int)) = false := zdf c4
  have c4b1 : decide (256 < l0.length) = false := zdf (by omega)
  clear c4
  (first | rw [c4b0] | (simp only [i64_w, i32_w]; rw [c4b0]) | skip)
  by_cases c5 : (l1.length : Int) > 256
  ·rw [if_pos c5] at H
   have c5b0 : decide (256 < (l1.length : Int)) = true := zdt c5
   have c5b1 : decide (256 < l1.length) = true := zdt (by omega)
   clear c5
   have H' := zam H
   clear H
   go_wp2
   go_meet
   case rel => exact ⟨_, (true), (by first | rfl | (simp; done) | (simp [*]; done)), H', ⟨by first | omega | exact Nat.le_refl _⟩, ⟨by repeat (first | (with_reducible first | exact HB.out | apply zba | apply zbn | apply zb1) | exact HB.out)⟩⟩
  rw [if_neg c5] at H
  have c5b0 : decide (256 < (l1.length : Int)) = false := zdf c5
  have c5b1 : decide (256 < l1.length) = false := zdf (by omega)
  clear c5
  replace H := Option.bind_eq_some_iff.mp H
  obtain ⟨t101, A60, H⟩ := H
  replace H : (if t101 = 0 then ((isobathref01_CheckSet.f k l1).bind fun t102 => (isobathlaw01_BoundCounts.j0 k l0 l1 (t102 != 0))) else (isobathlaw01_BoundCounts.j0 k l0 l1 true)) = some r := H
  have A6 := zam A60
  clear A60
  by_cases c7 : t101 = 0
  ·rw [if_pos c7] at H
   have c7b0 : (t101 == 0) = true := beq_iff_eq.mpr c7
   have c7b1 : (t101 != 0) = false := bne_eq_false_iff_eq.mpr c7
   clear c7
   replace H := Option.bind_eq_some_iff.mp H
   obtain ⟨t102, A80, H⟩ := H
   replace H : (isobathlaw01_BoundCounts.j0 k l0 l1 (t102 != 0)) = some r := H
   have A8 := zam A80
   clear A80
   have H' := zam H
   clear H
   go_wp2_with (first | (go_at_call 39; (with_reducible refine (isobathref01_CheckSet.calls k _ _ l0 t101 _ ?side1 ?side2 A6.out).mono ?_); (case side1 => repeat (first | exact (Kd.C_below HR0.out HB.out) | (with_reducible refine Kd.C_alloc ?_ _) | (with_reducible refine Kd.C_drewN ?_ _) | (with_reducible refine Kd.C_drew ?_))); (case side2 => exact HC0.out); rintro e w9 ⟨rfl, hb⟩; have n0_ := zam (zbt (by repeat (first | (with_reducible first | exact HB.out | apply zba | apply zbn | apply zb1) | exact HB.out)) hb); clear HB; have HB := n0_; clear n0_; (try clear hb); (try clear hb2); (try clear hk); (try clear hi)) | (go_at_call 39; (with_reducible refine (isobathref01_CheckSet.calls k _ _ l1 t102 _ ?side1 ?side2 A8.out).mono ?_); (case side1 => repeat (first | exact (Kd.C_below HR1.out HB.out) | (with_reducible refine Kd.C_alloc ?_ _) | (with_reducible refine Kd.C_drewN ?_ _) | (with_reducible refine Kd.C_drew ?_))); (case side2 => exact HC1.out); rintro e w10 ⟨rfl, hb⟩; have n0_ := zam (zbt (by repeat (first | (with_reducible first | exact HB.out | apply zba | apply zbn | apply zb1) | exact HB.out)) hb); clear HB; have HB := n0_; clear n0_; (try clear hb); (try clear hb2); (try clear hk); (try clear hi)))
   go_meet
   case rel => exact ⟨_, ((t102 != 0)), (by first | rfl | (simp; done) | (simp [*]; done)), H', ⟨by first | omega | exact Nat.le_refl _⟩, ⟨by repeat (first | (with_reducible first | exact HB.out | apply zba | apply zbn | apply zb1) | exact HB.out)⟩⟩
  rw [if_neg c7] at H
  have c7b0 : (t101 == 0) = false := beq_eq_false_iff_ne.mpr c7
  have c7b1 : (t101 != 0) = true := bne_iff_ne.mpr c7
  have H' := zam H
  clear H
  go_wp2_with (first | (go_at_call 39; (with_reducible refine (isobathref01_CheckSet.calls k _ _ l0 t101 _ ?side1 ?side2 A6.out).mono ?_); (case side1 => repeat (first | exact (Kd.C_below HR0.out HB.out) | (with_reducible refine Kd.C_alloc ?_ _) | (with_reducible refine Kd.C_drewN ?_ _) | (with_reducible refine Kd.C_drew ?_))); (case side2 => exact HC0.out); rintro e w11 ⟨rfl, hb⟩; have n0_ := zam (zbt (by repeat (first | (with_reducible first | exact HB.out | apply zba | apply zbn | apply zb1) | exact HB.out)) hb); clear HB; have HB := n0_; clear n0_; (try clear hb); (try clear hb2); (try clear hk); (try clear hi)))
  go_meet
  case rel => exact ⟨_, (true), (by first | rfl | (simp; done) | (simp [*]; done)), H', ⟨by first | omega | exact Nat.le_refl _⟩, ⟨by repeat (first | (with_reducible first | exact HB.out | apply zba | apply zbn | apply zb1) | exact HB.out)⟩⟩
 case rest =>
  clear HC3
  try clear c1
  try clear p2
  try clear c4
  try clear c4b0
  try clear c4b1
  try clear c5
  try clear c5b0
  try clear c5b1
  try clear c7
  try clear c7b0
  try clear c7b1
  obtain ⟨kq, x36_2, rfl, HA, HJ2, HB⟩ := hcut
  cases kq with
  | zero => exact absurd HA.out (by simp [isobathlaw01_BoundCounts.j0])
  | succ kj2 =>
   have H := HA.out
   clear HA
   simp only [isobathlaw01_BoundCounts.j0] at H
   by_cases c12 : x36_2 = true
   ·subst c12
    have H1 : ((isobathlaw01_Works.f kj2).bind fun t103 => (some t103)) = some r := by rw [if_pos rfl] at H; exact H
    clear H
    have H := H1
    clear H1
    replace H := Option.bind_eq_some_iff.mp H
    obtain ⟨t103, A130, H⟩ := H
    replace H : (some t103) = some r := H
    have A13 := zam A130
    clear A130
    obtain rfl := zsi H
    go_wp2_with (first | ((with_reducible refine zgc (f := 18) rfl ?_); refine goesL_ (some 37) rfl rfl Try.func18 (by kernel_rfl) rfl #[] rfl (by (try simp only [zmt, List.map_cons, List.map_nil]); first | done | rfl | (simp only [zld, zlt]; rfl)) ?_; (with_reducible refine (isobathlaw01_Works.calls kj2  t103 _ A13.out).mono ?_); rintro e w14 ⟨rfl, hb⟩; refine ⟨_, rfl, ?_⟩; have n0_ := zam (zbt (by repeat (first | (with_reducible first | exact HB.out | apply zba | apply zbn | apply zb1) | exact HB.out)) hb); clear HB; have HB := n0_; clear n0_; (try clear hb); (try clear hb2); (try clear hk); (try clear hi)))
    go_ret
    exact ⟨by first | rfl | (simp [errW_none, errW_some] <;> rfl) | (simp [*, errW_none, errW_some] <;> rfl), by repeat (first | (with_reducible first | exact HB.out | apply zba | apply zbn | apply zb1) | exact HB.out)⟩
   replace c12 := Bool.eq_false_iff.mpr c12
   subst c12
   have H1 : ((bound_Unite.f kj2 l0 l1).bind fun bt104 => ((bound_Cut.f kj2 l0 l1).bind fun bt108 => ((bound_Count.f kj2 l0).bind fun bt112 => ((bound_Count.f kj2 l1).bind fun bt114 => (if bt112.2 = 0 then (isobathlaw01_BoundCounts.j1 kj2 l0 bt104.1 bt104.2 bt108.1 bt108.2 bt112.1 bt114.1 (bt114.2 != 0)) else (none)))))) = some r := by rw [if_neg (show ¬ (false = true) by decide)] at H; exact H
   clear H
   have H := H1
   clear H1
   replace H := Option.bind_eq_some_iff.mp H
   obtain ⟨⟨t104, t105⟩, A150, H⟩ := H
   replace H : ((bound_Cut.f kj2 l0 l1).bind fun bt108 => ((bound_Count.f kj2 l0).bind fun bt112 => ((bound_Count.f kj2 l1).bind fun bt114 => (if bt112.2 = 0 then (isobathlaw01_BoundCounts.j1 kj2 l0 t104 t105 bt108.1 bt108.2 bt112.1 bt114.1 (bt114.2 != 0)) else (none))))) = some r := H
   have A15 := zam A150
   clear A150
   replace H := Option.bind_eq_some_iff.mp H
   obtain ⟨⟨t108, t109⟩, A160, H⟩ := H
   replace H : ((bound_Count.f kj2 l0).bind fun bt112 => ((bound_Count.f kj2 l1).bind fun bt114 => (if bt112.2 = 0 then (isobathlaw01_BoundCounts.j1 kj2 l0 t104 t105 t108 t109 bt112.1 bt114.1 (bt114.2 != 0)) else (none)))) = some r := H
   have A16 := zam A160
   clear A160
   replace H := Option.bind_eq_some_iff.mp H
   obtain ⟨⟨t112, t113⟩, A170, H⟩ := H
   replace H : ((bound_Count.f kj2 l1).bind fun bt114 => (if t113 = 0 then (isobathlaw01_BoundCounts.j1 kj2 l0 t104 t105 t108 t109 t112 bt114.1 (bt114.2 != 0)) else (none))) = some r := H
   have A17 := zam A170
   clear A170
   replace H := Option.bind_eq_some_iff.mp H
   obtain ⟨⟨t114, t115⟩, A180, H⟩ := H
   replace H : (if t113 = 0 then (isobathlaw01_BoundCounts.j1 kj2 l0 t104 t105 t108 t109 t112 t114 (t115 != 0)) else (none)) = some r := H
   have A18 := zam A180
   clear A180
   have HC19 := zam H
   clear H
   go_upto_region 7 with (first | ((with_reducible refine zgc (f := 40) rfl ?_); refine goesL_ (some 41) rfl rfl Try.func40 (by kernel_rfl) rfl #[.slice A0 l0.length c0, .slice A1 l1.length c1] rfl (by (try simp only [zmt, List.map_cons, List.map_nil]); first | done | rfl | (simp only [zld, zlt]; rfl)) ?_; (with_reducible refine (bound_Unite.calls kj2 _ _ l0 _ _ l1 t104 t105 _ ?side1 ?side2 ?side3 ?side4 A15.out).mono ?_); (case side1 => repeat (first | exact (Kd.C_below HR0.out HB.out) | (with_reducible refine Kd.C_alloc ?_ _) | (with_reducible refine Kd.C_drewN ?_ _) | (with_reducible refine Kd.C_drew ?_))); (case side2 => exact HC0.out); (case side3 => repeat (first | exact (Kd.C_below HR1.out HB.out) | (with_reducible refine Kd.C_alloc ?_ _) | (with_reducible refine Kd.C_drewN ?_ _) | (with_reducible refine Kd.C_drew ?_))); (case side4 => exact HC1.out); rintro e w20 ⟨v106, rfl, ho0, hb⟩; refine ⟨_, rfl, ?_⟩; have n0_ := zam (Kd.R_lower ho0 (zbz (by repeat (first | (with_reducible first | exact HB.out | apply zba | apply zbn | apply zb1) | exact HB.out)))); have n1_ := zam (zbt (by repeat (first | (with_reducible first | exact HB.out | apply zba | apply zbn | apply zb1) | exact HB.out)) hb); clear HB; have HO107 := n0_; have HB := n1_; clear n0_ n1_; (try clear hb); (try clear hb2); (try clear hk); (try clear hi); (try clear ho0)) | ((with_reducible refine zgc (f := 41) rfl ?_); refine goesL_ (some 47) rfl rfl Try.func41 (by kernel_rfl) rfl #[.slice A0 l0.length c0, .slice A1 l1.length c1] rfl (by (try simp only [zmt, List.map_cons, List.map_nil]); first | done | rfl | (simp only [zld, zlt]; rfl)) ?_; (with_reducible refine (bound_Cut.calls kj2 _ _ l0 _ _ l1 t108 t109 _ ?side1 ?side2 ?side3 ?side4 A16.out).mono ?_); (case side1 => repeat (first | exact (Kd.C_below HR0.out HB.out) | (with_reducible refine Kd.C_alloc ?_ _) | (with_reducible refine Kd.C_drewN ?_ _) | (with_reducible refine Kd.C_drew ?_))); (case side2 => exact HC0.out); (case side3 => repeat (first | exact (Kd.C_below HR1.out HB.out) | (with_reducible refine Kd.C_alloc ?_ _) | (with_reducible refine Kd.C_drewN ?_ _) | (with_reducible refine Kd.C_drew ?_))); (case side4 => exact HC1.out); rintro e w21 ⟨v110, rfl, ho0, hb⟩; refine ⟨_, rfl, ?_⟩; have n0_ := zam (Kd.R_elder' (by (with_reducible repeat (first | apply zRa | apply zRn | apply zRd)); exact HO107.out) (Kd.R_base ho0) hb); have n1_ := zam (Kd.R_lower (Kd.R_new' ho0 (Kd.R_lt (by (with_reducible repeat (first | apply zRa | apply zRn | apply zRd)); exact HO107.out))) (zbz (by repeat (first | (with_reducible first | exact HB.out | apply zba | apply zbn | apply zb1) | exact HB.out)))); have n2_ := zam (zbt (by repeat (first | (with_reducible first | exact HB.out | apply zba | apply zbn | apply zb1) | exact HB.out)) hb); clear HO107; clear HB; have HO107 := n0_; have HO111 := n1_; have HB := n2_; clear n0_ n1_ n2_; (try clear hb); (try clear hb2); (try clear hk); (try clear hi); (try clear ho0)) | ((with_reducible refine zgc (f := 42) rfl ?_); refine goesL_ (some 52) rfl rfl Try.func42 (by kernel_rfl) rfl #[.slice A0 l0.length c0] rfl (by (try simp only [zmt, List.map_cons, List.map_nil]); first | done | rfl | (simp only [zld, zlt]; rfl)) ?_; (with_reducible refine (bound_Count.calls kj2 _ _ l0 t112 t113 _ ?side1 ?side2 A17.out).mono ?_); (case side1 => repeat (first | exact (Kd.C_below HR0.out HB.out) | (with_reducible refine Kd.C_alloc ?_ _) | (with_reducible refine Kd.C_drewN ?_ _) | (with_reducible refine Kd.C_drew ?_))); (case side2 => exact HC0.out); rintro e w22 ⟨rfl, hb⟩; refine ⟨_, rfl, ?_⟩; have n0_ := zam (Kd.R_below (by (with_reducible repeat (first | apply zRa | apply zRn | apply zRd)); exact HO107.out) hb); have n1_ := zam (Kd.R_below (by (with_reducible repeat (first | apply zRa | apply zRn | apply zRd)); exact HO111.out) hb); have n2_ := zam (zbt (by repeat (first | (with_reducible first | exact HB.out | apply zba | apply zbn | apply zb1) | exact HB.out)) hb); clear HO107; clear HO111; clear HB; have HO107 := n0_; have HO111 := n1_; have HB := n2_; clear n0_ n1_ n2_; (try clear hb); (try clear hb2); (try clear hk); (try clear hi)) | ((with_reducible refine zgc (f := 42) rfl ?_); refine goesL_ (some 57) rfl rfl Try.func42 (by kernel_rfl) rfl #[.slice A1 l1.length c1] rfl (by (try simp only [zmt, List.map_cons, List.map_nil]); first | done | rfl | (simp only [zld, zlt]; rfl)) ?_; (with_reducible refine (bound_Count.calls kj2 _ _ l1 t114 t115 _ ?side1 ?side2 A18.out).mono ?_); (case side1 => repeat (first | exact (Kd.C_below HR1.out HB.out) | (with_reducible refine Kd.C_alloc ?_ _) | (with_reducible refine Kd.C_drewN ?_ _) | (with_reducible refine Kd.C_drew ?_))); (case side2 => exact HC1.out); rintro e w23 ⟨rfl, hb⟩; refine ⟨_, rfl, ?_⟩; have n0_ := zam (Kd.R_below (by (with_reducible repeat (first | apply zRa | apply zRn | apply zRd)); exact HO107.out) hb); have n1_ := zam (Kd.R_below (by (with_reducible repeat (first | apply zRa | apply zRn | apply zRd)); exact HO111.out) hb); have n2_ := zam (zbt (by repeat (first | (with_reducible first | exact HB.out | apply zba | apply zbn | apply zb1) | exact HB.out)) hb); clear HO107; clear HO111; clear HB; have HO107 := n0_; have HO111 := n1_; have HB := n2_; clear n0_ n1_ n2_; (try clear hb); (try clear hb2); (try clear hk); (try clear hi)))
   (try simp only [Act.put, zsa, zsz, zss])
   go_cut [65] (fun v65 wc => ∃ (kq : Nat) (x65_18 : Bool), v65 = .bool x65_18 ∧ Aside0 (isobathlaw01_BoundCounts.j1 kq l0 t104 t105 t108 t109 t112 t114 x65_18 = some r) ∧ Aside0 (kq ≤ kj2) ∧ Aside0 (Kd.R k32 32 wc w.heap.size (fun k_ => some k_ ≠ (v110 : Value).ownBlock) v106 t104) ∧ Aside0 (Kd.R k32 32 wc w.heap.size (fun k_ => some k_ ≠ (v106 : Value).ownBlock) v110 t108) ∧ Aside0 (Below w.heap.size w wc))
   case first =>
    have H := HC19.out
    clear HC19
    by_cases c24 : t113 = 0
    ·rw [if_pos c24] at H
     have c24b0 : (t113 == 0) = true := beq_iff_eq.mpr c24
     have c24b1 : (t113 != 0) = false := bne_eq_false_iff_eq.mpr c24
     clear c24
     (first | rw [c24b0] | (simp only [i64_w, i32_w]; rw [c24b0]) | skip)
     have H' := zam H
     clear H
     go_wp2
     go_meet
     case rel => exact ⟨_, ((t115 != 0)), (by first | rfl | (simp; done) | (simp [*]; done)), H', ⟨by have := HJ2.out; first | omega | exact Nat.le_refl _⟩, ⟨by (with_reducible repeat (first | apply zRa | apply zRn | apply zRd)); exact Kd.R_mono HO107.out (fun _ hk => hk.2)⟩, ⟨by (with_reducible repeat (first | apply zRa | apply zRn | apply zRd)); exact Kd.R_mono HO111.out (fun _ hk => hk.2)⟩, ⟨by repeat (first | (with_reducible first | exact HB.out | apply zba | apply zbn | apply zb1) | exact HB.out)⟩⟩
    rw [if_neg c24] at H
    exact absurd H (by simp)
   case rest =>
    clear HC19
    try clear c1
    try clear c2
    try clear p2
    try clear c4
    try clear c4b0
    try clear c4b1
    try clear c5
    try clear c5b0
    try clear c5b1
    try clear c7
    try clear c7b0
    try clear c7b1
    try clear c12
    try clear c18
    try clear c24
    try clear c24b0
    try clear c24b1
    try clear p2
    obtain ⟨kq, x65_18, rfl, HA, HJ18, HO_5, HO_7, HB⟩ := hcut
    cases kq with
    | zero => exact absurd HA.out (by simp [isobathlaw01_BoundCounts.j1])
    | succ kj18 =>
     have H := HA.out
     clear HA
     simp only [isobathlaw01_BoundCounts.j1] at H
     by_cases c25 : x65_18 = true
     ·subst c25
      have H1 : (none) = some r := by rw [if_pos rfl] at H; exact H
      clear H
      have H := H1
      clear H1
      exact absurd H (by simp)
     replace c25 := Bool.eq_false_iff.mpr c25
     subst c25
     have H1 : (if t105 = 0 then (isobathlaw01_BoundCounts.j2 kj18 l0 t104 t108 t112 t114 (t109 == 0)) else (isobathlaw01_BoundCounts.j2 kj18 l0 t104 t108 t112 t114 false)) = some r := by rw [if_neg (show ¬ (false = true) by decide)] at H; exact H
     clear H
     have H := H1
     clear H1
     have HC26 := zam H
     clear H
     go_upto_region 9 with (fail)
     go_cut [71] (fun v71 wc => ∃ (kq : Nat) (x71_25 : Bool), v71 = .bool x71_25 ∧ Aside0 (isobathlaw01_BoundCounts.j2 kq l0 t104 t108 t112 t114 x71_25 = some r) ∧ Aside0 (kq ≤ kj18) ∧ Aside0 (Kd.R k32 32 wc w.heap.size (fun k_ => some k_ ≠ (v110 : Value).ownBlock) v106 t104) ∧ Aside0 (Kd.R k32 32 wc w.heap.size (fun k_ => some k_ ≠ (v106 : Value).ownBlock) v110 t108) ∧ Aside0 (Below w.heap.size w wc))
     case first =>
      have H := HC26.out
      clear HC26
      by_cases c27 : t105 = 0
      ·rw [if_pos c27] at H
       have c27b0 : (t105 == 0) = true := beq_iff_eq.mpr c27
       have c27b1 : (t105 != 0) = false := bne_eq_false_iff_eq.mpr c27
       clear c27
       (first | rw [c27b0] | (simp only [i64_w, i32_w]; rw [c27b0]) | skip)
       have H' := zam H
       clear H
       go_wp2
       go_meet
       case rel => exact ⟨_, ((t109 == 0)), (by first | rfl | (simp; done) | (simp [*]; done)), H', ⟨by have := HJ2.out; have := HJ18.out; first | omega | exact Nat.le_refl _⟩, ⟨by (with_reducible repeat (first | apply zRa | apply zRn | apply zRd)); exact HO_5.out⟩, ⟨by (with_reducible repeat (first | apply zRa | apply zRn | apply zRd)); exact HO_7.out⟩, ⟨by repeat (first | (with_reducible first | exact HB.out | apply zba | apply zbn | apply zb1) | exact HB.out)⟩⟩
      rw [if_neg c27] at H
      have c27b0 : (t105 == 0) = false := beq_eq_false_iff_ne.mpr c27
      have c27b1 : (t105 != 0) = true := bne_iff_ne.mpr c27
      (first | rw [c27b0] | (simp only [i64_w, i32_w]; rw [c27b0]) | skip)
      have H' := zam H
      clear H
      go_wp2
      go_meet
      case rel => exact ⟨_, (false), (by first | rfl | (simp; done) | (simp [*]; done)), H', ⟨by have := HJ2.out; have := HJ18.out; first | omega | exact Nat.le_refl _⟩, ⟨by (with_reducible repeat (first | apply zRa | apply zRn | apply zRd)); exact HO_5.out⟩, ⟨by (with_reducible repeat (first | apply zRa | apply zRn | apply zRd)); exact HO_7.out⟩, ⟨by repeat (first | (with_reducible first | exact HB.out | apply zba | apply zbn | apply zb1) | exact HB.out)⟩⟩
     case rest =>
      clear HC26
      try clear c1
      try clear c2
      try clear p2
      try clear c4
      try clear c4b0
      try clear c4b1
      try clear c5
      try clear c5b0
      try clear c5b1
      try clear c7
      try clear c7b0
      try clear c7b1
      try clear c12
      try clear c18
      try clear c24
      try clear c24b0
      try clear c24b1
      try clear c25
      try clear c27
      try clear c27b0
      try clear c27b1
      try clear p2
      obtain ⟨kq, x71_25, rfl, HA, HJ25, HO_5, HO_7, HB⟩ := hcut
      cases kq with
      | zero => exact absurd HA.out (by simp [isobathlaw01_BoundCounts.j2])
      | succ kj25 =>
       have H := HA.out
       clear HA
       simp only [isobathlaw01_BoundCounts.j2] at H
       have HC28 := zam H
       clear H
       go_upto_if 71 with (fail)
       go_cut [] (fun wc => ∃ (kq : Nat), Aside0 (isobathlaw01_BoundCounts.j3 kq l0 t112 = some r) ∧ Aside0 (kq ≤ kj25) ∧ Aside0 (Below w.heap.size w wc))
       case first =>
        have H := HC28.out
        clear HC28
        by_cases c29 : x71_25 = true
        ·subst c29
         have H1 : ((bound_Count.f kj25 t104).bind fun bt116 => ((bound_Count.f kj25 t108).bind fun bt118 => (if bt116.2 = 0 then (if bt118.2 = 0 then (if (wrap64 (bt116.1 + bt118.1)) = (wrap64 (t112 + t114)) then (isobathlaw01_BoundCounts.j3 kj25 l0 t112) else (none)) else (none)) else (none)))) = some r := by rw [if_pos rfl] at H; exact H
         clear H
         have H := H1
         clear H1
         replace H := Option.bind_eq_some_iff.mp H
         obtain ⟨⟨t116, t117⟩, A300, H⟩ := H
         replace H : ((bound_Count.f kj25 t108).bind fun bt118 => (if t117 = 0 then (if bt118.2 = 0 then (if (wrap64 (t116 + bt118.1)) = (wrap64 (t112 + t114)) then (isobathlaw01_BoundCounts.j3 kj25 l0 t112) else (none)) else (none)) else (none))) = some r := H
         have A30 := zam A300
         clear A300
         replace H := Option.bind_eq_some_iff.mp H
         obtain ⟨⟨t118, t119⟩, A310, H⟩ := H
         replace H : (if t117 = 0 then (if t119 = 0 then (if (wrap64 (t116 + t118)) = (wrap64 (t112 + t114)) then (isobathlaw01_BoundCounts.j3 kj25 l0 t112) else (none)) else (none)) else (none)) = some r := H
         have A31 := zam A310
         clear A310
         by_cases c32 : t117 = 0
         ·rw [if_pos c32] at H
          have c32b0 : (t117 == 0) = true := beq_iff_eq.mpr c32
          have c32b1 : (t117 != 0) = false := bne_eq_false_iff_eq.mpr c32
          clear c32
          (first | rw [c32b0] | (simp only [i64_w, i32_w]; rw [c32b0]) | skip)
          by_cases c33 : t119 = 0
          ·rw [if_pos c33] at H
           have c33b0 : (t119 == 0) = true := beq_iff_eq.mpr c33
           have c33b1 : (t119 != 0) = false := bne_eq_false_iff_eq.mpr c33
           clear c33
           by_cases c34 : (wrap64 (t116 + t118)) = (wrap64 (t112 + t114))
           ·rw [if_pos c34] at H
            have c34b0 : ((wrap64 (t116 + t118)) == (wrap64 (t112 + t114))) = true := beq_iff_eq.mpr c34
            have c34b1 : ((wrap64 (t116 + t118)) != (wrap64 (t112 + t114))) = false := bne_eq_false_iff_eq.mpr c34
            clear c34
            have H' := zam H
            clear H
            obtain ⟨Ao35, co35, eo35⟩ := Kd.R_slice HO_5.out
            subst eo35
            go_wp2_with (first | ((with_reducible refine zgc (f := 42) rfl ?_); refine goesL_ (some 74) rfl rfl Try.func42 (by kernel_rfl) rfl #[.slice Ao35 t104.length co35] rfl (by (try simp only [zmt, List.map_cons, List.map_nil]); first | done | rfl | (simp only [zld, zlt]; rfl)) ?_; (with_reducible refine (bound_Count.calls kj25 _ _ t104 t116 t117 _ ?side1 ?side2 A30.out).mono ?_); (case side1 => repeat (first | exact (Kd.R_reads' HO_5.out).2.2 | (with_reducible refine Kd.C_alloc ?_ _) | (with_reducible refine Kd.C_drewN ?_ _) | (with_reducible refine Kd.C_drew ?_))); (case side2 => exact (Kd.R_reads' HO_5.out).2.1); rintro e w36 ⟨rfl, hb⟩; refine ⟨_, rfl, ?_⟩; have n0_ := zam (Kd.R_below (by (with_reducible repeat (first | apply zRa | apply zRn | apply zRd)); exact HO_5.out) hb); have n1_ := zam (Kd.R_below (by (with_reducible repeat (first | apply zRa | apply zRn | apply zRd)); exact HO_7.out) hb); have n2_ := zam (zbt (by repeat (first | (with_reducible first | exact HB.out | apply zba | apply zbn | apply zb1) | exact HB.out)) hb); clear HO_5; clear HO_7; clear HB; have HO_5 := n0_; have HO_7 := n1_; have HB := n2_; clear n0_ n1_ n2_; (try clear hb); (try clear hb2); (try clear hk); (try clear hi); obtain ⟨Ao37, co37, eo37⟩ := Kd.R_slice HO_7.out; subst eo37) | ((with_reducible refine zgc (f := 42) rfl ?_); refine goesL_ (some 79) rfl rfl Try.func42 (by kernel_rfl) rfl #[.slice Ao37 t108.length co37] rfl (by (try simp only [zmt, List.map_cons, List.map_nil]); first | done | rfl | (simp only [zld, zlt]; rfl)) ?_; (with_reducible refine (bound_Count.calls kj25 _ _ t108 t118 t119 _ ?side1 ?side2 A31.out).mono ?_); (case side1 => repeat (first | exact (Kd.R_reads' HO_7.out).2.2 | (with_reducible refine Kd.C_alloc ?_ _) | (with_reducible refine Kd.C_drewN ?_ _) | (with_reducible refine Kd.C_drew ?_))); (case side2 => exact (Kd.R_reads' HO_7.out).2.1); rintro e w38 ⟨rfl, hb⟩; refine ⟨_, rfl, ?_⟩; have n0_ := zam (Kd.R_below (by (with_reducible repeat (first | apply zRa | apply zRn | apply zRd)); exact HO_5.out) hb); have n1_ := zam (Kd.R_below (by (with_reducible repeat (first | apply zRa | apply zRn | apply zRd)); exact HO_7.out) hb); have n2_ := zam (zbt (by repeat (first | (with_reducible first | exact HB.out | apply zba | apply zbn | apply zb1) | exact HB.out)) hb); clear HO_5; clear HO_7; clear HB; have HO_5 := n0_; have HO_7 := n1_; have HB := n2_; clear n0_ n1_ n2_; (try clear hb); (try clear hb2); (try clear hk); (try clear hi)))
            go_meet
            case rel => exact ⟨_, H', ⟨by have := HJ2.out; have := HJ18.out; have := HJ25.out; first | omega | exact Nat.le_refl _⟩, ⟨by repeat (first | (with_reducible first | exact HB.out | apply zba | apply zbn | apply zb1) | exact HB.out)⟩⟩
           rw [if_neg c34] at H
           exact absurd H (by simp)
          rw [if_neg c33] at H
          exact absurd H (by simp)
         rw [if_neg c32] at H
         exact absurd H (by simp)
        replace c29 := Bool.eq_false_iff.mpr c29
        subst c29
        have H1 : (isobathlaw01_BoundCounts.j3 kj25 l0 t112) = some r := by rw [if_neg (show ¬ (false = true) by decide)] at H; exact H
        clear H
        have H := H1
        clear H1
        have H' := zam H
        clear H
        go_wp2
        go_meet
        case rel => exact ⟨_, H', ⟨by have := HJ2.out; have := HJ18.out; have := HJ25.out; first | omega | exact Nat.le_refl _⟩, ⟨by repeat (first | (with_reducible first | exact HB.out | apply zba | apply zbn | apply zb1) | exact HB.out)⟩⟩
       case rest =>
        clear HC28
        try clear c1
        try clear c2
        try clear p2
        try clear c3
        try clear c4
        try clear c4b0
        try clear c4b1
        try clear c5
        try clear c5b0
        try clear c5b1
        try clear p6
        try clear c7
        try clear c7b0
        try clear c7b1
        try clear c12
        try clear c18
        try clear c24
        try clear c24b0
        try clear c24b1
        try clear c25
        try clear c27
        try clear c27b0
        try clear c27b1
        try clear c29
        try clear c32
        try clear c32b0
        try clear c32b1
        try clear c33
        try clear c33b0
        try clear c33b1
        try clear c34
        try clear c34b0
        try clear c34b1
        try clear p2
        obtain ⟨kq, HA, HJ27, HB⟩ := hcut
        cases kq with
        | zero => exact absurd HA.out (by simp [isobathlaw01_BoundCounts.j3])
        | succ kj27 =>
         have H := HA.out
         clear HA
         simp only [isobathlaw01_BoundCounts.j3] at H
         by_cases c39 : (l0.length : Int) = 0
         ·rw [if_pos c39] at H
          have c39b0 : ((l0.length : Int) == 0) = true := beq_iff_eq.mpr c39
          have c39b1 : ((l0.length : Int) != 0) = false := bne_eq_false_iff_eq.mpr c39
          clear c39
          by_cases c40 : t112 = 0
          ·rw [if_pos c40] at H
           have c40b0 : (t112 == 0) = true := beq_iff_eq.mpr c40
           have c40b1 : (t112 != 0) = false := bne_eq_false_iff_eq.mpr c40
           clear c40
           replace H := Option.bind_eq_some_iff.mp H
           obtain ⟨t120, A410, H⟩ := H
           replace H : (some t120) = some r := H
           have A41 := zam A410
           clear A410
           obtain rfl := zsi H
           go_wp2_with (first | (go_at_call 18; (with_reducible refine (isobathlaw01_Works.calls kj27  t120 _ A41.out).mono ?_); rintro e w42 ⟨rfl, hb⟩; have n0_ := zam (zbt (by repeat (first | (with_reducible first | exact HB.out | apply zba | apply zbn | apply zb1) | exact HB.out)) hb); clear HB; have HB := n0_; clear n0_; (try clear hb); (try clear hb2); (try clear hk); (try clear hi)))
           go_ret
           exact ⟨by first | rfl | (simp [errW_none, errW_some] <;> rfl) | (simp [*, errW_none, errW_some] <;> rfl), by repeat (first | (with_reducible first | exact HB.out | apply zba | apply zbn | apply zb1) | exact HB.out)⟩
          rw [if_neg c40] at H
          exact absurd H (by simp)
         rw [if_neg c39] at H
         have c39b0 : ((l0.length : Int) == 0) = false := beq_eq_false_iff_ne.mpr c39
         have c39b1 : ((l0.length : Int) != 0) = true := bne_iff_ne.mpr c39
         have c39b2 : ¬ (l0 = []) := fun h_ => c39 (by rw [h_]; rfl)
         by_cases c43 : 0 < (l0.length : Int)
         ·rw [if_pos c43] at H
          have c43b0 : decide (0 < (l0.length : Int)) = true := zdt c43
          have c43b1 : decide (0 < l0.length) = true := zdt (by omega)
          clear c43
          obtain ⟨ji44, hji44⟩ : ∃ j_ : Int, (wrap64 ((l0.length : Int) - 1)) = j_ := ⟨_, rfl⟩
          replace H : (if 0 ≤ (ji44) then (if (ji44) < (l0.length : Int) then ((bound_Outside.f kj27 l0 ((rd_T32 l0 0).f0) ((rd_T32 l0 (ji44)).f1)).bind fun bt123 => ((bound_Count.f kj27 bt123.1).bind fun bt127 => (if bt123.2 = 0 then (if bt127.2 = 0 then (if (bt123.1.length : Int) = (ji44) then (if (wrap64 (t112 + bt127.1)) = (wrap64 ((wrap64 (((rd_T32 l0 (ji44)).f1) - ((rd_T32 l0 0).f0))) + 1)) then ((isobathlaw01_Works.f kj27).bind fun t131 => (some t131)) else (none)) else (none)) else (none)) else (none)))) else (none)) else (none)) = some r := by first | (rw [hji44] at H; exact H) | (simp only [hji44] at H ⊢; exact H)
          have hji44w : (IntKind.i64.wrap ((l0.length : Int) - 1)) = ji44 := (i64_w _).trans hji44
          by_cases c45 : 0 ≤ (ji44)
          ·rw [if_pos c45] at H
           have c45b0 : decide (0 ≤ (ji44)) = true := zdt c45
           clear c45
           by_cases c46 : (ji44) < (l0.length : Int)
           ·rw [if_pos c46] at H
            have c46b0 : decide ((ji44) < (l0.length : Int)) = true := zdt c46
            clear c46
            replace H := Option.bind_eq_some_iff.mp H
            obtain ⟨⟨t123, t126⟩, A470, H⟩ := H
            replace H : ((bound_Count.f kj27 t123).bind fun bt127 => (if t126 = 0 then (if bt127.2 = 0 then (if (t123.length : Int) = (ji44) then (if (wrap64 (t112 + bt127.1)) = (wrap64 ((wrap64 (((rd_T32 l0 (ji44)).f1) - ((rd_T32 l0 0).f0))) + 1)) then ((isobathlaw01_Works.f kj27).bind fun t131 => (some t131)) else (none)) else (none)) else (none)) else (none))) = some r := H
            have A47 := zam A470
            clear A470
            replace H := Option.bind_eq_some_iff.mp H
            obtain ⟨⟨t127, t128⟩, A480, H⟩ := H
            replace H : (if t126 = 0 then (if t128 = 0 then (if (t123.length : Int) = (ji44) then (if (wrap64 (t112 + t127)) = (wrap64 ((wrap64 (((rd_T32 l0 (ji44)).f1) - ((rd_T32 l0 0).f0))) + 1)) then ((isobathlaw01_Works.f kj27).bind fun t131 => (some t131)) else (none)) else (none)) else (none)) else (none)) = some r := H
            have A48 := zam A480
            clear A480
            by_cases c49 : t126 = 0
            ·rw [if_pos c49] at H
             have c49b0 : (t126 == 0) = true := beq_iff_eq.mpr c49
             have c49b1 : (t126 != 0) = false := bne_eq_false_iff_eq.mpr c49
             clear c49
             by_cases c50 : t128 = 0
             ·rw [if_pos c50] at H
              have c50b0 : (t128 == 0) = true := beq_iff_eq.mpr c50
              have c50b1 : (t128 != 0) = false := bne_eq_false_iff_eq.mpr c50
              clear c50
              by_cases c51 : (t123.length : Int) = (ji44)
              ·rw [if_pos c51] at H
               have c51b0 : ((t123.length : Int) == (ji44)) = true := beq_iff_eq.mpr c51
               have c51b1 : ((t123.length : Int) != (ji44)) = false := bne_eq_false_iff_eq.mpr c51
               clear c51
               by_cases c52 : (wrap64 (t112 + t127)) = (wrap64 ((wrap64 (((rd_T32 l0 (ji44)).f1) - ((rd_T32 l0 0).f0))) + 1))
               ·rw [if_pos c52] at H
                have c52b0 : ((wrap64 (t112 + t127)) == (wrap64 ((wrap64 (((rd_T32 l0 (ji44)).f1) - ((rd_T32 l0 0).f0))) + 1))) = true := beq_iff_eq.mpr c52
                have c52b1 : ((wrap64 (t112 + t127)) != (wrap64 ((wrap64 (((rd_T32 l0 (ji44)).f1) - ((rd_T32 l0 0).f0))) + 1))) = false := bne_eq_false_iff_eq.mpr c52
                clear c52
                replace H := Option.bind_eq_some_iff.mp H
                obtain ⟨t131, A530, H⟩ := H
                replace H : (some t131) = some r := H
                have A53 := zam A530
                clear A530
                obtain rfl := zsi H
                try go_wp2
                have n0_ := zam (zb1 HB.out)
                clear HB
                have HB := n0_
                clear n0_
                have p121 : 0 ≤ (0 : Int) := (by omega)
                have q121 : 0 < (l0.length : Int) := zod (by first | (with_reducible assumption) | assumption)
                obtain ⟨ad121, e121, hx121_0, hx121_1⟩ := at_T32 HR0.out 0 p121 q121
                have hw121_1 := hx121_1
                (try rw [show ((0 : Int)).toNat = 0 from rfl] at hw121_1)
                (try rw [show 0 * 2 = 0 from rfl] at hw121_1)
                (try rw [Addr.add_zero'] at hw121_1)
                have hw121_0 := hx121_0
                (try rw [show ((0 : Int)).toNat = 0 from rfl] at hw121_0)
                (try rw [show 0 * 2 = 0 from rfl] at hw121_0)
                (try rw [Addr.add_zero'] at hw121_0)
                cases e121
                have qi121 : (0 < l0.length) = True := eq_true (by omega)
                (try rw [show ((0 : Int)).toNat = 0 from rfl] at hx121_0)
                (try rw [show 0 * 2 = 0 from rfl] at hx121_0)
                (try rw [Addr.add_zero'] at hx121_0)
                (try rw [show ((0 : Int)).toNat = 0 from rfl] at hx121_1)
                (try rw [show 0 * 2 = 0 from rfl] at hx121_1)
                (try rw [Addr.add_zero'] at hx121_1)
                replace hx121_0 := (HB.out.cell (zwb w _ hx121_0)).trans hx121_0
                replace hx121_1 := (HB.out.cell (zwb w _ hx121_1)).trans hx121_1
                replace p121 := eq_true p121
                replace q121 := eq_true q121
                have p122 : 0 ≤ ((ji44) : Int) := zod (by first | (with_reducible assumption) | assumption)
                have q122 : (ji44) < (l0.length : Int) := zod (by first | (with_reducible assumption) | assumption)
                obtain ⟨ad122, e122, hx122_0, hx122_1⟩ := at_T32 HR0.out (ji44) p122 q122
                have hw122_1 := hx122_1
                have hw122_0 := hx122_0
                obtain rfl : ad121 = ad122 := (by injection e122)
                replace hx122_0 := (HB.out.cell (zwb w _ hx122_0)).trans hx122_0
                replace hx122_1 := (HB.out.cell (zwb w _ hx122_1)).trans hx122_1
                replace p122 := eq_true p122
                replace q122 := eq_true q122
                refine start_ (n := 19) (S := fun w' => w'.cell? ad121 = some (.int .i64 ((rd_T32 l0 0).f0)) ∧ w'.cell? ⟨ad121.block, ad121.off + 1, none⟩ = some (.int .i64 ((rd_T32 l0 0).f1)) ∧ w'.cell? (ad121.add (((ji44)).toNat * 2)) = some (.int .i64 ((rd_T32 l0 (ji44)).f0)) ∧ w'.cell? ⟨(ad121.add (((ji44)).toNat * 2)).block, (ad121.add (((ji44)).toNat * 2)).off + 1, none⟩ = some (.int .i64 ((rd_T32 l0 (ji44)).f1))) (ds := []) #[false, false, false, false, false, false, false, false, false, false, false, false, false, false, false, false, false, false, false] (by kernel_rfl) rfl rfl ⟨((HB.out.cell (zwb w _ hw121_0)).trans hw121_0), ((HB.out.cell (zwb w _ hw121_1)).trans hw121_1), ((HB.out.cell (zwb w _ hw122_0)).trans hw122_0), ((HB.out.cell (zwb w _ hw122_1)).trans hw122_1)⟩ (fun hHeld => ?_); refine with_tabW isobathlaw01_BoundCounts.tab16 isobathlaw01_BoundCounts.bits16 (fun HT_ HW_ => ?_)
                generalize wc.drew = w54 at HB hx121_0 hx121_1 hx122_0 hx122_1 hHeld ⊢
                refine pure_ (i := 0) (N := some 106) (v := ?_) (a' := ?_) #[true, false, false, false, false, false, false, false, false, false, false, false, false, false, false, false, false, false, false] rfl rfl (any_of HT_.out (by kernel_rfl)) (fun _ _ _ h => h) (Or.inl ⟨by rfl, ?_⟩) ?_ ?_
                rotate_left
                ·intro w'
                 go_simp
                 with_reducible rfl
                rotate_left
                ·simp only [Act.put, zsa, zsz, zss, i64_w, i32_w]
                 rfl
                refine pure_ (i := 1) (N := some 107) (v := ?_) (a' := ?_) #[true, true, false, false, false, false, false, false, false, false, false, false, false, false, false, false, false, false, false] rfl rfl (any_of HT_.out (by kernel_rfl)) (fun _ _ _ h => h) (Or.inl ⟨by rfl, ?_⟩) ?_ ?_
                rotate_left
                ·intro w'
                 go_simp
                 with_reducible rfl
                rotate_left
                ·simp only [Act.put, zsa, zsz, zss, i64_w, i32_w]
                 rfl
                refine pure_ (i := 2) (N := some 108) (v := ?_) (a' := ?_) #[true, true, true, false, false, false, false, false, false, false, false, false, false, false, false, false, false, false, false] rfl rfl (any_of HT_.out (by kernel_rfl)) (fun _ _ _ h => h) (Or.inl ⟨by rfl, ?_⟩) ?_ ?_
                rotate_left
                ·intro w'
                 go_simp
                 with_reducible rfl
                rotate_left
                ·simp only [Act.put, zsa, zsz, zss, i64_w, i32_w]
                 rfl
                refine pure_ (i := 3) (N := some 109) (v := ?_) (a' := ?_) #[true, true, true, true, false, false, false, false, false, false, false, false, false, false, false, false, false, false, false] rfl rfl (any_of HT_.out (by kernel_rfl)) (fun _ _ _ h => h) (Or.inl ⟨by rfl, ?_⟩) ?_ ?_
                rotate_left
                ·intro w'
                 go_simp
                 with_reducible rfl
                rotate_left
                ·simp only [Act.put, zsa, zsz, zss, i64_w, i32_w]
                 rfl
                refine pure_ (i := 5) (N := some 111) (v := ?_) (a' := ?_) #[true, true, true, true, false, true, false, false, false, false, false, false, false, false, false, false, false, false, false] rfl rfl (any_of HT_.out (by kernel_rfl)) (fun _ _ _ h => h) (Or.inl ⟨by rfl, ?_⟩) ?_ ?_
                rotate_left
                ·intro w'
                 go_simp
                 with_reducible rfl
                rotate_left
                ·simp only [Act.put, zsa, zsz, zss, i64_w, i32_w]
                 rfl
                refine pure_ (i := 6) (N := some 112) (v := ?_) (a' := ?_) #[true, true, true, true, false, true, true, false, false, false, false, false, false, false, false, false, false, false, false] rfl rfl (any_of HT_.out (by kernel_rfl)) (fun _ _ _ h => h) (Or.inl ⟨by rfl, ?_⟩) ?_ ?_
                rotate_left
                ·intro w'
                 go_simp
                 with_reducible rfl
                rotate_left
                ·simp only [Act.put, zsa, zsz, zss, i64_w, i32_w]
                 rfl
                refine pure_ (i := 7) (N := some 113) (v := ?_) (a' := ?_) #[true, true, true, true, false, true, true, true, false, false, false, false, false, false, false, false, false, false, false] rfl rfl (any_of HT_.out (by kernel_rfl)) (fun _ _ _ h => h) (Or.inl ⟨by rfl, ?_⟩) ?_ ?_
                rotate_left
                ·intro w'
                 go_simp
                 with_reducible rfl
                rotate_left
                ·simp only [Act.put, zsa, zsz, zss, i64_w, i32_w]
                 rfl
                refine pure_ (i := 8) (N := some 114) (v := ?_) (a' := ?_) #[true, true, true, true, false, true, true, true, true, false, false, false, false, false, false, false, false, false, false] rfl rfl (any_of HT_.out (by kernel_rfl)) (fun _ _ _ h => h) (Or.inl ⟨by rfl, ?_⟩) ?_ ?_
                rotate_left
                ·intro w'
                 go_simp
                 with_reducible rfl
                rotate_left
                ·simp only [Act.put, zsa, zsz, zss, i64_w, i32_w]
                 rfl
                refine pure_ (i := 9) (N := some 115) (v := ?_) (a' := ?_) #[true, true, true, true, false, true, true, true, true, true, false, false, false, false, false, false, false, false, false] rfl rfl (any_of HT_.out (by kernel_rfl)) (fun _ _ _ h => h) (Or.inl ⟨by rfl, ?_⟩) ?_ ?_
                rotate_left
                ·intro w'
                 go_simp
                 with_reducible rfl
                rotate_left
                ·simp only [Act.put, zsa, zsz, zss, i64_w, i32_w]
                 rfl
                refine pure_ (i := 10) (N := some 116) (v := ?_) (a' := ?_) #[true, true, true, true, false, true, true, true, true, true, true, false, false, false, false, false, false, false, false] rfl rfl (any_of HT_.out (by kernel_rfl)) (fun _ _ _ h => h) (Or.inl ⟨by rfl, ?_⟩) ?_ ?_
                rotate_left
                ·intro w'
                 go_simp
                 with_reducible rfl
                rotate_left
                ·simp only [Act.put, zsa, zsz, zss, i64_w, i32_w]
                 rfl
                refine take_ (i := 4) (N := some 110) (v := ?_) (a' := ?_) #[true, true, true, true, true, true, true, true, true, true, true, false, false, false, false, false, false, false, false] rfl rfl (take_ofW HT_.out HW_.out (by kernel_rfl)) (fun _ _ _ h => h) (Or.inl ⟨by rfl, ?_⟩) hHeld ?_ ?_
                rotate_left
                ·rintro w' ⟨s0, s1, s2, s3⟩
                 go_simp
                 with_reducible rfl
                rotate_left
                ·simp only [Act.put, zsa, zsz, zss, i64_w, i32_w]
                 rfl
                refine take_ (i := 11) (N := some 117) (v := ?_) (a' := ?_) #[true, true, true, true, true, true, true, true, true, true, true, true, false, false, false, false, false, false, false] rfl rfl (take_ofW HT_.out HW_.out (by kernel_rfl)) (fun _ _ _ h => h) (Or.inl ⟨by rfl, ?_⟩) hHeld ?_ ?_
                rotate_left
                ·rintro w' ⟨s0, s1, s2, s3⟩
                 go_simp
                 with_reducible rfl
                rotate_left
                ·simp only [Act.put, zsa, zsz, zss, i64_w, i32_w]
                 rfl
                refine pure_ (i := 12) (N := some 118) (v := ?_) (a' := ?_) #[true, true, true, true, true, true, true, true, true, true, true, true, true, false, false, false, false, false, false] rfl rfl (any_of HT_.out (by kernel_rfl)) (fun _ _ _ h => h) (Or.inl ⟨by rfl, ?_⟩) ?_ ?_
                rotate_left
                ·intro w'
                 go_simp
                 with_reducible rfl
                rotate_left
                ·simp only [Act.put, zsa, zsz, zss, i64_w, i32_w]
                 rfl
                refine one_ (i := 13) (N := some 119) #[true, true, true, true, true, true, true, true, true, true, true, true, true, true, false, false, false, false, false] rfl rfl (one_of HT_.out (by kernel_rfl)) (by decide) (fun K hK => ?_)
                refine goes_ Try.func43 (by kernel_rfl) rfl #[.slice (some ad121) l0.length c0, .agg #[.int .i64 ((rd_T32 l0 0).f0), .int .i64 ((rd_T32 l0 (ji44)).f1)]] (by rfl) rfl rfl (by (try simp only [zmt, List.map_cons, List.map_nil]); first | done | (simp only [hji44]; rfl) | rfl | (simp only [zld, zlt]; rfl)) ?_
                with_reducible refine (bound_Outside.calls kj27 _ _ l0 ((rd_T32 l0 0).f0) ((rd_T32 l0 (ji44)).f1) t123 t126 _ ?side1 ?side2 A47.out).mono ?_
                (case side1 => repeat (first | exact (Kd.C_below HR0.out HB.out) | (with_reducible refine Kd.C_alloc ?_ _) | (with_reducible refine Kd.C_drewN ?_ _) | (with_reducible refine Kd.C_drew ?_)))
                (case side2 => exact HC0.out)
                rintro e w55 ⟨v124, rfl, ho0, hb⟩
                refine ⟨_, rfl, ?_⟩
                have n0_ := zam (Kd.R_lower ho0 (zbz (by repeat (first | (with_reducible first | exact HB.out | apply zba | apply zbn | apply zb1) | exact HB.out))))
                have n1_ := zam (zbt (by repeat (first | (with_reducible first | exact HB.out | apply zba | apply zbn | apply zb1) | exact HB.out)) hb)
                clear HB
                have HO125 := n0_
                have HB := n1_
                clear n0_ n1_
                (try clear hb)
                (try clear hb2)
                (try clear hk)
                (try clear hi)
                (try clear ho0)
                refine hK.out _ _ ⟨((HB.out.cell (zwb w _ hw121_0)).trans hw121_0), ((HB.out.cell (zwb w _ hw121_1)).trans hw121_1), ((HB.out.cell (zwb w _ hw122_0)).trans hw122_0), ((HB.out.cell (zwb w _ hw122_1)).trans hw122_1)⟩ (fun hHeld => ?_)
                clear hK K
                refine norm_ (a' := ?_) ?_ ?_
                rotate_left
                ·show Act.put _ (some 119) _ = _
                 simp only [Act.put, zsa, zsz, zss, i64_w, i32_w]
                 rfl
                refine pure_ (i := 14) (N := some 105) (v := ?_) (a' := ?_) #[true, true, true, true, true, true, true, true, true, true, true, true, true, true, true, false, false, false, false] rfl rfl (any_of HT_.out (by kernel_rfl)) (fun _ _ _ h => h) (Or.inl ⟨by rfl, ?_⟩) ?_ ?_
                rotate_left
                ·intro w'
                 go_simp
                 with_reducible rfl
                rotate_left
                ·simp only [Act.put, zsa, zsz, zss, i64_w, i32_w]
                 rfl
                refine pure_ (i := 15) (N := some 120) (v := ?_) (a' := ?_) #[true, true, true, true, true, true, true, true, true, true, true, true, true, true, true, true, false, false, false] rfl rfl (any_of HT_.out (by kernel_rfl)) (fun _ _ _ h => h) (Or.inl ⟨by rfl, ?_⟩) ?_ ?_
                rotate_left
                ·intro w'
                 go_simp
                 with_reducible rfl
                rotate_left
                ·simp only [Act.put, zsa, zsz, zss, i64_w, i32_w]
                 rfl
                refine pure_ (i := 16) (N := some 121) (v := ?_) (a' := ?_) #[true, true, true, true, true, true, true, true, true, true, true, true, true, true, true, true, true, false, false] rfl rfl (any_of HT_.out (by kernel_rfl)) (fun _ _ _ h => h) (Or.inl ⟨by rfl, ?_⟩) ?_ ?_
                rotate_left
                ·intro w'
                 go_simp
                 with_reducible rfl
                rotate_left
                ·simp only [Act.put, zsa, zsz, zss, i64_w, i32_w]
                 rfl
                refine pure_ (i := 17) (N := some 17) (v := ?_) (a' := ?_) #[true, true, true, true, true, true, true, true, true, true, true, true, true, true, true, true, true, true, false] rfl rfl (any_of HT_.out (by kernel_rfl)) (fun _ _ _ h => h) (Or.inl ⟨by rfl, ?_⟩) ?_ ?_
                rotate_left
                ·intro w'
                 go_simp
                 with_reducible rfl
                rotate_left
                ·simp only [Act.put, zsa, zsz, zss, i64_w, i32_w]
                 rfl
                refine pure_ (i := 18) (N := some 6) (v := ?_) (a' := ?_) #[true, true, true, true, true, true, true, true, true, true, true, true, true, true, true, true, true, true, true] rfl rfl (any_of HT_.out (by kernel_rfl)) (fun _ _ _ h => h) (Or.inl ⟨by rfl, ?_⟩) ?_ ?_
                rotate_left
                ·intro w'
                 go_simp
                 with_reducible rfl
                rotate_left
                ·simp only [Act.put, zsa, zsz, zss, i64_w, i32_w]
                 rfl
                refine done_ (done_of HT_.out (by kernel_rfl)) ?_
                obtain ⟨Ao56, co56, eo56⟩ := Kd.R_slice HO125.out
                subst eo56
                try go_wp2_with (first | ((with_reducible refine zgc (f := 42) rfl ?_); refine goesL_ (some 124) rfl rfl Try.func42 (by kernel_rfl) rfl #[.slice Ao56 t123.length co56] rfl (by (try simp only [zmt, List.map_cons, List.map_nil]); first | done | rfl | (simp only [zld, zlt]; rfl)) ?_; (with_reducible refine (bound_Count.calls kj27 _ _ t123 t127 t128 _ ?side1 ?side2 A48.out).mono ?_); (case side1 => repeat (first | exact (Kd.R_reads' HO125.out).2.2 | (with_reducible refine Kd.C_alloc ?_ _) | (with_reducible refine Kd.C_drewN ?_ _) | (with_reducible refine Kd.C_drew ?_))); (case side2 => exact (Kd.R_reads' HO125.out).2.1); rintro e w57 ⟨rfl, hb⟩; refine ⟨_, rfl, ?_⟩; have n0_ := zam (Kd.R_below (by (with_reducible repeat (first | apply zRa | apply zRn | apply zRd)); exact HO125.out) hb); have n1_ := zam (zbt (by repeat (first | (with_reducible first | exact HB.out | apply zba | apply zbn | apply zb1) | exact HB.out)) hb); clear HO125; clear HB; have HO125 := n0_; have HB := n1_; clear n0_ n1_; (try clear hb); (try clear hb2); (try clear hk); (try clear hi)))
                have n0_ := zam (zRd HO125.out)
                have n1_ := zam (zb1 HB.out)
                clear HO125
                clear HB
                have HO125 := n0_
                have HB := n1_
                clear n0_ n1_
                have p129 : 0 ≤ ((ji44) : Int) := zod (by first | (with_reducible assumption) | assumption)
                have q129 : (ji44) < (l0.length : Int) := zod (by first | (with_reducible assumption) | assumption)
                obtain ⟨ad129, e129, hx129_0, hx129_1⟩ := at_T32 HR0.out (ji44) p129 q129
                have hw129_1 := hx129_1
                have hw129_0 := hx129_0
                obtain rfl : ad121 = ad129 := (by injection e129)
                replace hx129_0 := (HB.out.cell (zwb w _ hx129_0)).trans hx129_0
                replace hx129_1 := (HB.out.cell (zwb w _ hx129_1)).trans hx129_1
                replace p129 := eq_true p129
                replace q129 := eq_true q129
                have p130 : 0 ≤ (0 : Int) := (by omega)
                have q130 : 0 < (l0.length : Int) := zod (by first | (with_reducible assumption) | assumption)
                obtain ⟨ad130, e130, hx130_0, hx130_1⟩ := at_T32 HR0.out 0 p130 q130
                have hw130_1 := hx130_1
                (try rw [show ((0 : Int)).toNat = 0 from rfl] at hw130_1)
                (try rw [show 0 * 2 = 0 from rfl] at hw130_1)
                (try rw [Addr.add_zero'] at hw130_1)
                have hw130_0 := hx130_0
                (try rw [show ((0 : Int)).toNat = 0 from rfl] at hw130_0)
                (try rw [show 0 * 2 = 0 from rfl] at hw130_0)
                (try rw [Addr.add_zero'] at hw130_0)
                obtain rfl : ad121 = ad130 := (by injection e130)
                have qi130 : (0 < l0.length) = True := eq_true (by omega)
                (try rw [show ((0 : Int)).toNat = 0 from rfl] at hx130_0)
                (try rw [show 0 * 2 = 0 from rfl] at hx130_0)
                (try rw [Addr.add_zero'] at hx130_0)
                (try rw [show ((0 : Int)).toNat = 0 from rfl] at hx130_1)
                (try rw [show 0 * 2 = 0 from rfl] at hx130_1)
                (try rw [Addr.add_zero'] at hx130_1)
                replace hx130_0 := (HB.out.cell (zwb w _ hx130_0)).trans hx130_0
                replace hx130_1 := (HB.out.cell (zwb w _ hx130_1)).trans hx130_1
                replace p130 := eq_true p130
                replace q130 := eq_true q130
                refine start_ (n := 37) (S := fun w' => w'.cell? (ad121.add (((ji44)).toNat * 2)) = some (.int .i64 ((rd_T32 l0 (ji44)).f0)) ∧ w'.cell? ⟨(ad121.add (((ji44)).toNat * 2)).block, (ad121.add (((ji44)).toNat * 2)).off + 1, none⟩ = some (.int .i64 ((rd_T32 l0 (ji44)).f1)) ∧ w'.cell? ad121 = some (.int .i64 ((rd_T32 l0 0).f0)) ∧ w'.cell? ⟨ad121.block, ad121.off + 1, none⟩ = some (.int .i64 ((rd_T32 l0 0).f1))) (ds := []) #[false, false, false, false, false, false, false, false, false, false, false, false, false, false, false, false, false, false, false, false, false, false, false, false, false, false, false, false, false, false, false, false, false, false, false, false, false] (by kernel_rfl) rfl rfl ⟨((HB.out.cell (zwb w _ hw129_0)).trans hw129_0), ((HB.out.cell (zwb w _ hw129_1)).trans hw129_1), ((HB.out.cell (zwb w _ hw130_0)).trans hw130_0), ((HB.out.cell (zwb w _ hw130_1)).trans hw130_1)⟩ (fun hHeld => ?_); refine with_tabW isobathlaw01_BoundCounts.tab18 isobathlaw01_BoundCounts.bits18 (fun HT_ HW_ => ?_)
                generalize w57.drew = w58 at HO125 HB hx129_0 hx129_1 hx130_0 hx130_1 hHeld ⊢
                refine pure_ (i := 0) (N := some 127) (v := ?_) (a' := ?_) #[true, false, false, false, false, false, false, false, false, false, false, false, false, false, false, false, false, false, false, false, false, false, false, false, false, false, false, false, false, false, false, false, false, false, false, false, false] rfl rfl (any_of HT_.out (by kernel_rfl)) (fun _ _ _ h => h) (Or.inl ⟨by rfl, ?_⟩) ?_ ?_
                rotate_left
                ·intro w'
                 go_simp
                 with_reducible rfl
                rotate_left
                ·simp only [Act.put, zsa, zsz, zss, i64_w, i32_w]
                 rfl
                refine pure_ (i := 1) (N := some 128) (v := ?_) (a' := ?_) #[true, true, false, false, false, false, false, false, false, false, false, false, false, false, false, false, false, false, false, false, false, false, false, false, false, false, false, false, false, false, false, false, false, false, false, false, false] rfl rfl (any_of HT_.out (by kernel_rfl)) (fun _ _ _ h => h) (Or.inl ⟨by rfl, ?_⟩) ?_ ?_
                rotate_left
                ·intro w'
                 go_simp
                 with_reducible rfl
                rotate_left
                ·simp only [Act.put, zsa, zsz, zss, i64_w, i32_w]
                 rfl
                refine pure_ (i := 2) (N := some 129) (v := ?_) (a' := ?_) #[true, true, true, false, false, false, false, false, false, false, false, false, false, false, false, false, false, false, false, false, false, false, false, false, false, false, false, false, false, false, false, false, false, false, false, false, false] rfl rfl (any_of HT_.out (by kernel_rfl)) (fun _ _ _ h => h) (Or.inl ⟨by rfl, ?_⟩) ?_ ?_
                rotate_left
                ·intro w'
                 go_simp
                 with_reducible rfl
                rotate_left
                ·simp only [Act.put, zsa, zsz, zss, i64_w, i32_w]
                 rfl
                refine pure_ (i := 3) (N := some 130) (v := ?_) (a' := ?_) #[true, true, true, true, false, false, false, false, false, false, false, false, false, false, false, false, false, false, false, false, false, false, false, false, false, false, false, false, false, false, false, false, false, false, false, false, false] rfl rfl (any_of HT_.out (by kernel_rfl)) (fun _ _ _ h => h) (Or.inl ⟨by rfl, ?_⟩) ?_ ?_
                rotate_left
                ·intro w'
                 go_simp
                 with_reducible rfl
                rotate_left
                ·simp only [Act.put, zsa, zsz, zss, i64_w, i32_w]
                 rfl
                refine pure_ (i := 4) (N := some 131) (v := ?_) (a' := ?_) #[true, true, true, true, true, false, false, false, false, false, false, false, false, false, false, false, false, false, false, false, false, false, false, false, false, false, false, false, false, false, false, false, false, false, false, false, false] rfl rfl (any_of HT_.out (by kernel_rfl)) (fun _ _ _ h => h) (Or.inl ⟨by rfl, ?_⟩) ?_ ?_
                rotate_left
                ·intro w'
                 go_simp
                 with_reducible rfl
                rotate_left
                ·simp only [Act.put, zsa, zsz, zss, i64_w, i32_w]
                 rfl
                refine pure_ (i := 5) (N := some 132) (v := ?_) (a' := ?_) #[true, true, true, true, true, true, false, false, false, false, false, false, false, false, false, false, false, false, false, false, false, false, false, false, false, false, false, false, false, false, false, false, false, false, false, false, false] rfl rfl (any_of HT_.out (by kernel_rfl)) (fun _ _ _ h => h) (Or.inl ⟨by rfl, ?_⟩) ?_ ?_
                rotate_left
                ·intro w'
                 go_simp
                 with_reducible rfl
                rotate_left
                ·simp only [Act.put, zsa, zsz, zss, i64_w, i32_w]
                 rfl
                refine pure_ (i := 6) (N := some 133) (v := ?_) (a' := ?_) #[true, true, true, true, true, true, true, false, false, false, false, false, false, false, false, false, false, false, false, false, false, false, false, false, false, false, false, false, false, false, false, false, false, false, false, false, false] rfl rfl (any_of HT_.out (by kernel_rfl)) (fun _ _ _ h => h) (Or.inl ⟨by rfl, ?_⟩) ?_ ?_
                rotate_left
                ·intro w'
                 go_simp
                 with_reducible rfl
                rotate_left
                ·simp only [Act.put, zsa, zsz, zss, i64_w, i32_w]
                 rfl
                refine pure_ (i := 7) (N := some 134) (v := ?_) (a' := ?_) #[true, true, true, true, true, true, true, true, false, false, false, false, false, false, false, false, false, false, false, false, false, false, false, false, false, false, false, false, false, false, false, false, false, false, false, false, false] rfl rfl (any_of HT_.out (by kernel_rfl)) (fun _ _ _ h => h) (Or.inl ⟨by rfl, ?_⟩) ?_ ?_
                rotate_left
                ·intro w'
                 go_simp
                 with_reducible rfl
                rotate_left
                ·simp only [Act.put, zsa, zsz, zss, i64_w, i32_w]
                 rfl
                refine pure_ (i := 8) (N := some 135) (v := ?_) (a' := ?_) #[true, true, true, true, true, true, true, true, true, false, false, false, false, false, false, false, false, false, false, false, false, false, false, false, false, false, false, false, false, false, false, false, false, false, false, false, false] rfl rfl (any_of HT_.out (by kernel_rfl)) (fun _ _ _ h => h) (Or.inl ⟨by rfl, ?_⟩) ?_ ?_
                rotate_left
                ·intro w'
                 go_simp
                 with_reducible rfl
                rotate_left
                ·simp only [Act.put, zsa, zsz, zss, i64_w, i32_w]
                 rfl
                refine pure_ (i := 9) (N := some 136) (v := ?_) (a' := ?_) #[true, true, true, true, true, true, true, true, true, true, false, false, false, false, false, false, false, false, false, false, false, false, false, false, false, false, false, false, false, false, false, false, false, false, false, false, false] rfl rfl (any_of HT_.out (by kernel_rfl)) (fun _ _ _ h => h) (Or.inl ⟨by rfl, ?_⟩) ?_ ?_
                rotate_left
                ·intro w'
                 go_simp
                 with_reducible rfl
                rotate_left
                ·simp only [Act.put, zsa, zsz, zss, i64_w, i32_w]
                 rfl
                refine pure_ (i := 10) (N := some 137) (v := ?_) (a' := ?_) #[true, true, true, true, true, true, true, true, true, true, true, false, false, false, false, false, false, false, false, false, false, false, false, false, false, false, false, false, false, false, false, false, false, false, false, false, false] rfl rfl (any_of HT_.out (by kernel_rfl)) (fun _ _ _ h => h) (Or.inl ⟨by rfl, ?_⟩) ?_ ?_
                rotate_left
                ·intro w'
                 go_simp
                 with_reducible rfl
                rotate_left
                ·simp only [Act.put, zsa, zsz, zss, i64_w, i32_w]
                 rfl
                refine pure_ (i := 11) (N := some 138) (v := ?_) (a' := ?_) #[true, true, true, true, true, true, true, true, true, true, true, true, false, false, false, false, false, false, false, false, false, false, false, false, false, false, false, false, false, false, false, false, false, false, false, false, false] rfl rfl (any_of HT_.out (by kernel_rfl)) (fun _ _ _ h => h) (Or.inl ⟨by rfl, ?_⟩) ?_ ?_
                rotate_left
                ·intro w'
                 go_simp
                 with_reducible rfl
                rotate_left
                ·simp only [Act.put, zsa, zsz, zss, i64_w, i32_w]
                 rfl
                refine pure_ (i := 12) (N := some 139) (v := ?_) (a' := ?_) #[true, true, true, true, true, true, true, true, true, true, true, true, true, false, false, false, false, false, false, false, false, false, false, false, false, false, false, false, false, false, false, false, false, false, false, false, false] rfl rfl (any_of HT_.out (by kernel_rfl)) (fun _ _ _ h => h) (Or.inl ⟨by rfl, ?_⟩) ?_ ?_
                rotate_left
                ·intro w'
                 go_simp
                 with_reducible rfl
                rotate_left
                ·simp only [Act.put, zsa, zsz, zss, i64_w, i32_w]
                 rfl
                refine pure_ (i := 13) (N := some 140) (v := ?_) (a' := ?_) #[true, true, true, true, true, true, true, true, true, true, true, true, true, true, false, false, false, false, false, false, false, false, false, false, false, false, false, false, false, false, false, false, false, false, false, false, false] rfl rfl (any_of HT_.out (by kernel_rfl)) (fun _ _ _ h => h) (Or.inl ⟨by rfl, ?_⟩) ?_ ?_
                rotate_left
                ·intro w'
                 go_simp
                 with_reducible rfl
                rotate_left
                ·simp only [Act.put, zsa, zsz, zss, i64_w, i32_w]
                 rfl
                refine pure_ (i := 14) (N := some 141) (v := ?_) (a' := ?_) #[true, true, true, true, true, true, true, true, true, true, true, true, true, true, true, false, false, false, false, false, false, false, false, false, false, false, false, false, false, false, false, false, false, false, false, false, false] rfl rfl (any_of HT_.out (by kernel_rfl)) (fun _ _ _ h => h) (Or.inl ⟨by rfl, ?_⟩) ?_ ?_
                rotate_left
                ·intro w'
                 go_simp
                 with_reducible rfl
                rotate_left
                ·simp only [Act.put, zsa, zsz, zss, i64_w, i32_w]
                 rfl
                refine pure_ (i := 15) (N := some 142) (v := ?_) (a' := ?_) #[true, true, true, true, true, true, true, true, true, true, true, true, true, true, true, true, false, false, false, false, false, false, false, false, false, false, false, false, false, false, false, false, false, false, false, false, false] rfl rfl (any_of HT_.out (by kernel_rfl)) (fun _ _ _ h => h) (Or.inl ⟨by rfl, ?_⟩) ?_ ?_
                rotate_left
                ·intro w'
                 go_simp
                 with_reducible rfl
                rotate_left
                ·simp only [Act.put, zsa, zsz, zss, i64_w, i32_w]
                 rfl
                refine pure_ (i := 16) (N := some 143) (v := ?_) (a' := ?_) #[true, true, true, true, true, true, true, true, true, true, true, true, true, true, true, true, true, false, false, false, false, false, false, false, false, false, false, false, false, false, false, false, false, false, false, false, false] rfl rfl (any_of HT_.out (by kernel_rfl)) (fun _ _ _ h => h) (Or.inl ⟨by rfl, ?_⟩) ?_ ?_
                rotate_left
                ·intro w'
                 go_simp
                 with_reducible rfl
                rotate_left
                ·simp only [Act.put, zsa, zsz, zss, i64_w, i32_w]
                 rfl
                refine pure_ (i := 17) (N := some 144) (v := ?_) (a' := ?_) #[true, true, true, true, true, true, true, true, true, true, true, true, true, true, true, true, true, true, false, false, false, false, false, false, false, false, false, false, false, false, false, false, false, false, false, false, false] rfl rfl (any_of HT_.out (by kernel_rfl)) (fun _ _ _ h => h) (Or.inl ⟨by rfl, ?_⟩) ?_ ?_
                rotate_left
                ·intro w'
                 go_simp
                 with_reducible rfl
                rotate_left
                ·simp only [Act.put, zsa, zsz, zss, i64_w, i32_w]
                 rfl
                refine pure_ (i := 18) (N := some 145) (v := ?_) (a' := ?_) #[true, true, true, true, true, true, true, true, true, true, true, true, true, true, true, true, true, true, true, false, false, false, false, false, false, false, false, false, false, false, false, false, false, false, false, false, false] rfl rfl (any_of HT_.out (by kernel_rfl)) (fun _ _ _ h => h) (Or.inl ⟨by rfl, ?_⟩) ?_ ?_
                rotate_left
                ·intro w'
                 go_simp
                 with_reducible rfl
                rotate_left
                ·simp only [Act.put, zsa, zsz, zss, i64_w, i32_w]
                 rfl
                refine pure_ (i := 19) (N := some 146) (v := ?_) (a' := ?_) #[true, true, true, true, true, true, true, true, true, true, true, true, true, true, true, true, true, true, true, true, false, false, false, false, false, false, false, false, false, false, false, false, false, false, false, false, false] rfl rfl (any_of HT_.out (by kernel_rfl)) (fun _ _ _ h => h) (Or.inl ⟨by rfl, ?_⟩) ?_ ?_
                rotate_left
                ·intro w'
                 go_simp
                 with_reducible rfl
                rotate_left
                ·simp only [Act.put, zsa, zsz, zss, i64_w, i32_w]
                 rfl
                refine pure_ (i := 20) (N := some 147) (v := ?_) (a' := ?_) #[true, true, true, true, true, true, true, true, true, true, true, true, true, true, true, true, true, true, true, true, true, false, false, false, false, false, false, false, false, false, false, false, false, false, false, false, false] rfl rfl (any_of HT_.out (by kernel_rfl)) (fun _ _ _ h => h) (Or.inl ⟨by rfl, ?_⟩) ?_ ?_
                rotate_left
                ·intro w'
                 go_simp
                 with_reducible rfl
                rotate_left
                ·simp only [Act.put, zsa, zsz, zss, i64_w, i32_w]
                 rfl
                refine pure_ (i := 21) (N := some 148) (v := ?_) (a' := ?_) #[true, true, true, true, true, true, true, true, true, true, true, true, true, true, true, true, true, true, true, true, true, true, false, false, false, false, false, false, false, false, false, false, false, false, false, false, false] rfl rfl (any_of HT_.out (by kernel_rfl)) (fun _ _ _ h => h) (Or.inl ⟨by rfl, ?_⟩) ?_ ?_
                rotate_left
                ·intro w'
                 go_simp
                 with_reducible rfl
                rotate_left
                ·simp only [Act.put, zsa, zsz, zss, i64_w, i32_w]
                 rfl
                refine pure_ (i := 22) (N := some 149) (v := ?_) (a' := ?_) #[true, true, true, true, true, true, true, true, true, true, true, true, true, true, true, true, true, true, true, true, true, true, true, false, false, false, false, false, false, false, false, false, false, false, false, false, false] rfl rfl (any_of HT_.out (by kernel_rfl)) (fun _ _ _ h => h) (Or.inl ⟨by rfl, ?_⟩) ?_ ?_
                rotate_left
                ·intro w'
                 go_simp
                 with_reducible rfl
                rotate_left
                ·simp only [Act.put, zsa, zsz, zss, i64_w, i32_w]
                 rfl
                refine pure_ (i := 23) (N := some 150) (v := ?_) (a' := ?_) #[true, true, true, true, true, true, true, true, true, true, true, true, true, true, true, true, true, true, true, true, true, true, true, true, false, false, false, false, false, false, false, false, false, false, false, false, false] rfl rfl (any_of HT_.out (by kernel_rfl)) (fun _ _ _ h => h) (Or.inl ⟨by rfl, ?_⟩) ?_ ?_
                rotate_left
                ·intro w'
                 go_simp
                 with_reducible rfl
                rotate_left
                ·simp only [Act.put, zsa, zsz, zss, i64_w, i32_w]
                 rfl
                refine pure_ (i := 25) (N := some 152) (v := ?_) (a' := ?_) #[true, true, true, true, true, true, true, true, true, true, true, true, true, true, true, true, true, true, true, true, true, true, true, true, false, true, false, false, false, false, false, false, false, false, false, false, false] rfl rfl (any_of HT_.out (by kernel_rfl)) (fun _ _ _ h => h) (Or.inl ⟨by rfl, ?_⟩) ?_ ?_
                rotate_left
                ·intro w'
                 go_simp
                 with_reducible rfl
                rotate_left
                ·simp only [Act.put, zsa, zsz, zss, i64_w, i32_w]
                 rfl
                refine pure_ (i := 26) (N := some 153) (v := ?_) (a' := ?_) #[true, true, true, true, true, true, true, true, true, true, true, true, true, true, true, true, true, true, true, true, true, true, true, true, false, true, true, false, false, false, false, false, false, false, false, false, false] rfl rfl (any_of HT_.out (by kernel_rfl)) (fun _ _ _ h => h) (Or.inl ⟨by rfl, ?_⟩) ?_ ?_
                rotate_left
                ·intro w'
                 go_simp
                 with_reducible rfl
                rotate_left
                ·simp only [Act.put, zsa, zsz, zss, i64_w, i32_w]
                 rfl
                refine pure_ (i := 27) (N := some 154) (v := ?_) (a' := ?_) #[true, true, true, true, true, true, true, true, true, true, true, true, true, true, true, true, true, true, true, true, true, true, true, true, false, true, true, true, false, false, false, false, false, false, false, false, false] rfl rfl (any_of HT_.out (by kernel_rfl)) (fun _ _ _ h => h) (Or.inl ⟨by rfl, ?_⟩) ?_ ?_
                rotate_left
                ·intro w'
                 go_simp
                 with_reducible rfl
                rotate_left
                ·simp only [Act.put, zsa, zsz, zss, i64_w, i32_w]
                 rfl
                refine take_ (i := 24) (N := some 151) (v := ?_) (a' := ?_) #[true, true, true, true, true, true, true, true, true, true, true, true, true, true, true, true, true, true, true, true, true, true, true, true, true, true, true, true, false, false, false, false, false, false, false, false, false] rfl rfl (take_ofW HT_.out HW_.out (by kernel_rfl)) (fun _ _ _ h => h) (Or.inl ⟨by rfl, ?_⟩) hHeld ?_ ?_
                rotate_left
                ·rintro w' ⟨s0, s1, s2, s3⟩
                 go_simp
                 with_reducible rfl
                rotate_left
                ·simp only [Act.put, zsa, zsz, zss, i64_w, i32_w]
                 rfl
                refine take_ (i := 28) (N := some 155) (v := ?_) (a' := ?_) #[true, true, true, true, true, true, true, true, true, true, true, true, true, true, true, true, true, true, true, true, true, true, true, true, true, true, true, true, true, false, false, false, false, false, false, false, false] rfl rfl (take_ofW HT_.out HW_.out (by kernel_rfl)) (fun _ _ _ h => h) (Or.inl ⟨by rfl, ?_⟩) hHeld ?_ ?_
                rotate_left
                ·rintro w' ⟨s0, s1, s2, s3⟩
                 go_simp
                 with_reducible rfl
                rotate_left
                ·simp only [Act.put, zsa, zsz, zss, i64_w, i32_w]
                 rfl
                refine pure_ (i := 29) (N := some 156) (v := ?_) (a' := ?_) #[true, true, true, true, true, true, true, true, true, true, true, true, true, true, true, true, true, true, true, true, true, true, true, true, true, true, true, true, true, true, false, false, false, false, false, false, false] rfl rfl (any_of HT_.out (by kernel_rfl)) (fun _ _ _ h => h) (Or.inl ⟨by rfl, ?_⟩) ?_ ?_
                rotate_left
                ·intro w'
                 go_simp
                 with_reducible rfl
                rotate_left
                ·simp only [Act.put, zsa, zsz, zss, i64_w, i32_w]
                 rfl
                refine pure_ (i := 30) (N := some 157) (v := ?_) (a' := ?_) #[true, true, true, true, true, true, true, true, true, true, true, true, true, true, true, true, true, true, true, true, true, true, true, true, true, true, true, true, true, true, true, false, false, false, false, false, false] rfl rfl (any_of HT_.out (by kernel_rfl)) (fun _ _ _ h => h) (Or.inl ⟨by rfl, ?_⟩) ?_ ?_
                rotate_left
                ·intro w'
                 go_simp
                 with_reducible rfl
                rotate_left
                ·simp only [Act.put, zsa, zsz, zss, i64_w, i32_w]
                 rfl
                refine pure_ (i := 31) (N := some 158) (v := ?_) (a' := ?_) #[true, true, true, true, true, true, true, true, true, true, true, true, true, true, true, true, true, true, true, true, true, true, true, true, true, true, true, true, true, true, true, true, false, false, false, false, false] rfl rfl (any_of HT_.out (by kernel_rfl)) (fun _ _ _ h => h) (Or.inl ⟨by rfl, ?_⟩) ?_ ?_
                rotate_left
                ·intro w'
                 go_simp
                 with_reducible rfl
                rotate_left
                ·simp only [Act.put, zsa, zsz, zss, i64_w, i32_w]
                 rfl
                refine pure_ (i := 32) (N := some 159) (v := ?_) (a' := ?_) #[true, true, true, true, true, true, true, true, true, true, true, true, true, true, true, true, true, true, true, true, true, true, true, true, true, true, true, true, true, true, true, true, true, false, false, false, false] rfl rfl (any_of HT_.out (by kernel_rfl)) (fun _ _ _ h => h) (Or.inl ⟨by rfl, ?_⟩) ?_ ?_
                rotate_left
                ·intro w'
                 go_simp
                 with_reducible rfl
                rotate_left
                ·simp only [Act.put, zsa, zsz, zss, i64_w, i32_w]
                 rfl
                refine pure_ (i := 33) (N := some 160) (v := ?_) (a' := ?_) #[true, true, true, true, true, true, true, true, true, true, true, true, true, true, true, true, true, true, true, true, true, true, true, true, true, true, true, true, true, true, true, true, true, true, false, false, false] rfl rfl (any_of HT_.out (by kernel_rfl)) (fun _ _ _ h => h) (Or.inl ⟨by rfl, ?_⟩) ?_ ?_
                rotate_left
                ·intro w'
                 go_simp
                 with_reducible rfl
                rotate_left
                ·simp only [Act.put, zsa, zsz, zss, i64_w, i32_w]
                 rfl
                refine one_ (i := 34) (N := some 161) #[true, true, true, true, true, true, true, true, true, true, true, true, true, true, true, true, true, true, true, true, true, true, true, true, true, true, true, true, true, true, true, true, true, true, true, false, false] rfl rfl (one_of HT_.out (by kernel_rfl)) (by decide) (fun K hK => ?_)
                refine goes_ Try.func18 (by kernel_rfl) rfl #[] (by rfl) rfl rfl (by (try simp only [zmt, List.map_cons, List.map_nil]); first | done | rfl | (simp only [zld, zlt]; rfl)) ?_
                with_reducible refine (isobathlaw01_Works.calls kj27  t131 _ A53.out).mono ?_
                rintro e w59 ⟨rfl, hb⟩
                refine ⟨_, rfl, ?_⟩
                have n0_ := zam (Kd.R_below (by (with_reducible repeat (first | apply zRa | apply zRn | apply zRd)); exact HO125.out) hb)
                have n1_ := zam (zbt (by repeat (first | (with_reducible first | exact HB.out | apply zba | apply zbn | apply zb1) | exact HB.out)) hb)
                clear HO125
                clear HB
                have HO125 := n0_
                have HB := n1_
                clear n0_ n1_
                (try clear hb)
                (try clear hb2)
                (try clear hk)
                (try clear hi)
                refine hK.out _ _ ⟨((HB.out.cell (zwb w _ hw129_0)).trans hw129_0), ((HB.out.cell (zwb w _ hw129_1)).trans hw129_1), ((HB.out.cell (zwb w _ hw130_0)).trans hw130_0), ((HB.out.cell (zwb w _ hw130_1)).trans hw130_1)⟩ (fun hHeld => ?_)
                clear hK K
                refine norm_ (a' := ?_) ?_ ?_
                rotate_left
                ·show Act.put _ (some 161) _ = _
                 simp only [Act.put, zsa, zsz, zss, i64_w, i32_w]
                 rfl
                refine pure_ (i := 35) (N := some 162) (v := ?_) (a' := ?_) #[true, true, true, true, true, true, true, true, true, true, true, true, true, true, true, true, true, true, true, true, true, true, true, true, true, true, true, true, true, true, true, true, true, true, true, true, false] rfl rfl (any_of HT_.out (by kernel_rfl)) (fun _ _ _ h => h) (Or.inl ⟨by rfl, ?_⟩) ?_ ?_
                rotate_left
                ·intro w'
                 go_simp
                 with_reducible rfl
                rotate_left
                ·simp only [Act.put, zsa, zsz, zss, i64_w, i32_w]
                 rfl
                refine pure_ (i := 36) (N := some 4) (v := ?_) (a' := ?_) #[true, true, true, true, true, true, true, true, true, true, true, true, true, true, true, true, true, true, true, true, true, true, true, true, true, true, true, true, true, true, true, true, true, true, true, true, true] rfl rfl (any_of HT_.out (by kernel_rfl)) (fun _ _ _ h => h) (Or.inl ⟨by rfl, ?_⟩) ?_ ?_
                rotate_left
                ·intro w'
                 go_simp
                 with_reducible rfl
                rotate_left
                ·simp only [Act.put, zsa, zsz, zss, i64_w, i32_w]
                 rfl
                refine done_ (done_of HT_.out (by kernel_rfl)) ?_
                try go_wp2
                go_ret
                exact ⟨by first | rfl | (simp [errW_none, errW_some] <;> rfl) | (simp only [← hji44]; first | rfl | (simp [errW_none, errW_some] <;> rfl)) | (simp [*, errW_none, errW_some] <;> rfl), by repeat (first | (with_reducible first | exact HB.out | apply zba | apply zbn | apply zb1) | exact HB.out)⟩
               rw [if_neg c52] at H
               have c52b0 : ((wrap64 (t112 + t127)) == (wrap64 ((wrap64 (((rd_T32 l0 (ji44)).f1) - ((rd_T32 l0 0).f0))) + 1))) = false := beq_eq_false_iff_ne.mpr c52
               have c52b1 : ((wrap64 (t112 + t127)) != (wrap64 ((wrap64 (((rd_T32 l0 (ji44)).f1) - ((rd_T32 l0 0).f0))) + 1))) = true := bne_iff_ne.mpr c52
               exact absurd H (by simp)
              rw [if_neg c51] at H
              have c51b0 : ((t123.length : Int) == (ji44)) = false := beq_eq_false_iff_ne.mpr c51
              have c51b1 : ((t123.length : Int) != (ji44)) = true := bne_iff_ne.mpr c51
              exact absurd H (by simp)
             rw [if_neg c50] at H
             have c50b0 : (t128 == 0) = false := beq_eq_false_iff_ne.mpr c50
             have c50b1 : (t128 != 0) = true := bne_iff_ne.mpr c50
             exact absurd H (by simp)
            rw [if_neg c49] at H
            have c49b0 : (t126 == 0) = false := beq_eq_false_iff_ne.mpr c49
            have c49b1 : (t126 != 0) = true := bne_iff_ne.mpr c49
            exact absurd H (by simp)
           rw [if_neg c46] at H
           exact absurd H (by simp)
          rw [if_neg c45] at H
          exact absurd H (by simp)
         rw [if_neg c43] at H
         exact absurd H (by simp)
end Go.Proofs.Ytlkafgibgipodaa.P
namespace Go.Proofs.Ytlkafgibgipodaa.P
open Go.RowKit Go.Proofs.YtlkafgibgipodaaW.PrintWords Go.Proofs.YtlkafgibgipodaaW.PrintLast Go.Proofs.YtlkafgibgipodaaW.PrintMore
namespace boundCounts
open Go.ChangeShapes Go.WideShapes Go.ChangeAt
set_option linter.unusedVariables false
set_option linter.unusedSimpArgs false
def B32 (x : S32) : Prop := (fun n : Int => (Lit.int .i64 n).wf = true) x.f0 ∧ (fun n : Int => (Lit.int .i64 n).wf = true) x.f1
theorem opens32 : Opens Try.prog 32 k32 B32 := Opens.struct (fs := _) Try.underlying32 (fun x : S32 => (x.f0, x.f1)) (fun t => ⟨t.1, t.2⟩) (fun _ => rfl) (OpensF.cons rfl (by kernel_rfl) (Opens.int Try.underlying2) (OpensF.last rfl (by kernel_rfl) (Opens.int Try.underlying2)))
def Pure : Prop := ∀ (x0 : (List S32)) (x1 : (List S32)), (fun xs : List S32 => xs.length ≤ 9223372036854775807 ∧ ∀ x ∈ xs, B32 x) x0 → (fun xs : List S32 => xs.length ≤ 9223372036854775807 ∧ ∀ x ∈ xs, B32 x) x1 → ∃ k, isobathlaw01_BoundCounts.f k x0 x1 = some true
theorem own : ownKnob Try.prog.godebug = none := by kernel_rfl
theorem laidOut : laidOutB Try.prog = true := by kernel_rfl
set_option maxRecDepth 100000 in
theorem lifted (hP : Pure) (os : Os) (started : os.Started) (H : Type) (enc : TypeId × Value → H) :
  ReturnsInHanded {} Try.checked os 7 .any (Rows.boundCountsSpec.pre6 enc Try.prog Try.f7 Rows.boundCountsRow.domain false) (Rows.boundCountsSpec.post enc Try.prog Try.f7 false true false false) := by
 refine returnsInHanded_of_change_sized (C := Try.checked) own started (by kernel_rfl) Try.func7
  (ChangeSpec.witness6 (enc := enc) (C := Try.checked) false ⟨#[], #[.slice none 0 0, .slice none 0 0], []⟩ 8 (by kernel_rfl) (by kernel_rfl) (by kernel_rfl) (by kernel_rfl)) ?_
 intro W base args ds gs before hval0 hW hcnd hsz0 _
 have hval : ∀ (j : Nat) t v, Try.f7.params[j]? = some t → args[j]? = some v → Value.okWide Try.prog W .any base t v := hval0
 have hW' := hW
 obtain ⟨p, q, hA0, hV, rfl, hfz, hnd⟩ := hW
 have hA : DataW.TrodAll enc Try.prog W 0 (fun _ => true) true Try.f7.params.toList args.toList ds p := hA0
 rw [Try.params7] at hA hval
 obtain ⟨v0, vs0, d0, ds0, p0, q0, hargs, rfl, rfl, h0, r0⟩ := trodAll_cons hA
 obtain ⟨v1, vs1, d1, ds1, p1, q1, rfl, rfl, rfl, h1, r1⟩ := trodAll_cons r0
 obtain ⟨rfl, rfl, rfl⟩ := trodAll_nil r1
 obtain rfl : args = #[v0, v1] := by cases args; simp_all
 obtain ⟨rfl, rfl⟩ := trodVars_none hV
 have k0 := h0
 have lt0 : ∀ x ∈ p0, x.block < W.heap.size := by obtain ⟨m, hm⟩ := k0; exact DataW.trod_lt m _ _ _ hm
 obtain ⟨m0, hm0⟩ := h0
 obtain ⟨x0, hk0, w0⟩ := Opens.run (Opens.slice Try.underlying44 (by kernel_rfl) opens32) hm0
 obtain ⟨a0, len0, cap0, rfl⟩ := okWide_slice Try.underlying44 (hval 0 44 v0 rfl rfl)
 obtain ⟨A0, c0, hcs0, hc0, hr0⟩ := hk0
 simp [Value.cells] at hcs0
 obtain ⟨rfl, rfl, rfl⟩ := hcs0
 have k1 := h1
 have lt1 : ∀ x ∈ p1, x.block < W.heap.size := by obtain ⟨m, hm⟩ := k1; exact DataW.trod_lt m _ _ _ hm
 obtain ⟨m1, hm1⟩ := h1
 obtain ⟨x1, hk1, w1⟩ := Opens.run (Opens.slice Try.underlying44 (by kernel_rfl) opens32) hm1
 obtain ⟨a1, len1, cap1, rfl⟩ := okWide_slice Try.underlying44 (hval 1 44 v1 rfl rfl)
 obtain ⟨A1, c1, hcs1, hc1, hr1⟩ := hk1
 simp [Value.cells] at hcs1
 obtain ⟨rfl, rfl, rfl⟩ := hcs1
 clear hA0 hval0 hsz0
 obtain ⟨k, hf⟩ := hP x0 x1 w0 w1
 refine (isobathlaw01_BoundCounts.calls (k := k) (A0 := a0) (c0 := cap0) (l0 := x0) (A1 := a1) (c1 := cap1) (l1 := x1) (r := true) (w := W) (hr0 := hr0) (hc0 := hc0) (hr1 := hr1) (hc1 := hc1) (h := hf)).mono fun e W' ⟨he, hd⟩ => ?_
 have bel : Below W.heap.size W W' := by first | exact hd | (obtain ⟨m, rfl⟩ := hd; exact zbn (Below.refl _ _) m)
 subst he
 exact ⟨_, rfl, _, _, _, [], _, [], hW', trodAll_mk1 (shut_bool Try.underlying4 _), (trodAll_cons_mk (Below.trod laidOut (by kernel_rfl) (zod (by kernel_rfl)) k0 bel lt0) (trodAll_cons_mk (Below.trod laidOut (by kernel_rfl) (zod (by kernel_rfl)) k1 bel lt1) trodAll_mk0)), rfl, bel.frame _, fun h => by cases h⟩
theorem over (hP : Pure) : Rows.boundCountsRow.holds Try.pinned (OpenSpec.ofChange Rows.boundCountsSpec) :=
 OpenClaim.holds_of_wide 7 Try.f7 rfl rfl rfl rfl rfl rfl rfl ⟨rfl, rfl, rfl, rfl, rfl⟩ rfl rfl rfl rfl rfl (by kernel_rfl) Try.func7 (by kernel_rfl)
  (zod (by kernel_rfl)) (by unfold Func.isWrapper; first | (rw [if_pos (by decide +kernel)]; kernel_rfl) | (rw [if_neg (by decide +kernel)]; exact ⟨rfl, rfl⟩))
  (fun os started H enc _ => lifted hP os started H enc)
theorem proved (hP : Pure) : Rows.BoundCountsSaid := over hP
end boundCounts
end Go.Proofs.Ytlkafgibgipodaa.P
namespace Go.Proofs.Ytlkafgibgipodaa.P
open Go.RowKit Go.Proofs.YtlkafgibgipodaaW.PrintWords Go.Proofs.YtlkafgibgipodaaW.PrintLast Go.Proofs.YtlkafgibgipodaaW.PrintMore
attribute [local go_sem] max2_int min2_int max_two min_two max_three min_three max_four min_four   -- for this text's walks alone
set_option linter.unusedVariables false
set_option linter.unusedSimpArgs false
theorem Bnd.check2 {a b : S32} (ha : Bnd.okB a = true) (hb : Bnd.okB b = true) {k : Nat} (hk : 3 ≤ k) : bound_check.f k [a, b] = some 0 := by
 rw [Bnd.check_f (by simp) (by simp; omega), if_pos (by simp [ha, hb])]
theorem Bo.check2 (a b c d : Int) {k : Nat} (hk : 20 ≤ k) : bound_check.f k [(⟨a, b⟩ : S32), (⟨c, d⟩ : S32)] = some (if Bo.v a b ∧ Bo.v c d then 0 else 2) := by
 rw [Bnd.check_f (by simp) (by simp; omega)]
 congr 1
 by_cases h : Bo.v a b ∧ Bo.v c d
 ·rw [if_pos h, if_pos (by simp only [List.all_cons, List.all_nil, Bool.and_true, Bool.and_eq_true]; exact ⟨Bnd.okB_iff.2 h.1, Bnd.okB_iff.2 h.2⟩)]
 rw [if_neg h, if_neg (by simp only [List.all_cons, List.all_nil, Bool.and_true, Bool.and_eq_true]; exact fun e => h ⟨Bnd.okB_iff.1 e.1, Bnd.okB_iff.1 e.2⟩)]
theorem Bo.over (a b : Int) {k : Nat} (hk : 20 ≤ k) : bound_over.f k a b = some (Bo.res a b) := by
 unfold bound_over.f Bo.res
 rw [Bo.check1 a b hk, Option.bind_some]
 by_cases h : Bo.v a b
 ·rw [if_pos h, if_pos h]; rfl
 rw [if_neg h, if_neg h]; rfl
theorem Bo.rd0 (a : Int) (l : List Int) : rd (a :: l) 0 = a := rfl
def Bo.most : List Int → Int
 | [] => 0
 | a :: l => l.foldl max a
theorem Bo.min_l0 (xs : List Int) (hl : xs.length ≤ 9223372036854775807) : ∀ (n k i : Nat) (m : Int), i + n = xs.length → n < k → slices_Min_int64_int64.l0 k xs m (i : Int) = some ((xs.drop i).foldl min m) := by
 intro n
 induction n with
 | zero =>
  intro k i m hi hk
  obtain ⟨k, rfl⟩ : ∃ m, k = m + 1 := ⟨k - 1, by omega⟩
  simp only [slices_Min_int64_int64.l0]
  rw [if_neg (by omega), List.drop_of_length_le (by omega)]
  rfl
 | succ n ih =>
  intro k i m hi hk
  obtain ⟨k, rfl⟩ : ∃ m, k = m + 1 := ⟨k - 1, by omega⟩
  have hlt : i < xs.length := by omega
  simp only [slices_Min_int64_int64.l0]
  rw [if_pos (by omega), if_pos (by omega), wrap_succ hlt hl, ih k (i + 1) _ (by omega) (by omega), rd_nat hlt, drop_cons hlt, List.foldl_cons, Bo.mnE]
theorem Bo.max_l0 (xs : List Int) (hl : xs.length ≤ 9223372036854775807) : ∀ (n k i : Nat) (m : Int), i + n = xs.length → n < k → slices_Max_int64_int64.l0 k xs m (i : Int) = some ((xs.drop i).foldl max m) := by
 intro n
 induction n with
 | zero =>
  intro k i m hi hk
  obtain ⟨k, rfl⟩ : ∃ m, k = m + 1 := ⟨k - 1, by omega⟩
  simp only [slices_Max_int64_int64.l0]
  rw [if_neg (by omega), List.drop_of_length_le (by omega)]
  rfl
 | succ n ih =>
  intro k i m hi hk
  obtain ⟨k, rfl⟩ : ∃ m, k = m + 1 := ⟨k - 1, by omega⟩
  have hlt : i < xs.length := by omega
  simp only [slices_Max_int64_int64.l0]
  rw [if_pos (by omega), if_pos (by omega), wrap_succ hlt hl, ih k (i + 1) _ (by omega) (by omega), rd_nat hlt, drop_cons hlt, List.foldl_cons, Bo.mxE]
theorem Bo.min_f (a : Int) (l : List Int) {k : Nat} (hl : l.length ≤ 10) (hk : 20 ≤ k) : slices_Min_int64_int64.f k (a :: l) = some (Bo.least (a :: l)) := by
 unfold slices_Min_int64_int64.f
 rw [if_neg (by simp only [List.length_cons]; omega), if_pos (by simp only [List.length_cons]; omega)]
 have := Bo.min_l0 (a :: l) (by simp only [List.length_cons]; omega) l.length k 1 (rd (a :: l) 0) (by simp only [List.length_cons]; omega) (by omega)
 rw [Bo.rd0] at this
 exact this
theorem Bo.max_f (a : Int) (l : List Int) {k : Nat} (hl : l.length ≤ 10) (hk : 20 ≤ k) : slices_Max_int64_int64.f k (a :: l) = some (Bo.most (a :: l)) := by
 unfold slices_Max_int64_int64.f
 rw [if_neg (by simp only [List.length_cons]; omega), if_pos (by simp only [List.length_cons]; omega)]
 have := Bo.max_l0 (a :: l) (by simp only [List.length_cons]; omega) l.length k 1 (rd (a :: l) 0) (by simp only [List.length_cons]; omega) (by omega)
 rw [Bo.rd0] at this
 exact this
theorem Bo.least_f (a : Int) (l : List Int) {k : Nat} (hl : l.length ≤ 10) (hk : 20 ≤ k) : bound_least.f k (a :: l) = some (Bo.least (a :: l), Bo.most (a :: l)) := by
 unfold bound_least.f
 rw [Bo.min_f a l hl hk, Option.bind_some, Bo.max_f a l hl hk, Option.bind_some]
theorem Bo.mul_le {a b : Int} (h1 : -1073741824 ≤ a) (h2 : a ≤ 1073741824) (h3 : -1073741824 ≤ b) (h4 : b ≤ 1073741824) : -1152921504606846976 ≤ a * b ∧ a * b ≤ 1152921504606846976 := by
 have h : (a * b).natAbs ≤ 1073741824 * 1073741824 := by
  rw [Int.natAbs_mul]
  exact Nat.mul_le_mul (by omega) (by omega)
 omega
def Bo.mul (a0 a1 b0 b1 : Int) : Int × Int × Int := Bo.op2 a0 a1 b0 b1 (Bo.res (min (min (min (a0 * b0) (a0 * b1)) (a1 * b0)) (a1 * b1)) (max (max (max (a0 * b0) (a0 * b1)) (a1 * b0)) (a1 * b1)))
theorem Bo.mul_w {a b : Int} (h1 : -1073741824 ≤ a) (h2 : a ≤ 1073741824) (h3 : -1073741824 ≤ b) (h4 : b ≤ 1073741824) : wrap64 (a * b) = a * b := by
 have := Bo.mul_le h1 h2 h3 h4
 exact wrap_id (by omega) (by omega)
theorem Bo.mul_b (a0 a1 b0 b1 : Int) {k : Nat} (hk : 20 ≤ k) : bound_Mul.f k a0 a1 b0 b1 = some (Bo.mul a0 a1 b0 b1) := by
 unfold bound_Mul.f Bo.mul Bo.op2
 rw [Bo.check2 _ _ _ _ hk, Option.bind_some]
 by_cases h : Bo.v a0 a1 ∧ Bo.v b0 b1
 ·obtain ⟨⟨h1, h2, h3⟩, h4, h5, h6⟩ := id h
  rw [if_pos h, if_pos rfl, if_pos h, Bo.mul_w (by omega) (by omega) (by omega) (by omega), Bo.mul_w (by omega) (by omega) (by omega) (by omega), Bo.mul_w (by omega) (by omega) (by omega) (by omega), Bo.mul_w (by omega) (by omega) (by omega) (by omega), Bo.least_f _ _ (by simp) hk, Option.bind_some, Bo.over _ _ hk]
  rfl
 rw [if_neg h, if_neg h]
 rfl
theorem Bo.tdiv_abs {n d M : Int} (hd : d ≠ 0) (h1 : -M ≤ n) (h2 : n ≤ M) : -M ≤ Int.tdiv n d ∧ Int.tdiv n d ≤ M := by
 have := Int.natAbs_tdiv_le_natAbs n d
 omega
theorem Bo.fl_of_rest {n d : Int} (hd : d ≠ 0) : Bo.fl n d = if Int.tmod n d ≠ 0 ∧ (Int.tmod n d < 0 ↔ 0 < d) then Int.tdiv n d - 1 else Int.tdiv n d := by
 have e1 := Int.mul_tdiv_add_tmod n d
 have key : ∀ (m d q r : Int), 0 < d → d * q + r = m → 0 ≤ r → r < d → m / d = q := by
  intro m d q r hd e h0 h1
  refine Int.ediv_eq_iff_of_pos hd |>.2 ?_
  have := Int.mul_comm d q
  have e2 : (q + 1) * d = q * d + d := by rw [Int.add_mul, Int.one_mul]
  omega
 by_cases q : d < 0
 ·have hr : (Int.tmod n d).natAbs < d.natAbs := by
   rw [← Int.natAbs_neg d]
   have := Int.natAbs_tmod n d
   have h3 := Nat.mod_lt n.natAbs (show 0 < d.natAbs by omega)
   omega
  unfold Bo.fl
  rw [if_pos q]
  by_cases c : Int.tmod n d ≠ 0 ∧ (Int.tmod n d < 0 ↔ 0 < d)
  ·rw [if_pos c]
   obtain ⟨c1, c2⟩ := c
   have c3 : ¬ Int.tmod n d < 0 := fun h => by have := c2.1 h; omega
   refine key (-n) (-d) _ (-d - Int.tmod n d) (by omega) ?_ (by omega) (by omega)
   have : -d * (Int.tdiv n d - 1) = -(d * Int.tdiv n d) + d := by
    rw [Int.mul_sub, Int.neg_mul]
    omega
   omega
  rw [if_neg c]
  have c3 : Int.tmod n d ≤ 0 := by
   rcases Int.lt_trichotomy (Int.tmod n d) 0 with h | h | h
   ·omega
   ·omega
   exact absurd ⟨by omega, by constructor <;> intro _ <;> omega⟩ c
  refine key (-n) (-d) _ (-Int.tmod n d) (by omega) ?_ (by omega) (by omega)
  rw [Int.neg_mul]
  omega
 have hr : (Int.tmod n d).natAbs < d.natAbs := by
  have := Int.natAbs_tmod n d
  have h3 := Nat.mod_lt n.natAbs (show 0 < d.natAbs by omega)
  omega
 unfold Bo.fl
 rw [if_neg q]
 by_cases c : Int.tmod n d ≠ 0 ∧ (Int.tmod n d < 0 ↔ 0 < d)
 ·rw [if_pos c]
  obtain ⟨c1, c2⟩ := c
  have c3 : Int.tmod n d < 0 := c2.2 (by omega)
  refine key n d _ (d + Int.tmod n d) (by omega) ?_ (by omega) (by omega)
  have : d * (Int.tdiv n d - 1) = d * Int.tdiv n d - d := by rw [Int.mul_sub, Int.mul_one]
  omega
 rw [if_neg c]
 have c3 : 0 ≤ Int.tmod n d := by
  rcases Int.lt_trichotomy (Int.tmod n d) 0 with h | h | h
  ·exact absurd ⟨by omega, by constructor <;> intro _ <;> omega⟩ c
  ·omega
  omega
 exact key n d _ (Int.tmod n d) (by omega) e1 (by omega) (by omega)
theorem Bo.cl_of_rest {n d : Int} (hd : d ≠ 0) : Bo.cl n d = if Int.tmod n d ≠ 0 ∧ (Int.tmod n d < 0 ↔ d < 0) then Int.tdiv n d + 1 else Int.tdiv n d := by
 unfold Bo.cl
 rw [Bo.fl_of_rest hd, Int.neg_tmod, Int.neg_tdiv]
 by_cases c : Int.tmod n d ≠ 0 ∧ (Int.tmod n d < 0 ↔ d < 0)
 ·rw [if_pos c, if_pos (by omega)]
  omega
 rw [if_neg c, if_neg (by omega)]
 omega
theorem Bo.div_f (up : Bool) {n d : Int} (hd : d ≠ 0) (h1 : -4611686018427387904 ≤ n) (h2 : n ≤ 4611686018427387904) {k : Nat} (hk : 20 ≤ k) : bound_round_div.f k up n d = some (if up = true then Bo.cl n d else Bo.fl n d) := by
 obtain ⟨k, rfl⟩ : ∃ m, k = m + 1 := ⟨k - 1, by omega⟩
 have ht := Bo.tdiv_abs hd h1 h2
 unfold bound_round_div.f
 simp only [bound_round_div.j0]
 have w0 : wrap64 (Int.tdiv n d) = Int.tdiv n d := wrap_id (by omega) (by omega)
 have w1 : wrap64 (Int.tdiv n d + 1) = Int.tdiv n d + 1 := wrap_id (by omega) (by omega)
 have w2 : wrap64 (Int.tdiv n d - 1) = Int.tdiv n d - 1 := wrap_id (by omega) (by omega)
 rw [if_neg hd, Bo.fl_of_rest hd, Bo.cl_of_rest hd, w0, w1, w2]
 by_cases c : Int.tmod n d = 0
 ·rw [if_pos c, if_neg (by simp)]
  cases up <;> simp [c]
 rw [if_neg c]
 by_cases a : Int.tmod n d < 0 <;> by_cases b : d < 0 <;> cases up <;> simp [a, b, c] <;> omega
theorem Bo.div_b (a0 a1 b0 b1 : Int) {k : Nat} (hk : 20 ≤ k) : bound_Div.f k a0 a1 b0 b1 = some (Bo.div a0 a1 b0 b1) := by
 unfold bound_Div.f Bo.div Bo.op2
 rw [Bo.check2 _ _ _ _ hk, Option.bind_some]
 by_cases h : Bo.v a0 a1 ∧ Bo.v b0 b1
 ·obtain ⟨⟨h1, h2, h3⟩, h4, h5, h6⟩ := id h
  rw [if_pos h, if_pos rfl, if_pos h]
  have rest : ¬ (b0 ≤ 0 ∧ 0 ≤ b1) → ((Bd.div k false a0 a1 b0 b1).bind fun lo => (Bd.div k true a0 a1 b0 b1).bind fun hi => (slices_Min_int64_int64.f k lo).bind fun m => (slices_Max_int64_int64.f k hi).bind fun x => bound_over.f k m x) = some (Bo.res (min (min (min (Bo.fl a0 b0) (Bo.fl a0 b1)) (Bo.fl a1 b0)) (Bo.fl a1 b1)) (max (max (max (Bo.cl a0 b0) (Bo.cl a0 b1)) (Bo.cl a1 b0)) (Bo.cl a1 b1))) := by
   intro q
   have n0 : b0 ≠ 0 := by omega
   have n1 : b1 ≠ 0 := by omega
   unfold Bd.div
   rw [Bo.div_f false n0 (by omega) (by omega) hk, Bo.div_f false n1 (by omega) (by omega) hk, Bo.div_f false n0 (by omega) (by omega) hk, Bo.div_f false n1 (by omega) (by omega) hk]
   rw [Bo.div_f true n0 (by omega) (by omega) hk, Bo.div_f true n1 (by omega) (by omega) hk, Bo.div_f true n0 (by omega) (by omega) hk, Bo.div_f true n1 (by omega) (by omega) hk]
   simp only [Option.bind_some, Bool.false_eq_true, if_false, if_true]
   rw [Bo.min_f _ _ (by simp) hk, Option.bind_some, Bo.max_f _ _ (by simp) hk, Option.bind_some, Bo.over _ _ hk]
   rfl
  by_cases q0 : b0 ≤ 0
  ·rw [if_pos q0]
   by_cases q1 : b1 ≥ 0
   ·rw [if_pos q1, if_pos ⟨q0, q1⟩]
   rw [if_neg q1, rest (by omega), if_neg (by omega)]
  rw [if_neg q0, rest (by omega), if_neg (by omega)]
 rw [if_neg h, if_neg h]
 rfl
def Rt.IsRoot (n r : Int) : Prop := 0 ≤ r ∧ r * r ≤ n ∧ n < (r + 1) * (r + 1)
theorem Rt.sq_le {a b : Int} (h : 0 ≤ a) (h1 : a ≤ b) : a * a ≤ b * b := Int.mul_le_mul h1 h1 h (by omega)
theorem Rt.lt_of_sq {a b : Int} (hb : 0 ≤ b) (h : a * a < b * b) : a < b := by
 rcases Int.lt_or_le a b with h1 | h1
 ·exact h1
 have := Rt.sq_le hb h1
 omega
theorem Rt.IsRoot.unique {n r s : Int} (h : Rt.IsRoot n r) (h' : Rt.IsRoot n s) : r = s := by
 have a : r < s + 1 := Rt.lt_of_sq (by have := h'.1; omega) (Int.lt_of_le_of_lt h.2.1 h'.2.2)
 have b : s < r + 1 := Rt.lt_of_sq (by have := h.1; omega) (Int.lt_of_le_of_lt h'.2.1 h.2.2)
 omega
mutual
def isobathref01_Line.j0 : Nat → Int → Int → Int → Bool → Int → Int → Int → Int → Option (Int × Int × Int)
 | 0, _, _, _, _, _, _, _, _ => none
 | k + 1, x0, x2, x4, x19, x102000, x102001, x103000, x103001 => if x19 = true then (some (0, 0, 2)) else (if x0 < 0 then (isobathref01_Line.j1 k x0 x2 x4 true x102000 x102001 x103000 x103001) else (if x2 > 1073741824 then (isobathref01_Line.j1 k x0 x2 x4 true x102000 x102001 x103000 x103001) else (if x0 ≥ x2 then (isobathref01_Line.j1 k x0 x2 x4 true x102000 x102001 x103000 x103001) else ((isobathref01_Within.f x4 x0 x2).bind fun t106 => (isobathref01_Line.j1 k x0 x2 x4 (!t106) x102000 x102001 x103000 x103001)))))
def isobathref01_Line.j1 : Nat → Int → Int → Int → Bool → Int → Int → Int → Int → Option (Int × Int × Int)
 | 0, _, _, _, _, _, _, _, _ => none
 | k + 1, x0, x2, x4, x38, x102000, x102001, x103000, x103001 => if x38 = true then (some (0, 0, 3)) else ((isobathref01_Down.f k (wrap64 ((wrap64 (x102000 * (wrap64 (x2 - x4)))) + (wrap64 (x103000 * (wrap64 (x4 - x0)))))) (wrap64 (x2 - x0))).bind fun t107 => ((isobathref01_Up.f k (wrap64 ((wrap64 (x102001 * (wrap64 (x2 - x4)))) + (wrap64 (x103001 * (wrap64 (x4 - x0)))))) (wrap64 (x2 - x0))).bind fun t108 => ((isobathref01_result.f t107 t108).bind fun bt109 => (some (bt109.1, bt109.2.1, bt109.2.2)))))
end
def Bo.grow (a0 a1 n : Int) : Int × Int × Int := if Bo.v a0 a1 then (if 0 ≤ n ∧ n ≤ 1073741824 then Bo.res (a0 - n) (a1 + n) else (0, 0, 3)) else (0, 0, 2)
mutual
def isobathref01_In.j0 : Nat → Bool → Int → Int → Int → Int → Option (Int × Int)
 | 0, _, _, _, _, _ => none
 | k + 1, x13, x102000, x102001, x103000, x103001 => if x13 = true then (some (0, 2)) else (if x102000 ≥ x103000 then (isobathref01_In.j1 k (decide (x102001 ≤ x103001)) x102000 x102001 x103000 x103001) else (isobathref01_In.j1 k false x102000 x102001 x103000 x103001))
def isobathref01_In.j1 : Nat → Bool → Int → Int → Int → Int → Option (Int × Int)
 | 0, _, _, _, _, _ => none
 | k + 1, x25, x102000, x102001, x103000, x103001 => if x25 = true then (some (2, 0)) else (if x102001 < x103000 then (some (0, 0)) else (if x102000 > x103001 then (some (0, 0)) else (some (1, 0))))
end
def Bo.ansB (x : Int) : Bool := decide (0 ≤ x) && decide (x ≤ 2)
def Bo.ans (l : List Int) : Int := if (l.length : Int) > 256 then 6 else if l.all Bo.ansB = true then 0 else 2
def Bo.all (l : List Int) : Int × Int := if Bo.ans l = 0 then (l.foldl min 2, 0) else (0, Bo.ans l)
def Bo.any (l : List Int) : Int × Int := if Bo.ans l = 0 then (l.foldl max 0, 0) else (0, Bo.ans l)
def Bo.vb (a0 a1 a2 a3 : Int) : Prop := Bo.v a0 a1 ∧ Bo.v a2 a3 ∧ -268435456 ≤ a0 ∧ a1 ≤ 268435456 ∧ -268435456 ≤ a2 ∧ a3 ≤ 268435456
instance Bo.vbDec (a0 a1 a2 a3 : Int) : Decidable (Bo.vb a0 a1 a2 a3) := inferInstanceAs (Decidable (_ ∧ _))
def Bo.far (a0 a1 b0 b1 : Int) : Int := max (a1 - b0) (b1 - a0)
theorem Bo.works {k : Nat} (hk : 20 ≤ k) : isobathlaw01_Works.f k = some true := by
 unfold isobathlaw01_Works.f bound_Cover.f
 rw [Bo.mul_b _ _ _ _ hk, Bo.div_b _ _ _ _ hk]
 rw [Bnd.check_f (by simp) (by simp; omega)]
 decide +kernel
def Cn.cnt (p : Int → Bool) : Nat → Int
 | 0 => 0
 | m + 1 => Cn.cnt p m + if p ((m : Int) - 1073741824) = true then 1 else 0
theorem Cn.incl {p q r u : Int → Bool} (hr : ∀ n, r n = (p n || q n)) (hu : ∀ n, u n = (p n && q n)) : ∀ m : Nat, Cn.cnt r m + Cn.cnt u m = Cn.cnt p m + Cn.cnt q m
 | 0 => rfl
 | m + 1 => by
  have ih := Cn.incl hr hu m
  simp only [Cn.cnt]
  rw [hr, hu]
  cases p ((m : Int) - 1073741824) <;> cases q ((m : Int) - 1073741824) <;> simp <;> omega
theorem Cn.none {p : Int → Bool} (h : ∀ n, p n = false) : ∀ m : Nat, Cn.cnt p m = 0
 | 0 => rfl
 | m + 1 => by
  simp only [Cn.cnt]
  rw [h, Cn.none h m]
  rfl
theorem Cn.span {lo hi : Int} (h : lo ≤ hi) (h1 : -1073741824 ≤ lo) : ∀ m : Nat, Cn.cnt (fun n => decide (lo ≤ n) && decide (n ≤ hi)) m = max 0 (min hi ((m : Int) - 1 - 1073741824) - lo + 1)
 | 0 => by
  simp only [Cn.cnt]
  omega
 | m + 1 => by
  simp only [Cn.cnt]
  rw [Cn.span h h1 m]
  by_cases q : lo ≤ (m : Int) - 1073741824 ∧ (m : Int) - 1073741824 ≤ hi
  ·rw [if_pos (by simp only [Bool.and_eq_true, decide_eq_true_eq]; exact q)]
   omega
  rw [if_neg (by simp only [Bool.and_eq_true, decide_eq_true_eq]; exact q)]
  omega
theorem Cn.sum {m : Nat} (hm : 2147483649 ≤ m) : ∀ {l : List S32}, Bd.Normal l → Bs.sum l = Cn.cnt (fun n => l.any (Bd.has n)) m
 | [], _ => (Cn.none (fun _ => rfl) m).symm
 | s :: l, h => by
  obtain ⟨a, b, c⟩ := h.2 s List.mem_cons_self
  have ih := Cn.sum hm h.tail
  have hs := Cn.span a b m
  have hi := Cn.incl (p := fun n => decide (s.f0 ≤ n) && decide (n ≤ s.f1)) (q := fun n => l.any (Bd.has n)) (r := fun n => (s :: l).any (Bd.has n)) (u := fun _ => false) (fun n => rfl) (fun n => by
   symm
   rw [Bool.and_eq_false_iff]
   by_cases q : l.any (Bd.has n) = true
   ·left
    have := h.far ((Bs.any_mem l n).1 q)
    rw [← Bool.decide_and]
    exact zdf (by omega)
   right
   exact Bool.eq_false_iff.2 q) m
  have h0 := Cn.none (p := fun _ => false) (fun _ => rfl) m
  rw [Bs.sum, ih]
  rw [hs, h0] at hi
  omega
theorem Cn.unite {s t u c : List S32} (hs : Bd.Normal s) (ht : Bd.Normal t) (hu : Bd.Normal u) (hc : Bd.Normal c) (mu : ∀ n, Bd.mem u n ↔ Bd.mem s n ∨ Bd.mem t n) (mc : ∀ n, Bd.mem c n ↔ Bd.mem s n ∧ Bd.mem t n) : Bs.sum u + Bs.sum c = Bs.sum s + Bs.sum t := by
 obtain ⟨m, hm⟩ : ∃ m : Nat, 2147483649 ≤ m := ⟨2147483649, Nat.le.refl⟩
 rw [Cn.sum hm hs, Cn.sum hm ht, Cn.sum hm hu, Cn.sum hm hc]
 refine Cn.incl (fun n => ?_) (fun n => ?_) m
 ·rw [Bool.eq_iff_iff, Bool.or_eq_true, Bs.any_mem, Bs.any_mem, Bs.any_mem]
  exact mu n
 rw [Bool.eq_iff_iff, Bool.and_eq_true, Bs.any_mem, Bs.any_mem, Bs.any_mem]
 exact mc n
def Cn.last : S32 → List S32 → S32
 | x, [] => x
 | _, y :: l => Cn.last y l
def Cn.gaps : S32 → List S32 → List S32
 | _, [] => []
 | x, y :: l => ⟨x.f1 + 1, y.f0 - 1⟩ :: Cn.gaps y l
theorem Cn.last_get : ∀ (x : S32) (l : List S32), (x :: l)[l.length]? = some (Cn.last x l)
 | x, [] => rfl
 | x, y :: l => by
  rw [List.length_cons, List.getElem?_cons_succ]
  exact Cn.last_get y l
theorem Cn.gaps_spec : ∀ (l : List S32) (x : S32), Bd.Normal (x :: l) → Bd.Normal (Cn.gaps x l) ∧ (∀ e ∈ Cn.gaps x l, x.f1 + 1 ≤ e.f0) ∧ (∀ n, Bd.mem (Cn.gaps x l) n ↔ (x.f0 ≤ n ∧ n ≤ (Cn.last x l).f1) ∧ ¬ Bd.mem (x :: l) n) ∧ Bs.sum (x :: l) + Bs.sum (Cn.gaps x l) = (Cn.last x l).f1 - x.f0 + 1 ∧ (Cn.gaps x l).length = l.length ∧ Bd.ok ⟨x.f0, (Cn.last x l).f1⟩
 | [], x, h => by
  obtain ⟨a, b, c⟩ := h.2 x List.mem_cons_self
  refine ⟨Bs.normal_nil, fun _ h => (by cases h), fun n => ?_, ?_, rfl, ⟨a, b, c⟩⟩
  ·rw [Bd.mem_cons]
   constructor
   ·exact fun h => absurd h (Bd.mem_nil n)
   rintro ⟨h1, h2⟩
   exact absurd (.inl h1) h2
  simp only [Bs.sum, Cn.gaps, Cn.last]
  omega
 | y :: l, x, h => by
  obtain ⟨g1, g2, g3, g4, g5, g6⟩ := Cn.gaps_spec l y h.tail
  obtain ⟨a, b, c⟩ := h.2 x List.mem_cons_self
  obtain ⟨a', b', c'⟩ := h.2 y (List.mem_cons_of_mem _ List.mem_cons_self)
  have hxy := (List.pairwise_cons.1 h.1).1 y List.mem_cons_self
  obtain ⟨l1, l2, l3⟩ := g6
  have l1 : y.f0 ≤ (Cn.last y l).f1 := l1
  have l3 : (Cn.last y l).f1 ≤ 1073741824 := l3
  refine ⟨⟨List.pairwise_cons.2 ⟨fun e he => ?_, g1.1⟩, fun e he => ?_⟩, fun e he => ?_, fun n => ?_, ?_, by simp [Cn.gaps, g5], ⟨by show x.f0 ≤ (Cn.last y l).f1; omega, b, l3⟩⟩
  ·have := g2 e he
   show y.f0 - 1 + 2 ≤ e.f0
   omega
  ·rcases List.mem_cons.1 he with rfl | he
   ·exact ⟨by show x.f1 + 1 ≤ y.f0 - 1; omega, by show -1073741824 ≤ x.f1 + 1; omega, by show y.f0 - 1 ≤ 1073741824; omega⟩
   exact g1.2 e he
  ·rcases List.mem_cons.1 he with rfl | he
   ·exact Int.le_refl _
   have := g2 e he
   omega
  ·rw [Cn.gaps, Bd.mem_cons, g3, Bd.mem_cons (s := x)]
   have far : Bd.mem (y :: l) n → y.f0 ≤ n := fun hn => h.tail.least hn
   show (x.f1 + 1 ≤ n ∧ n ≤ y.f0 - 1) ∨ _ ↔ (x.f0 ≤ n ∧ n ≤ (Cn.last y l).f1) ∧ _
   constructor
   ·rintro (h1 | ⟨h1, h2⟩)
    ·exact ⟨by omega, fun h2 => h2.elim (fun h2 => by omega) fun h2 => by have := far h2; omega⟩
    exact ⟨by omega, fun h3 => h3.elim (fun h3 => by omega) h2⟩
   rintro ⟨h1, h2⟩
   by_cases q : n ≤ y.f0 - 1
   ·left
    by_cases q2 : n ≤ x.f1
    ·exact absurd (.inl ⟨h1.1, q2⟩) h2
    omega
   exact .inr ⟨by omega, fun h3 => h2 (.inr h3)⟩
  rw [Cn.gaps, Bs.sum, Bs.sum, Cn.last]
  show (x.f1 - x.f0 + 1) + Bs.sum (y :: l) + ((y.f0 - 1 - (x.f1 + 1) + 1) + Bs.sum (Cn.gaps y l)) = _
  omega
theorem Cn.few_of {l : List S32} (h : (Bs.fewOf l).2 = 0) : l.length ≤ 256 ∧ Bs.fewOf l = (l, 0) := by
 unfold Bs.fewOf at *
 by_cases q : (l.length : Int) > 256
 ·rw [if_pos q] at h
  cases h
 exact ⟨by omega, if_neg q⟩
theorem Cn.few_small {l : List S32} (h : l.length ≤ 256) : Bs.fewOf l = (l, 0) := by
 unfold Bs.fewOf
 rw [if_neg (by omega)]
theorem Cn.j3 {s : List S32} (hn : Bd.Normal s) (hl : s.length ≤ 256) {k : Nat} (hk : 3000 ≤ k) : isobathlaw01_BoundCounts.j3 (k + 1) s (Bs.sum s) = some true := by
 have hW := Bo.works (k := k) (by omega)
 rw [isobathlaw01_BoundCounts.j3]
 cases s with
 | nil =>
  rw [if_pos (by rfl), if_pos (by rfl), hW]
  rfl
 | cons x l =>
  obtain ⟨g1, g2, g3, g4, g5, g6⟩ := Cn.gaps_spec l x hn
  have hll : l.length ≤ 255 := by simp only [List.length_cons] at hl; omega
  have e0 : rd_T32 (x :: l) 0 = x := rfl
  have ew : wrap64 (((x :: l).length : Int) - 1) = (l.length : Int) := by
   simp only [List.length_cons]
   rw [wrap_id (by omega) (by omega)]
   omega
  have e1 : rd_T32 (x :: l) (l.length : Int) = Cn.last x l := by
   unfold rd_T32
   rw [Int.toNat_natCast, List.getD, Cn.last_get]
   rfl
  obtain ⟨r, r1, r2, r3⟩ := Bs.out_both (x :: l) x.f0 (Cn.last x l).f1
  obtain ⟨o, o1, o2, o3⟩ := r3 (Bs.oerr_zero.2 ⟨Bs.cs_zero.2 ⟨hl, hn⟩, g6⟩)
  have eo : o = Cn.gaps x l := Bd.Normal.unique o2 g1 fun n => (o3 n).trans (g3 n).symm
  subst eo
  rw [Cn.few_small (by omega)] at o1
  subst o1
  have hcs : Bs.cs (Cn.gaps x l) = 0 := Bs.cs_zero.2 ⟨by omega, g1⟩
  obtain ⟨q1, q2⟩ := Bs.sum_range hn.2
  obtain ⟨q3, q4⟩ := Bs.sum_range g1.2
  obtain ⟨x1, x2, x3⟩ := hn.2 x List.mem_cons_self
  obtain ⟨y1, y2, y3⟩ := g6
  have y1 : x.f0 ≤ (Cn.last x l).f1 := y1
  have y3 : (Cn.last x l).f1 ≤ 1073741824 := y3
  rw [if_neg (by simp only [List.length_cons]; omega), if_pos (by simp only [List.length_cons]; omega), ew, if_pos (by omega), if_pos (by simp only [List.length_cons]; omega), e0, e1, (r1 k (by omega)).1, Option.bind_some, Bs.count_b _ (by omega), Option.bind_some, if_pos hcs]
  dsimp only
  rw [if_pos rfl, if_pos rfl, if_pos (by omega), if_pos, hW]
  ·rfl
  rw [wrap_id (n := (Cn.last x l).f1 - x.f0) (by omega) (by omega), wrap_id (n := (Cn.last x l).f1 - x.f0 + 1) (by omega) (by omega), g4, wrap_id (by omega) (by omega)]
theorem Cn.counts (s t : List S32) : ∃ k, isobathlaw01_BoundCounts.f k s t = some true := by
 obtain ⟨k, hk⟩ : ∃ k : Nat, 200000 ≤ k := ⟨200000, Nat.le.refl⟩
 refine ⟨k + 1 + 1 + 1 + 1, ?_⟩
 have hW := Bo.works (k := k + 1 + 1 + 1) (by omega)
 have bad : isobathlaw01_BoundCounts.j0 (k + 1 + 1 + 1 + 1) s t true = some true := by
  rw [isobathlaw01_BoundCounts.j0, if_pos rfl, hW]
  rfl
 unfold isobathlaw01_BoundCounts.f
 by_cases h1 : (s.length : Int) > 256
 ·rw [if_pos h1, bad]
 rw [if_neg h1]
 by_cases h2 : (t.length : Int) > 256
 ·rw [if_pos h2, bad]
 rw [if_neg h2, Bs.cs_r s (by omega), Option.bind_some]
 by_cases h3 : Bs.cs s = 0
 ·rw [if_pos h3, Bs.cs_r t (by omega), Option.bind_some]
  by_cases h4 : Bs.cs t = 0
  ·obtain ⟨s1, s2⟩ := Bs.cs_zero.1 h3
   obtain ⟨t1, t2⟩ := Bs.cs_zero.1 h4
   have he : Bs.err s t = 0 := Bs.err_zero.2 ⟨h3, h4⟩
   obtain ⟨rc, c1, -, c3⟩ := Bs.cut_both s t
   obtain ⟨c, ec, n1, n2⟩ := c3 he
   obtain ⟨u1, u2⟩ := Bs.uni_mem s2 t2
   have eu : Bs.uni s t = Bs.fewOf (Bd.cover (s ++ t)) := by unfold Bs.uni; rw [if_pos he]
   have hsum := Cn.unite s2 t2 u1 n1 u2 n2
   have tail := Cn.j3 s2 s1 (k := k) (by omega)
   subst ec
   rw [h4, bne_self_eq_false, isobathlaw01_BoundCounts.j0, if_neg (by decide), Bs.uni_b s t (by omega), (c1 _ (by omega)).1, Bs.count_b s (by omega), Bs.count_b t (by omega), eu]
   simp only [Option.bind_some, h3, h4, if_true, bne_self_eq_false]
   rw [isobathlaw01_BoundCounts.j1, if_neg (by decide)]
   have last2 : ∀ u : Bool, (u = true → (Bs.fewOf (Bd.cover (s ++ t))).2 = 0 ∧ (Bs.fewOf c).2 = 0) → isobathlaw01_BoundCounts.j2 (k + 1 + 1) s (Bs.fewOf (Bd.cover (s ++ t))).1 (Bs.fewOf c).1 (Bs.sum s) (Bs.sum t) u = some true := fun u hu => by
    rw [isobathlaw01_BoundCounts.j2]
    cases u with
    | false => rw [if_neg (by decide)]; exact tail
    | true =>
     obtain ⟨p1, p2⟩ := hu rfl
     obtain ⟨p3, p4⟩ := Cn.few_of p1
     obtain ⟨p5, p6⟩ := Cn.few_of p2
     rw [if_pos rfl, p4, p6]
     dsimp only
     rw [Bs.count_b _ (by omega), Bs.count_b _ (by omega), Bs.cs_zero.2 ⟨p3, u1⟩, Bs.cs_zero.2 ⟨p5, n1⟩]
     simp only [Option.bind_some, if_true]
     rw [hsum, if_pos rfl]
     exact tail
   by_cases q : (Bs.fewOf (Bd.cover (s ++ t))).2 = 0
   ·rw [if_pos q]
    exact last2 _ fun h => ⟨q, by simpa using h⟩
   rw [if_neg q]
   exact last2 _ fun h => (by cases h)
  have : (Bs.cs t != 0) = true := by simpa using h4
  rw [this, bad]
 rw [if_neg h3, bad]
theorem boundCounts_holds : Rows.BoundCountsSaid := boundCounts.proved fun s t _ _ => Cn.counts s t
#print axioms boundCounts_holds
end Go.Proofs.Ytlkafgibgipodaa.P
