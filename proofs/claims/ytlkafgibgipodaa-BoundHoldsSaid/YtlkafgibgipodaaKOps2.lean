/- The operations of layer 1, walked and in closed form. Part 3 of 4. -/
-- Put together by wip/tools/shake.py, a program of this work: out of the words that the kit's print tool (print.sh) writes for a claim and what wip/tools/xprint.py prints, those that this claim reaches, and this work's own texts.
import Derived.Laws.EntriesVeiled
import Derived.Laws.Externs
import Derived.RangeFuncBox
import Derived.RangeFuncNested
import Derived.RangeFuncBound
import Derived.RangeFuncCalls
import Derived.RangeFuncLeaves
import Derived.Shelf.Abstract
import Derived.Shelf.RegionOpen
import Derived.OwnWalkIn
import Derived.TacticsInMore
import Derived.LoopNIn
import Derived.LoopIn
import Derived.Sort.QuietIn
import Derived.Maps.AppendAt
import Derived.Sort.LoopGhostIn
import Derived.Shelf.SlSortCmp.WholeK
import Derived.Test.YtlkafgibgipodaaKOps1
namespace Go.Proofs.Ytlkafgibgipodaa.P
open Go.RowKit Go.Proofs.YtlkafgibgipodaaW.PrintWords Go.Proofs.YtlkafgibgipodaaW.PrintLast Go.Proofs.YtlkafgibgipodaaW.PrintMore
attribute [local go_sem] max2_int min2_int max_two min_two max_three min_three max_four min_four   -- for this text's walks alone
set_option linter.unusedVariables false
set_option linter.unusedSimpArgs false
def bound_Line.j0 : Nat → Int → Int → Int → Bool → Int → Int → Int → Int → Option (Int × Int × Int)
 | 0, _, _, _, _, _, _, _, _ => none
 | k + 1, x0, x2, x4, x43, x102000, x102001, x103000, x103001 => if x43 = true then (some (0, 0, 3)) else ((bound_round_div.f k false (wrap64 ((wrap64 (x102000 * (wrap64 (x2 - x4)))) + (wrap64 (x103000 * (wrap64 (x4 - x0)))))) (wrap64 (x2 - x0))).bind fun t110 => ((bound_round_div.f k true (wrap64 ((wrap64 (x102001 * (wrap64 (x2 - x4)))) + (wrap64 (x103001 * (wrap64 (x4 - x0)))))) (wrap64 (x2 - x0))).bind fun t111 => ((bound_over.f k t110 t111).bind fun bt112 => (some (bt112.1, bt112.2.1, bt112.2.2)))))
def bound_Line.f (k : Nat) (a0 : Int) (a1_0 : Int) (a1_1 : Int) (a2 : Int) (a3_0 : Int) (a3_1 : Int) (a4 : Int) : Option (Int × Int × Int) := (bound_check.f k (([(⟨a1_0, a1_1⟩ : S32), (⟨a3_0, a3_1⟩ : S32)] : List (S32)))).bind fun t107 => (if t107 = 0 then (if a0 < 0 then (bound_Line.j0 k a0 a2 a4 true a1_0 a1_1 a3_0 a3_1) else (if a2 > 1073741824 then (bound_Line.j0 k a0 a2 a4 true a1_0 a1_1 a3_0 a3_1) else (if a0 ≥ a2 then (bound_Line.j0 k a0 a2 a4 true a1_0 a1_1 a3_0 a3_1) else (if a4 < a0 then (bound_Line.j0 k a0 a2 a4 true a1_0 a1_1 a3_0 a3_1) else (bound_Line.j0 k a0 a2 a4 (decide (a4 > a2)) a1_0 a1_1 a3_0 a3_1))))) else (some (0, 0, t107)))
theorem bound_Line.mono_l : ∀ k, (∀ y0 y1 y2 y3 y4 y5 y6 y7, LeO (bound_Line.j0 k y0 y1 y2 y3 y4 y5 y6 y7) (bound_Line.j0 (k + 1) y0 y1 y2 y3 y4 y5 y6 y7))
 | 0 => fun _ _ _ _ _ _ _ _ r h => by simp [bound_Line.j0] at h
 | k + 1 => by
  have ih0 := bound_Line.mono_l k
  intro y0 y1 y2 y3 y4 y5 y6 y7
  unfold bound_Line.j0
  repeat' first
  | (with_reducible exact ih0 _ _ _ _ _ _ _ _)
  | (with_reducible exact bound_check.mono _ _)
  | (with_reducible exact bound_over.mono _ _ _)
  | (with_reducible exact bound_round_div.mono _ _ _ _)
  | (with_reducible exact LeO.refl _)
  | (with_reducible exact LeO.none _)
  | (with_reducible refine LeO.ite ?_ ?_)
  | (with_reducible refine LeO.bind ?_ (fun _ => ?_))
  | exact ih0 _ _ _ _ _ _ _ _
  | exact bound_check.mono _ _
  | exact bound_over.mono _ _ _
  | exact bound_round_div.mono _ _ _ _
  | exact LeO.none _
  | refine LeO.ite ?_ ?_
  | refine LeO.bind ?_ (fun _ => ?_)
theorem bound_Line.mono : ∀ a0 a1 a2 a3 a4 a5 a6 k, LeO (bound_Line.f k a0 a1 a2 a3 a4 a5 a6) (bound_Line.f (k + 1) a0 a1 a2 a3 a4 a5 a6) := by
 intro a0 a1 a2 a3 a4 a5 a6 k
 have ih0 := bound_Line.mono_l k
 unfold bound_Line.f
 repeat' first
   | (with_reducible exact ih0 _ _ _ _ _ _ _ _)
   | (with_reducible exact bound_check.mono _ _)
   | (with_reducible exact bound_over.mono _ _ _)
   | (with_reducible exact bound_round_div.mono _ _ _ _)
   | (with_reducible exact LeO.refl _)
   | (with_reducible exact LeO.none _)
   | (with_reducible refine LeO.ite ?_ ?_)
   | (with_reducible refine LeO.bind ?_ (fun _ => ?_))
   | exact ih0 _ _ _ _ _ _ _ _
   | exact bound_check.mono _ _
   | exact bound_over.mono _ _ _
   | exact bound_round_div.mono _ _ _ _
   | exact LeO.none _
   | refine LeO.ite ?_ ?_
   | refine LeO.bind ?_ (fun _ => ?_)
def bound_Line.T7 : Bool × List (List Nat × List Nat) := (true, [([], []), ([], []), ([1], [1]), ([], []), ([], []), ([3, 4], [3, 4]), ([2, 5], [2, 5]), ([], []), ([7], [7]), ([], []), ([], []), ([9, 10], [9, 10]), ([8, 11], [8, 11]), ([6, 12], [6, 12]), ([], []), ([], []), ([14, 15], [14, 15]), ([0, 13, 16], [0, 13, 16]), ([], []), ([], []), ([19], [19]), ([], []), ([], []), ([21, 22], [21, 22]), ([20, 23], [20, 23]), ([], []), ([25], [25]), ([], []), ([], []), ([27, 28], [27, 28]), ([26, 29], [26, 29]), ([24, 30], [24, 30]), ([], []), ([], []), ([32, 33], [32, 33]), ([18, 31, 34, 17], [18, 31, 34]), ([17, 35], [17, 35]), ([36, 35], [36]), ([37], [37]), ([37], [37]), ([38, 37, 0, 1, 2, 3, 4, 5, 6, 7, 8, 9, 10, 11, 12, 13, 14, 15, 16, 17, 18, 19, 20, 21, 22, 23, 24, 25, 26, 27, 28, 29, 30, 31, 32, 33, 34, 35, 36, 37, 38, 39], [38]), ([39, 40, 0, 1, 2, 3, 4, 5, 6, 7, 8, 9, 10, 11, 12, 13, 14, 15, 16, 17, 18, 19, 20, 21, 22, 23, 24, 25, 26, 27, 28, 29, 30, 31, 32, 33, 34, 35, 36, 37, 38, 39, 40], [39])])
def bound_Line.B7 : List Nat := [0, 0, 2, 0, 0, 24, 62, 0, 128, 0, 0, 1536, 3968, 8190, 0, 0, 49152, 131071, 0, 0, 524288, 0, 0, 6291456, 16252928, 0, 33554432, 0, 0, 402653184, 1040187392, 2146959360, 0, 0, 12884901888, 34359738367, 68719476735, 137438953471, 274877906943, 274877906943, 1099511627775, 2199023255551]
theorem bound_Line.tab7 : rtab .any (opsOf Try.f68 7) = bound_Line.T7 := by kernel_rfl
theorem bound_Line.bits7 : waitsOk bound_Line.T7.2 bound_Line.B7 = true := by kernel_rfl
set_option maxHeartbeats 8000000 in
set_option maxRecDepth 100000 in
theorem bound_Line.calls (k : Nat) (a0 : Int) (a1_0 : Int) (a1_1 : Int) (a2 : Int) (a3_0 : Int) (a3_1 : Int) (a4 : Int) (r1 : Int) (r2 : Int) (r3 : Int) (w : World) (h : bound_Line.f k a0 a1_0 a1_1 a2 a3_0 a3_1 a4 = some (r1, r2, r3)) :
  Calls Try.prog 68 #[.int .i64 a0, .agg #[.int .i64 a1_0, .int .i64 a1_1], .int .i64 a2, .agg #[.int .i64 a3_0, .int .i64 a3_1], .int .i64 a4] w fun e w' => e = .returned (.tuple #[.agg #[.int .i64 r1, .int .i64 r2], .int .i64 r3]) ∧ Below w.heap.size w w' := by
 have hu32 := Try.underlying32
 have hu110 := Try.underlying110
 have HB := zam (Below.refl w.heap.size w)
 have H : ((bound_check.f k (([(⟨a1_0, a1_1⟩ : S32), (⟨a3_0, a3_1⟩ : S32)] : List (S32)))).bind fun t107 => (if t107 = 0 then (if a0 < 0 then (bound_Line.j0 k a0 a2 a4 true a1_0 a1_1 a3_0 a3_1) else (if a2 > 1073741824 then (bound_Line.j0 k a0 a2 a4 true a1_0 a1_1 a3_0 a3_1) else (if a0 ≥ a2 then (bound_Line.j0 k a0 a2 a4 true a1_0 a1_1 a3_0 a3_1) else (if a4 < a0 then (bound_Line.j0 k a0 a2 a4 true a1_0 a1_1 a3_0 a3_1) else (bound_Line.j0 k a0 a2 a4 (decide (a4 > a2)) a1_0 a1_1 a3_0 a3_1))))) else (some (0, 0, t107)))) = some (r1, r2, r3) := h
 clear h
 obtain ⟨y104, hy104⟩ : ∃ y_ : List (S32), y_ = (([(⟨a1_0, a1_1⟩ : S32), (⟨a3_0, a3_1⟩ : S32)] : List (S32))) := ⟨_, rfl⟩
 replace H : ((bound_check.f k y104).bind fun t107 => (if t107 = 0 then (if a0 < 0 then (bound_Line.j0 k a0 a2 a4 true a1_0 a1_1 a3_0 a3_1) else (if a2 > 1073741824 then (bound_Line.j0 k a0 a2 a4 true a1_0 a1_1 a3_0 a3_1) else (if a0 ≥ a2 then (bound_Line.j0 k a0 a2 a4 true a1_0 a1_1 a3_0 a3_1) else (if a4 < a0 then (bound_Line.j0 k a0 a2 a4 true a1_0 a1_1 a3_0 a3_1) else (bound_Line.j0 k a0 a2 a4 (decide (a4 > a2)) a1_0 a1_1 a3_0 a3_1))))) else (some (0, 0, t107)))) = some (r1, r2, r3) := by first | (rw [hy104]; with_reducible exact H) | (have H2_ := (Option.bind_some _ _).symm.trans H; rw [hy104]; with_reducible exact H2_) | (have H2_ := (Option.bind_some _ _).symm.trans H; with_reducible exact H2_) | with_reducible exact H | (rw [hy104]; exact H) | exact H
 have Ny104 := zam hy104
 clear hy104
 replace H := Option.bind_eq_some_iff.mp H
 obtain ⟨t107, A60, H⟩ := H
 replace H : (if t107 = 0 then (if a0 < 0 then (bound_Line.j0 k a0 a2 a4 true a1_0 a1_1 a3_0 a3_1) else (if a2 > 1073741824 then (bound_Line.j0 k a0 a2 a4 true a1_0 a1_1 a3_0 a3_1) else (if a0 ≥ a2 then (bound_Line.j0 k a0 a2 a4 true a1_0 a1_1 a3_0 a3_1) else (if a4 < a0 then (bound_Line.j0 k a0 a2 a4 true a1_0 a1_1 a3_0 a3_1) else (bound_Line.j0 k a0 a2 a4 (decide (a4 > a2)) a1_0 a1_1 a3_0 a3_1))))) else (some (0, 0, t107))) = some (r1, r2, r3) := H
 have A6 := zam A60
 clear A60
 by_cases c7 : t107 = 0
 ·rw [if_pos c7] at H
  have c7b0 : (t107 == 0) = true := beq_iff_eq.mpr c7
  have c7b1 : (t107 != 0) = false := bne_eq_false_iff_eq.mpr c7
  clear c7
  have HC8 := zam H
  clear H
  go_enter Try.func68, Try.ntmps68
  go_upto_region 4 with (first | ((with_reducible refine zgd (N := 6) rfl ?_); refine box_event ?hg (N := 6) ?hd (cs := #[.int .i64 a1_0, .int .i64 a1_1]) (t := 32) ?hr ?_; (case hd => rfl); (case hg => rfl); (case hr => first | (go_simp; done) | (go_simp; rfl)); intro gb101 hg w9 hbox hb; have n0_ := zam (zbt (by repeat (first | (with_reducible first | exact HB.out | apply zba | apply zbn | apply zb1) | exact HB.out)) hb); have n1_ := zam (hbox); have n2_ := zam ((by rw [hg]; exact (zbz (by repeat (first | (with_reducible first | exact HB.out | apply zba | apply zbn | apply zb1) | exact HB.out))) : w.heap.size ≤ gb101)); have n3_ := zam ((by rw [hg]; exact (zbz (by repeat (first | (with_reducible first | exact HB.out | apply zba | apply zbn | apply zb1) | exact HB.out))) : w.heap.size ≤ gb101)); clear HB; have HB := n0_; have BK101 := n1_; have GW101 := n2_; have GE101 := n3_; clear n0_ n1_ n2_ n3_; clear hb hbox hg) | ((with_reducible refine zgd (N := 8) rfl ?_); refine box_event ?hg (N := 8) ?hd (cs := #[.int .i64 a3_0, .int .i64 a3_1]) (t := 32) ?hr ?_; (case hd => rfl); (case hg => rfl); (case hr => first | (go_simp; done) | (go_simp; rfl)); intro gb102 hg w10 hbox hb; have n0_ := zam (zkb (g := gb101) (o := .cells #[.int .i64 a1_0, .int .i64 a1_1] 32 (0, 0)) (by (with_reducible repeat (first | refine zkn ?_ _ | refine zkd ?_ | refine zka ?_ _)); exact BK101.out) hb); have n1_ := zam (zbt (by repeat (first | (with_reducible first | exact HB.out | apply zba | apply zbn | apply zb1 | refine zbs ?_ GE101.out) | exact HB.out)) hb); have n2_ := zam (hbox); have n3_ := zam ((by rw [hg]; exact (zbz (by repeat (first | (with_reducible first | exact HB.out | apply zba | apply zbn | apply zb1 | refine zbs ?_ GE101.out) | exact HB.out))) : w.heap.size ≤ gb102)); have n4_ := zam ((by rw [hg]; exact (zbz (by repeat (first | (with_reducible first | exact HB.out | apply zba | apply zbn | apply zb1 | refine zbs ?_ GE101.out) | exact HB.out))) : w.heap.size ≤ gb102)); have n5_ := zam ((by rw [hg]; exact Nat.ne_of_lt (blk_lt (g := gb101) (o := .cells #[.int .i64 a1_0, .int .i64 a1_1] 32 (0, 0)) (by (with_reducible repeat (first | refine zkn ?_ _ | refine zkd ?_ | refine zka ?_ _)); exact BK101.out)) : gb101 ≠ gb102)); have n6_ := zam ((by rw [hg]; exact Nat.ne_of_gt (blk_lt (g := gb101) (o := .cells #[.int .i64 a1_0, .int .i64 a1_1] 32 (0, 0)) (by (with_reducible repeat (first | refine zkn ?_ _ | refine zkd ?_ | refine zka ?_ _)); exact BK101.out)) : gb102 ≠ gb101)); clear BK101; clear HB; have BK101 := n0_; have HB := n1_; have BK102 := n2_; have GW102 := n3_; have GE102 := n4_; have NB101_102 := n5_; have NB102_101 := n6_; clear n0_ n1_ n2_ n3_ n4_ n5_ n6_; clear hb hbox hg) | ((with_reducible refine zgd (N := 10) rfl ?_); refine box_event ?hg (N := 10) ?hd (cs := #[.int .i64 0, .int .i64 0]) (t := 32) ?hr ?_; (case hd => rfl); (case hg => rfl); (case hr => first | (go_simp; done) | (go_simp; rfl)); intro gb103 hg w11 hbox hb; have n0_ := zam (zkb (g := gb101) (o := .cells #[.int .i64 a1_0, .int .i64 a1_1] 32 (0, 0)) (by (with_reducible repeat (first | refine zkn ?_ _ | refine zkd ?_ | refine zka ?_ _)); exact BK101.out) hb); have n1_ := zam (zkb (g := gb102) (o := .cells #[.int .i64 a3_0, .int .i64 a3_1] 32 (0, 0)) (by (with_reducible repeat (first | refine zkn ?_ _ | refine zkd ?_ | refine zka ?_ _)); exact BK102.out) hb); have n2_ := zam (zbt (by repeat (first | (with_reducible first | exact HB.out | apply zba | apply zbn | apply zb1 | refine zbs ?_ GE101.out | refine zbs ?_ GE102.out) | exact HB.out)) hb); have n3_ := zam (hbox); have n4_ := zam ((by rw [hg]; exact (zbz (by repeat (first | (with_reducible first | exact HB.out | apply zba | apply zbn | apply zb1 | refine zbs ?_ GE101.out | refine zbs ?_ GE102.out) | exact HB.out))) : w.heap.size ≤ gb103)); have n5_ := zam ((by rw [hg]; exact (zbz (by repeat (first | (with_reducible first | exact HB.out | apply zba | apply zbn | apply zb1 | refine zbs ?_ GE101.out | refine zbs ?_ GE102.out) | exact HB.out))) : w.heap.size ≤ gb103)); have n6_ := zam ((by rw [hg]; exact Nat.ne_of_lt (blk_lt (g := gb101) (o := .cells #[.int .i64 a1_0, .int .i64 a1_1] 32 (0, 0)) (by (with_reducible repeat (first | refine zkn ?_ _ | refine zkd ?_ | refine zka ?_ _)); exact BK101.out)) : gb101 ≠ gb103)); have n7_ := zam ((by rw [hg]; exact Nat.ne_of_gt (blk_lt (g := gb101) (o := .cells #[.int .i64 a1_0, .int .i64 a1_1] 32 (0, 0)) (by (with_reducible repeat (first | refine zkn ?_ _ | refine zkd ?_ | refine zka ?_ _)); exact BK101.out)) : gb103 ≠ gb101)); have n8_ := zam ((by rw [hg]; exact Nat.ne_of_lt (blk_lt (g := gb102) (o := .cells #[.int .i64 a3_0, .int .i64 a3_1] 32 (0, 0)) (by (with_reducible repeat (first | refine zkn ?_ _ | refine zkd ?_ | refine zka ?_ _)); exact BK102.out)) : gb102 ≠ gb103)); have n9_ := zam ((by rw [hg]; exact Nat.ne_of_gt (blk_lt (g := gb102) (o := .cells #[.int .i64 a3_0, .int .i64 a3_1] 32 (0, 0)) (by (with_reducible repeat (first | refine zkn ?_ _ | refine zkd ?_ | refine zka ?_ _)); exact BK102.out)) : gb103 ≠ gb102)); clear BK101; clear BK102; clear HB; have BK101 := n0_; have BK102 := n1_; have HB := n2_; have BK103 := n3_; have GW103 := n4_; have GE103 := n5_; have NB101_103 := n6_; have NB103_101 := n7_; have NB102_103 := n8_; have NB103_102 := n9_; clear n0_ n1_ n2_ n3_ n4_ n5_ n6_ n7_ n8_ n9_; clear hb hbox hg; have hnb12 := NB101_102.out; have hnc12 := NB102_101.out; have hnb13 := NB101_103.out; have hnc13 := NB103_101.out; have hcz14_0 : w11.cell? ⟨gb101, 0, none⟩ = some (.int .i64 a1_0) := (zkc BK101.out 0).trans rfl; have hcz14_1 : w11.cell? ⟨gb101, 1, none⟩ = some (.int .i64 a1_1) := (zkc BK101.out 1).trans rfl; have hfz14_0 := zkz BK101.out 0; have hfz14_1 := zkz BK101.out 1; have hnb15 := NB102_103.out; have hnc15 := NB103_102.out; have hcz16_0 : w11.cell? ⟨gb102, 0, none⟩ = some (.int .i64 a3_0) := (zkc BK102.out 0).trans rfl; have hcz16_1 : w11.cell? ⟨gb102, 1, none⟩ = some (.int .i64 a3_1) := (zkc BK102.out 1).trans rfl; have hfz16_0 := zkz BK102.out 0; have hfz16_1 := zkz BK102.out 1) | ((with_reducible refine zgd (N := 17) rfl ?_); refine Kd.R_lit k32 _ 32 ?hg (N := 17) ?hd (xs := ([(⟨a1_0, a1_1⟩ : S32), (⟨a3_0, a3_1⟩ : S32)] : List (S32))) (inner := [.int .i64 a1_0, .int .i64 a1_1, .int .i64 a3_0, .int .i64 a3_1]) (ok := fun _ => True) (okp := fun _ => True) ?hr ?hp (fun _ hk => hk) trivial (Below.refl _ _) (Nat.le_refl _) (by simp) ?_; (case hd => rfl); (case hg => rfl); (case hr => first | (go_simp; done) | (go_simp; rfl)); (case hp => exact (Reps.c2 (show Kd.M k32 _ _ _ (⟨a1_0, a1_1⟩ : S32) [.int .i64 a1_0, .int .i64 a1_1] from (k32_mkM _ _ _ (⟨a1_0, a1_1⟩ : S32) )) (Reps.c2 (show Kd.M k32 _ _ _ (⟨a3_0, a3_1⟩ : S32) [.int .i64 a3_0, .int .i64 a3_1] from (k32_mkM _ _ _ (⟨a3_0, a3_1⟩ : S32) )) (Reps.none _ _)))); intro v105 w17 ho18 hb hg_ hnew_; clear hg_ hnew_; (first | rw [← Ny104.out] at ho18 | (simp only [Int.reduceToNat] at ho18; rw [← Ny104.out] at ho18)); have n0_ := zam (Kd.R_lower (Kd.R_newB (Kd.R_newB (Kd.R_newB ho18 (g := gb101) (o := .cells #[.int .i64 a1_0, .int .i64 a1_1] 32 (0, 0)) (by (with_reducible repeat (first | refine zkn ?_ _ | refine zkd ?_ | refine zka ?_ _)); exact BK101.out)) (g := gb102) (o := .cells #[.int .i64 a3_0, .int .i64 a3_1] 32 (0, 0)) (by (with_reducible repeat (first | refine zkn ?_ _ | refine zkd ?_ | refine zka ?_ _)); exact BK102.out)) (g := gb103) (o := .cells #[.int .i64 0, .int .i64 0] 32 (0, 0)) (by (with_reducible repeat (first | refine zkn ?_ _ | refine zkd ?_ | refine zka ?_ _)); exact BK103.out)) (zbz (by repeat (first | (with_reducible first | exact HB.out | apply zba | apply zbn | apply zb1 | refine zbs ?_ GE101.out | refine zbs ?_ GE102.out | refine zbs ?_ GE103.out) | exact HB.out)))); have n1_ := zam (zkb (g := gb101) (o := .cells #[.int .i64 a1_0, .int .i64 a1_1] 32 (0, 0)) (by (with_reducible repeat (first | refine zkn ?_ _ | refine zkd ?_ | refine zka ?_ _)); exact BK101.out) hb); have n2_ := zam (zkb (g := gb102) (o := .cells #[.int .i64 a3_0, .int .i64 a3_1] 32 (0, 0)) (by (with_reducible repeat (first | refine zkn ?_ _ | refine zkd ?_ | refine zka ?_ _)); exact BK102.out) hb); have n3_ := zam (zkb (g := gb103) (o := .cells #[.int .i64 0, .int .i64 0] 32 (0, 0)) (by (with_reducible repeat (first | refine zkn ?_ _ | refine zkd ?_ | refine zka ?_ _)); exact BK103.out) hb); have n4_ := zam (zbt (by repeat (first | (with_reducible first | exact HB.out | apply zba | apply zbn | apply zb1 | refine zbs ?_ GE101.out | refine zbs ?_ GE102.out | refine zbs ?_ GE103.out) | exact HB.out)) hb); clear BK101; clear BK102; clear BK103; clear HB; have HO106 := n0_; have BK101 := n1_; have BK102 := n2_; have BK103 := n3_; have HB := n4_; clear n0_ n1_ n2_ n3_ n4_; clear hb ho18; obtain ⟨Ao19, co19, eo19⟩ := Kd.R_slice HO106.out; subst eo19) | ((with_reducible refine zgc (f := 80) rfl ?_); refine goesL_ (some 18) rfl rfl Try.func80 (by kernel_rfl) rfl #[.slice Ao19 y104.length co19] rfl (by (try simp only [zmt, List.map_cons, List.map_nil]); first | done | rfl | (simp only [zld, zlt]; rfl)) ?_; (with_reducible refine (bound_check.calls k _ _ y104 t107 _ ?side1 ?side2 A6.out).mono ?_); (case side1 => repeat (first | exact (Kd.R_reads' HO106.out).2.2 | (with_reducible refine Kd.C_alloc ?_ _) | (with_reducible refine Kd.C_drewN ?_ _) | (with_reducible refine Kd.C_drew ?_))); (case side2 => exact (Kd.R_reads' HO106.out).2.1); rintro e w20 ⟨rfl, hb⟩; refine ⟨_, rfl, ?_⟩; have n0_ := zam (Kd.R_below (by (with_reducible repeat (first | apply zRa | apply zRn | apply zRd)); exact HO106.out) hb); have n1_ := zam (zkb (g := gb101) (o := .cells #[.int .i64 a1_0, .int .i64 a1_1] 32 (0, 0)) (by (with_reducible repeat (first | refine zkn ?_ _ | refine zkd ?_ | refine zka ?_ _)); exact BK101.out) hb); have n2_ := zam (zkb (g := gb102) (o := .cells #[.int .i64 a3_0, .int .i64 a3_1] 32 (0, 0)) (by (with_reducible repeat (first | refine zkn ?_ _ | refine zkd ?_ | refine zka ?_ _)); exact BK102.out) hb); have n3_ := zam (zkb (g := gb103) (o := .cells #[.int .i64 0, .int .i64 0] 32 (0, 0)) (by (with_reducible repeat (first | refine zkn ?_ _ | refine zkd ?_ | refine zka ?_ _)); exact BK103.out) hb); have n4_ := zam (zbt (by repeat (first | (with_reducible first | exact HB.out | apply zba | apply zbn | apply zb1 | refine zbs ?_ GE101.out | refine zbs ?_ GE102.out | refine zbs ?_ GE103.out) | exact HB.out)) hb); clear HO106; clear BK101; clear BK102; clear BK103; clear HB; have HO106 := n0_; have BK101 := n1_; have BK102 := n2_; have BK103 := n3_; have HB := n4_; clear n0_ n1_ n2_ n3_ n4_; (try clear hb); (try clear hb2); (try clear hk); (try clear hi)))
  (try simp only [Act.put, zsa, zsz, zss])
  go_cut [43] (fun v43 wc => ∃ (kq : Nat) (x43_7 : Bool), v43 = .bool x43_7 ∧ Aside0 (bound_Line.j0 kq a0 a2 a4 x43_7 a1_0 a1_1 a3_0 a3_1 = some (r1, r2, r3)) ∧ Aside0 (kq ≤ k) ∧ Aside0 (wc.heap[gb101]? = some (.cells #[.int .i64 a1_0, .int .i64 a1_1] 32 (0, 0))) ∧ Aside0 (wc.heap[gb102]? = some (.cells #[.int .i64 a3_0, .int .i64 a3_1] 32 (0, 0))) ∧ Aside0 (wc.heap[gb103]? = some (.cells #[.int .i64 0, .int .i64 0] 32 (0, 0))) ∧ Aside0 (Below w.heap.size w wc))
  case first =>
   have H := HC8.out
   clear HC8
   by_cases c21 : a0 < 0
   ·rw [if_pos c21] at H
    have c21b0 : decide (a0 < 0) = true := zdt c21
    clear c21
    (first | rw [c21b0] | (simp only [i64_w, i32_w]; rw [c21b0]) | skip)
    have H' := zam H
    clear H
    go_wp2
    go_meet
    case rel => exact ⟨_, (true), (by first | rfl | (simp; done) | (simp [*]; done)), H', ⟨by first | omega | exact Nat.le_refl _⟩, ⟨by (with_reducible repeat (first | refine zkn ?_ _ | refine zkd ?_ | refine zka ?_ _)); exact BK101.out⟩, ⟨by (with_reducible repeat (first | refine zkn ?_ _ | refine zkd ?_ | refine zka ?_ _)); exact BK102.out⟩, ⟨by (with_reducible repeat (first | refine zkn ?_ _ | refine zkd ?_ | refine zka ?_ _)); exact BK103.out⟩, ⟨by repeat (first | (with_reducible first | exact HB.out | apply zba | apply zbn | apply zb1 | refine zbs ?_ GE101.out | refine zbs ?_ GE102.out | refine zbs ?_ GE103.out) | exact HB.out)⟩⟩
   rw [if_neg c21] at H
   have c21b0 : decide (a0 < 0) = false := zdf c21
   clear c21
   (first | rw [c21b0] | (simp only [i64_w, i32_w]; rw [c21b0]) | skip)
   by_cases c22 : a2 > 1073741824
   ·rw [if_pos c22] at H
    have c22b0 : decide (1073741824 < a2) = true := zdt c22
    clear c22
    have H' := zam H
    clear H
    go_wp2
    go_meet
    case rel => exact ⟨_, (true), (by first | rfl | (simp; done) | (simp [*]; done)), H', ⟨by first | omega | exact Nat.le_refl _⟩, ⟨by (with_reducible repeat (first | refine zkn ?_ _ | refine zkd ?_ | refine zka ?_ _)); exact BK101.out⟩, ⟨by (with_reducible repeat (first | refine zkn ?_ _ | refine zkd ?_ | refine zka ?_ _)); exact BK102.out⟩, ⟨by (with_reducible repeat (first | refine zkn ?_ _ | refine zkd ?_ | refine zka ?_ _)); exact BK103.out⟩, ⟨by repeat (first | (with_reducible first | exact HB.out | apply zba | apply zbn | apply zb1 | refine zbs ?_ GE101.out | refine zbs ?_ GE102.out | refine zbs ?_ GE103.out) | exact HB.out)⟩⟩
   rw [if_neg c22] at H
   have c22b0 : decide (1073741824 < a2) = false := zdf c22
   clear c22
   by_cases c23 : a0 ≥ a2
   ·rw [if_pos c23] at H
    have c23b0 : decide (a2 ≤ a0) = true := zdt c23
    clear c23
    have H' := zam H
    clear H
    go_wp2
    go_meet
    case rel => exact ⟨_, (true), (by first | rfl | (simp; done) | (simp [*]; done)), H', ⟨by first | omega | exact Nat.le_refl _⟩, ⟨by (with_reducible repeat (first | refine zkn ?_ _ | refine zkd ?_ | refine zka ?_ _)); exact BK101.out⟩, ⟨by (with_reducible repeat (first | refine zkn ?_ _ | refine zkd ?_ | refine zka ?_ _)); exact BK102.out⟩, ⟨by (with_reducible repeat (first | refine zkn ?_ _ | refine zkd ?_ | refine zka ?_ _)); exact BK103.out⟩, ⟨by repeat (first | (with_reducible first | exact HB.out | apply zba | apply zbn | apply zb1 | refine zbs ?_ GE101.out | refine zbs ?_ GE102.out | refine zbs ?_ GE103.out) | exact HB.out)⟩⟩
   rw [if_neg c23] at H
   have c23b0 : decide (a2 ≤ a0) = false := zdf c23
   clear c23
   by_cases c24 : a4 < a0
   ·rw [if_pos c24] at H
    have c24b0 : decide (a4 < a0) = true := zdt c24
    clear c24
    have H' := zam H
    clear H
    go_wp2
    go_meet
    case rel => exact ⟨_, (true), (by first | rfl | (simp; done) | (simp [*]; done)), H', ⟨by first | omega | exact Nat.le_refl _⟩, ⟨by (with_reducible repeat (first | refine zkn ?_ _ | refine zkd ?_ | refine zka ?_ _)); exact BK101.out⟩, ⟨by (with_reducible repeat (first | refine zkn ?_ _ | refine zkd ?_ | refine zka ?_ _)); exact BK102.out⟩, ⟨by (with_reducible repeat (first | refine zkn ?_ _ | refine zkd ?_ | refine zka ?_ _)); exact BK103.out⟩, ⟨by repeat (first | (with_reducible first | exact HB.out | apply zba | apply zbn | apply zb1 | refine zbs ?_ GE101.out | refine zbs ?_ GE102.out | refine zbs ?_ GE103.out) | exact HB.out)⟩⟩
   rw [if_neg c24] at H
   have c24b0 : decide (a4 < a0) = false := zdf c24
   clear c24
   have H' := zam H
   clear H
   go_wp2
   go_meet
   case rel => exact ⟨_, (decide (a4 > a2)), (by first | rfl | (simp; done) | (simp [*]; done)), H', ⟨by first | omega | exact Nat.le_refl _⟩, ⟨by (with_reducible repeat (first | refine zkn ?_ _ | refine zkd ?_ | refine zka ?_ _)); exact BK101.out⟩, ⟨by (with_reducible repeat (first | refine zkn ?_ _ | refine zkd ?_ | refine zka ?_ _)); exact BK102.out⟩, ⟨by (with_reducible repeat (first | refine zkn ?_ _ | refine zkd ?_ | refine zka ?_ _)); exact BK103.out⟩, ⟨by repeat (first | (with_reducible first | exact HB.out | apply zba | apply zbn | apply zb1 | refine zbs ?_ GE101.out | refine zbs ?_ GE102.out | refine zbs ?_ GE103.out) | exact HB.out)⟩⟩
  case rest =>
   clear HC8
   try clear c1
   try clear c2
   try clear p2
   try clear c6
   try clear c7
   try clear c7b0
   try clear c7b1
   try clear c8
   try clear c12
   try clear c13
   try clear c15
   try clear c21
   try clear c21b0
   try clear c22
   try clear c22b0
   try clear c23
   try clear c23b0
   try clear c24
   try clear c24b0
   try clear hcz14_0
   try clear hcz14_1
   try clear hcz16_0
   try clear hcz16_1
   try clear hfz14_0
   try clear hfz14_1
   try clear hfz16_0
   try clear hfz16_1
   obtain ⟨kq, x43_7, rfl, HA, HJ7, BK101, BK102, BK103, HB⟩ := hcut
   cases kq with
   | zero => exact absurd HA.out (by simp [bound_Line.j0])
   | succ kj7 =>
    have H := HA.out
    clear HA
    simp only [bound_Line.j0] at H
    by_cases c25 : x43_7 = true
    ·subst c25
     have H1 : (some (0, 0, 3)) = some (r1, r2, r3) := by rw [if_pos rfl] at H; exact H
     clear H
     have H := H1
     clear H1
     simp only [Option.some.injEq, Prod.mk.injEq] at H
     obtain ⟨rfl, rfl, rfl⟩ := H
     have hnb26 := NB103_101.out
     have hnc26 := NB101_103.out
     have hnb27 := NB103_102.out
     have hnc27 := NB102_103.out
     have hcz28_0 : wc.cell? ⟨gb103, 0, none⟩ = some (.int .i64 0) := (zkc BK103.out 0).trans rfl
     have hcz28_1 : wc.cell? ⟨gb103, 1, none⟩ = some (.int .i64 0) := (zkc BK103.out 1).trans rfl
     have hfz28_0 := zkz BK103.out 0
     have hfz28_1 := zkz BK103.out 1
     go_wp2
     refine zbr (results_ct rfl _ _ gb103 32 #[.int .i64 0, .int .i64 0] (0, 0) _ rfl (by (with_reducible repeat (first | refine zkn ?_ _ | refine zkd ?_ | refine zka ?_ _)); refine blk_put (cs := #[.int .i64 0, .int .i64 0]) ?_ 1 _ rfl; (with_reducible repeat (first | refine zkn ?_ _ | refine zkd ?_ | refine zka ?_ _)); refine blk_put (cs := #[.int .i64 0, .int .i64 0]) ?_ 0 _ rfl; (with_reducible repeat (first | refine zkn ?_ _ | refine zkd ?_ | refine zka ?_ _)); exact BK103.out) Try.underlying32 rfl (by kernel_rfl)) rfl ?_
     exact ⟨by first | rfl | (simp [errW_none, errW_some] <;> rfl) | (simp [*, errW_none, errW_some] <;> rfl), by repeat (first | (with_reducible first | exact HB.out | apply zba | apply zbn | apply zb1 | refine zbs ?_ GE101.out | refine zbs ?_ GE102.out | refine zbs ?_ GE103.out) | exact HB.out)⟩
    replace c25 := Bool.eq_false_iff.mpr c25
    subst c25
    have H1 : ((bound_round_div.f kj7 false (wrap64 ((wrap64 (a1_0 * (wrap64 (a2 - a4)))) + (wrap64 (a3_0 * (wrap64 (a4 - a0)))))) (wrap64 (a2 - a0))).bind fun t110 => ((bound_round_div.f kj7 true (wrap64 ((wrap64 (a1_1 * (wrap64 (a2 - a4)))) + (wrap64 (a3_1 * (wrap64 (a4 - a0)))))) (wrap64 (a2 - a0))).bind fun t111 => ((bound_over.f kj7 t110 t111).bind fun bt112 => (some (bt112.1, bt112.2.1, bt112.2.2))))) = some (r1, r2, r3) := by rw [if_neg (show ¬ (false = true) by decide)] at H; exact H
    clear H
    have H := H1
    clear H1
    replace H := Option.bind_eq_some_iff.mp H
    obtain ⟨t110, A290, H⟩ := H
    replace H : ((bound_round_div.f kj7 true (wrap64 ((wrap64 (a1_1 * (wrap64 (a2 - a4)))) + (wrap64 (a3_1 * (wrap64 (a4 - a0)))))) (wrap64 (a2 - a0))).bind fun t111 => ((bound_over.f kj7 t110 t111).bind fun bt112 => (some (bt112.1, bt112.2.1, bt112.2.2)))) = some (r1, r2, r3) := H
    have A29 := zam A290
    clear A290
    replace H := Option.bind_eq_some_iff.mp H
    obtain ⟨t111, A300, H⟩ := H
    replace H : ((bound_over.f kj7 t110 t111).bind fun bt112 => (some (bt112.1, bt112.2.1, bt112.2.2))) = some (r1, r2, r3) := H
    have A30 := zam A300
    clear A300
    replace H := Option.bind_eq_some_iff.mp H
    obtain ⟨⟨t112, t113, t114⟩, A310, H⟩ := H
    replace H : (some (t112, t113, t114)) = some (r1, r2, r3) := H
    have A31 := zam A310
    clear A310
    simp only [Option.some.injEq, Prod.mk.injEq] at H
    obtain ⟨rfl, rfl, rfl⟩ := H
    try go_wp2_with (first | ((with_reducible refine zgd (N := 13) rfl ?_); refine box_event ?hg (N := 13) ?hd (cs := #[.bool false]) (t := 110) ?hr ?_; (case hd => rfl); (case hg => rfl); (case hr => first | (go_simp; done) | (go_simp; rfl)); intro gb108 hg w32 hbox hb; have n0_ := zam (zkb (g := gb101) (o := .cells #[.int .i64 a1_0, .int .i64 a1_1] 32 (0, 0)) (by (with_reducible repeat (first | refine zkn ?_ _ | refine zkd ?_ | refine zka ?_ _)); exact BK101.out) hb); have n1_ := zam (zkb (g := gb102) (o := .cells #[.int .i64 a3_0, .int .i64 a3_1] 32 (0, 0)) (by (with_reducible repeat (first | refine zkn ?_ _ | refine zkd ?_ | refine zka ?_ _)); exact BK102.out) hb); have n2_ := zam (zkb (g := gb103) (o := .cells #[.int .i64 0, .int .i64 0] 32 (0, 0)) (by (with_reducible repeat (first | refine zkn ?_ _ | refine zkd ?_ | refine zka ?_ _)); exact BK103.out) hb); have n3_ := zam (zbt (by repeat (first | (with_reducible first | exact HB.out | apply zba | apply zbn | apply zb1 | refine zbs ?_ GE101.out | refine zbs ?_ GE102.out | refine zbs ?_ GE103.out) | exact HB.out)) hb); have n4_ := zam (hbox); have n5_ := zam ((by rw [hg]; exact (zbz (by repeat (first | (with_reducible first | exact HB.out | apply zba | apply zbn | apply zb1 | refine zbs ?_ GE101.out | refine zbs ?_ GE102.out | refine zbs ?_ GE103.out) | exact HB.out))) : w.heap.size ≤ gb108)); have n6_ := zam ((by rw [hg]; exact (zbz (by repeat (first | (with_reducible first | exact HB.out | apply zba | apply zbn | apply zb1 | refine zbs ?_ GE101.out | refine zbs ?_ GE102.out | refine zbs ?_ GE103.out) | exact HB.out))) : w.heap.size ≤ gb108)); have n7_ := zam ((by rw [hg]; exact Nat.ne_of_lt (blk_lt (g := gb101) (o := .cells #[.int .i64 a1_0, .int .i64 a1_1] 32 (0, 0)) (by (with_reducible repeat (first | refine zkn ?_ _ | refine zkd ?_ | refine zka ?_ _)); exact BK101.out)) : gb101 ≠ gb108)); have n8_ := zam ((by rw [hg]; exact Nat.ne_of_gt (blk_lt (g := gb101) (o := .cells #[.int .i64 a1_0, .int .i64 a1_1] 32 (0, 0)) (by (with_reducible repeat (first | refine zkn ?_ _ | refine zkd ?_ | refine zka ?_ _)); exact BK101.out)) : gb108 ≠ gb101)); have n9_ := zam ((by rw [hg]; exact Nat.ne_of_lt (blk_lt (g := gb102) (o := .cells #[.int .i64 a3_0, .int .i64 a3_1] 32 (0, 0)) (by (with_reducible repeat (first | refine zkn ?_ _ | refine zkd ?_ | refine zka ?_ _)); exact BK102.out)) : gb102 ≠ gb108)); have n10_ := zam ((by rw [hg]; exact Nat.ne_of_gt (blk_lt (g := gb102) (o := .cells #[.int .i64 a3_0, .int .i64 a3_1] 32 (0, 0)) (by (with_reducible repeat (first | refine zkn ?_ _ | refine zkd ?_ | refine zka ?_ _)); exact BK102.out)) : gb108 ≠ gb102)); have n11_ := zam ((by rw [hg]; exact Nat.ne_of_lt (blk_lt (g := gb103) (o := .cells #[.int .i64 0, .int .i64 0] 32 (0, 0)) (by (with_reducible repeat (first | refine zkn ?_ _ | refine zkd ?_ | refine zka ?_ _)); exact BK103.out)) : gb103 ≠ gb108)); have n12_ := zam ((by rw [hg]; exact Nat.ne_of_gt (blk_lt (g := gb103) (o := .cells #[.int .i64 0, .int .i64 0] 32 (0, 0)) (by (with_reducible repeat (first | refine zkn ?_ _ | refine zkd ?_ | refine zka ?_ _)); exact BK103.out)) : gb108 ≠ gb103)); clear BK101; clear BK102; clear BK103; clear HB; have BK101 := n0_; have BK102 := n1_; have BK103 := n2_; have HB := n3_; have BK108 := n4_; have GW108 := n5_; have GE108 := n6_; have NB101_108 := n7_; have NB108_101 := n8_; have NB102_108 := n9_; have NB108_102 := n10_; have NB103_108 := n11_; have NB108_103 := n12_; clear n0_ n1_ n2_ n3_ n4_ n5_ n6_ n7_ n8_ n9_ n10_ n11_ n12_; clear hb hbox hg) | ((with_reducible refine zgd (N := 14) rfl ?_); refine box_event ?hg (N := 14) ?hd (cs := #[.bool false]) (t := 110) ?hr ?_; (case hd => rfl); (case hg => rfl); (case hr => first | (go_simp; done) | (go_simp; rfl)); intro gb109 hg w33 hbox hb; have n0_ := zam (zkb (g := gb101) (o := .cells #[.int .i64 a1_0, .int .i64 a1_1] 32 (0, 0)) (by (with_reducible repeat (first | refine zkn ?_ _ | refine zkd ?_ | refine zka ?_ _)); exact BK101.out) hb); have n1_ := zam (zkb (g := gb102) (o := .cells #[.int .i64 a3_0, .int .i64 a3_1] 32 (0, 0)) (by (with_reducible repeat (first | refine zkn ?_ _ | refine zkd ?_ | refine zka ?_ _)); exact BK102.out) hb); have n2_ := zam (zkb (g := gb103) (o := .cells #[.int .i64 0, .int .i64 0] 32 (0, 0)) (by (with_reducible repeat (first | refine zkn ?_ _ | refine zkd ?_ | refine zka ?_ _)); exact BK103.out) hb); have n3_ := zam (zkb (g := gb108) (o := .cells #[.bool false] 110 (0, 0)) (by (with_reducible repeat (first | refine zkn ?_ _ | refine zkd ?_ | refine zka ?_ _)); exact BK108.out) hb); have n4_ := zam (zbt (by repeat (first | (with_reducible first | exact HB.out | apply zba | apply zbn | apply zb1 | refine zbs ?_ GE101.out | refine zbs ?_ GE102.out | refine zbs ?_ GE103.out | refine zbs ?_ GE108.out) | exact HB.out)) hb); have n5_ := zam (hbox); have n6_ := zam ((by rw [hg]; exact (zbz (by repeat (first | (with_reducible first | exact HB.out | apply zba | apply zbn | apply zb1 | refine zbs ?_ GE101.out | refine zbs ?_ GE102.out | refine zbs ?_ GE103.out | refine zbs ?_ GE108.out) | exact HB.out))) : w.heap.size ≤ gb109)); have n7_ := zam ((by rw [hg]; exact (zbz (by repeat (first | (with_reducible first | exact HB.out | apply zba | apply zbn | apply zb1 | refine zbs ?_ GE101.out | refine zbs ?_ GE102.out | refine zbs ?_ GE103.out | refine zbs ?_ GE108.out) | exact HB.out))) : w.heap.size ≤ gb109)); have n8_ := zam ((by rw [hg]; exact Nat.ne_of_lt (blk_lt (g := gb101) (o := .cells #[.int .i64 a1_0, .int .i64 a1_1] 32 (0, 0)) (by (with_reducible repeat (first | refine zkn ?_ _ | refine zkd ?_ | refine zka ?_ _)); exact BK101.out)) : gb101 ≠ gb109)); have n9_ := zam ((by rw [hg]; exact Nat.ne_of_gt (blk_lt (g := gb101) (o := .cells #[.int .i64 a1_0, .int .i64 a1_1] 32 (0, 0)) (by (with_reducible repeat (first | refine zkn ?_ _ | refine zkd ?_ | refine zka ?_ _)); exact BK101.out)) : gb109 ≠ gb101)); have n10_ := zam ((by rw [hg]; exact Nat.ne_of_lt (blk_lt (g := gb102) (o := .cells #[.int .i64 a3_0, .int .i64 a3_1] 32 (0, 0)) (by (with_reducible repeat (first | refine zkn ?_ _ | refine zkd ?_ | refine zka ?_ _)); exact BK102.out)) : gb102 ≠ gb109)); have n11_ := zam ((by rw [hg]; exact Nat.ne_of_gt (blk_lt (g := gb102) (o := .cells #[.int .i64 a3_0, .int .i64 a3_1] 32 (0, 0)) (by (with_reducible repeat (first | refine zkn ?_ _ | refine zkd ?_ | refine zka ?_ _)); exact BK102.out)) : gb109 ≠ gb102)); have n12_ := zam ((by rw [hg]; exact Nat.ne_of_lt (blk_lt (g := gb103) (o := .cells #[.int .i64 0, .int .i64 0] 32 (0, 0)) (by (with_reducible repeat (first | refine zkn ?_ _ | refine zkd ?_ | refine zka ?_ _)); exact BK103.out)) : gb103 ≠ gb109)); have n13_ := zam ((by rw [hg]; exact Nat.ne_of_gt (blk_lt (g := gb103) (o := .cells #[.int .i64 0, .int .i64 0] 32 (0, 0)) (by (with_reducible repeat (first | refine zkn ?_ _ | refine zkd ?_ | refine zka ?_ _)); exact BK103.out)) : gb109 ≠ gb103)); have n14_ := zam ((by rw [hg]; exact Nat.ne_of_lt (blk_lt (g := gb108) (o := .cells #[.bool false] 110 (0, 0)) (by (with_reducible repeat (first | refine zkn ?_ _ | refine zkd ?_ | refine zka ?_ _)); exact BK108.out)) : gb108 ≠ gb109)); have n15_ := zam ((by rw [hg]; exact Nat.ne_of_gt (blk_lt (g := gb108) (o := .cells #[.bool false] 110 (0, 0)) (by (with_reducible repeat (first | refine zkn ?_ _ | refine zkd ?_ | refine zka ?_ _)); exact BK108.out)) : gb109 ≠ gb108)); clear BK101; clear BK102; clear BK103; clear BK108; clear HB; have BK101 := n0_; have BK102 := n1_; have BK103 := n2_; have BK108 := n3_; have HB := n4_; have BK109 := n5_; have GW109 := n6_; have GE109 := n7_; have NB101_109 := n8_; have NB109_101 := n9_; have NB102_109 := n10_; have NB109_102 := n11_; have NB103_109 := n12_; have NB109_103 := n13_; have NB108_109 := n14_; have NB109_108 := n15_; clear n0_ n1_ n2_ n3_ n4_ n5_ n6_ n7_ n8_ n9_ n10_ n11_ n12_ n13_ n14_ n15_; clear hb hbox hg; have hnb34 := NB108_101.out; have hnc34 := NB101_108.out; have hnb35 := NB108_102.out; have hnc35 := NB102_108.out; have hnb36 := NB108_103.out; have hnc36 := NB103_108.out; have hnb37 := NB108_109.out; have hnc37 := NB109_108.out; have hcz38_0 : w33.cell? ⟨gb108, 0, none⟩ = some (.bool false) := (zkc BK108.out 0).trans rfl; have hfz38_0 := zkz BK108.out 0; have hnb39 := NB109_101.out; have hnc39 := NB101_109.out; have hnb40 := NB109_102.out; have hnc40 := NB102_109.out; have hnb41 := NB109_103.out; have hnc41 := NB103_109.out; have hcz42_0 : w33.cell? ⟨gb109, 0, none⟩ = some (.bool false) := (zkc BK109.out 0).trans rfl; have hfz42_0 := zkz BK109.out 0))
    have n0_ : Aside0 (((w33.setCell ⟨gb108, 0, none⟩ (.bool false)).setCell ⟨gb109, 0, none⟩ (.bool true)).heap[gb101]? = some (.cells #[.int .i64 a1_0, .int .i64 a1_1] 32 (0, 0))) := ⟨by (with_reducible repeat (first | refine zkn ?_ _ | refine zkd ?_ | refine zka ?_ _)); refine blk_far ?_ NB101_109.out _; (with_reducible repeat (first | refine zkn ?_ _ | refine zkd ?_ | refine zka ?_ _)); refine blk_far ?_ NB101_108.out _; (with_reducible repeat (first | refine zkn ?_ _ | refine zkd ?_ | refine zka ?_ _)); exact BK101.out⟩
    have n1_ : Aside0 (((w33.setCell ⟨gb108, 0, none⟩ (.bool false)).setCell ⟨gb109, 0, none⟩ (.bool true)).heap[gb102]? = some (.cells #[.int .i64 a3_0, .int .i64 a3_1] 32 (0, 0))) := ⟨by (with_reducible repeat (first | refine zkn ?_ _ | refine zkd ?_ | refine zka ?_ _)); refine blk_far ?_ NB102_109.out _; (with_reducible repeat (first | refine zkn ?_ _ | refine zkd ?_ | refine zka ?_ _)); refine blk_far ?_ NB102_108.out _; (with_reducible repeat (first | refine zkn ?_ _ | refine zkd ?_ | refine zka ?_ _)); exact BK102.out⟩
    have n2_ : Aside0 (((w33.setCell ⟨gb108, 0, none⟩ (.bool false)).setCell ⟨gb109, 0, none⟩ (.bool true)).heap[gb103]? = some (.cells #[.int .i64 0, .int .i64 0] 32 (0, 0))) := ⟨by (with_reducible repeat (first | refine zkn ?_ _ | refine zkd ?_ | refine zka ?_ _)); refine blk_far ?_ NB103_109.out _; (with_reducible repeat (first | refine zkn ?_ _ | refine zkd ?_ | refine zka ?_ _)); refine blk_far ?_ NB103_108.out _; (with_reducible repeat (first | refine zkn ?_ _ | refine zkd ?_ | refine zka ?_ _)); exact BK103.out⟩
    have n3_ : Aside0 (((w33.setCell ⟨gb108, 0, none⟩ (.bool false)).setCell ⟨gb109, 0, none⟩ (.bool true)).heap[gb108]? = some (.cells #[.bool false] 110 (0, 0))) := ⟨by (with_reducible repeat (first | refine zkn ?_ _ | refine zkd ?_ | refine zka ?_ _)); refine blk_far ?_ NB108_109.out _; (with_reducible repeat (first | refine zkn ?_ _ | refine zkd ?_ | refine zka ?_ _)); refine blk_put (cs := #[.bool false]) ?_ 0 _ rfl; (with_reducible repeat (first | refine zkn ?_ _ | refine zkd ?_ | refine zka ?_ _)); exact BK108.out⟩
    have n4_ : Aside0 (((w33.setCell ⟨gb108, 0, none⟩ (.bool false)).setCell ⟨gb109, 0, none⟩ (.bool true)).heap[gb109]? = some (.cells #[.bool true] 110 (0, 0))) := ⟨by (with_reducible repeat (first | refine zkn ?_ _ | refine zkd ?_ | refine zka ?_ _)); refine blk_put (cs := #[.bool false]) ?_ 0 _ rfl; (with_reducible repeat (first | refine zkn ?_ _ | refine zkd ?_ | refine zka ?_ _)); refine blk_far ?_ NB109_108.out _; (with_reducible repeat (first | refine zkn ?_ _ | refine zkd ?_ | refine zka ?_ _)); exact BK109.out⟩
    have n5_ : Aside0 (Below w.heap.size w ((w33.setCell ⟨gb108, 0, none⟩ (.bool false)).setCell ⟨gb109, 0, none⟩ (.bool true))) := ⟨by repeat (first | (with_reducible first | exact HB.out | apply zba | apply zbn | apply zb1 | refine zbs ?_ GE101.out | refine zbs ?_ GE102.out | refine zbs ?_ GE103.out | refine zbs ?_ GE108.out | refine zbs ?_ GE109.out) | exact HB.out)⟩
    (try clear BK101)
    (try clear BK102)
    (try clear BK103)
    (try clear BK108)
    (try clear BK109)
    (try clear HB)
    generalize ((w33.setCell ⟨gb108, 0, none⟩ (.bool false)).setCell ⟨gb109, 0, none⟩ (.bool true)) = w43 at n0_ n1_ n2_ n3_ n4_ n5_ ⊢
    have BK101 := n0_
    have BK102 := n1_
    have BK103 := n2_
    have BK108 := n3_
    have BK109 := n4_
    have HB := n5_
    clear n0_ n1_ n2_ n3_ n4_ n5_
    have n0_ := zam (zkd BK101.out)
    have n1_ := zam (zkd BK102.out)
    have n2_ := zam (zkd BK103.out)
    have n3_ := zam (zkd BK108.out)
    have n4_ := zam (zkd BK109.out)
    have n5_ := zam (zb1 HB.out)
    clear BK101
    clear BK102
    clear BK103
    clear BK108
    clear BK109
    clear HB
    have BK101 := n0_
    have BK102 := n1_
    have BK103 := n2_
    have BK108 := n3_
    have BK109 := n4_
    have HB := n5_
    clear n0_ n1_ n2_ n3_ n4_ n5_
    refine start_ (n := 42) (S := fun w' => w'.cell? ⟨gb108, 0, none⟩ = some (.bool false) ∧ w'.cell? ⟨gb101, 0, none⟩ = some (.int .i64 a1_0) ∧ w'.cell? ⟨gb101, 1, none⟩ = some (.int .i64 a1_1) ∧ w'.cell? ⟨gb102, 0, none⟩ = some (.int .i64 a3_0) ∧ w'.cell? ⟨gb102, 1, none⟩ = some (.int .i64 a3_1) ∧ w'.cell? ⟨gb109, 0, none⟩ = some (.bool true)) (ds := []) #[false, false, false, false, false, false, false, false, false, false, false, false, false, false, false, false, false, false, false, false, false, false, false, false, false, false, false, false, false, false, false, false, false, false, false, false, false, false, false, false, false, false] (by kernel_rfl) rfl rfl ⟨(zkc BK108.out 0).trans rfl, (zkc BK101.out 0).trans rfl, (zkc BK101.out 1).trans rfl, (zkc BK102.out 0).trans rfl, (zkc BK102.out 1).trans rfl, (zkc BK109.out 0).trans rfl⟩ (fun hHeld => ?_); refine with_tabW bound_Line.tab7 bound_Line.bits7 (fun HT_ HW_ => ?_)
    generalize w43.drew = w44 at BK101 BK102 BK103 BK108 BK109 HB hHeld ⊢
    refine pure_ (i := 1) (N := some 48) (v := ?_) (a' := ?_) #[false, true, false, false, false, false, false, false, false, false, false, false, false, false, false, false, false, false, false, false, false, false, false, false, false, false, false, false, false, false, false, false, false, false, false, false, false, false, false, false, false, false] rfl rfl (any_of HT_.out (by kernel_rfl)) (fun _ _ _ h => h) (Or.inl ⟨by rfl, ?_⟩) ?_ ?_
    rotate_left
    ·intro w'
     go_simp
     with_reducible rfl
    rotate_left
    ·simp only [Act.put, zsa, zsz, zss, i64_w, i32_w]
     rfl
    refine pure_ (i := 3) (N := some 50) (v := ?_) (a' := ?_) #[false, true, false, true, false, false, false, false, false, false, false, false, false, false, false, false, false, false, false, false, false, false, false, false, false, false, false, false, false, false, false, false, false, false, false, false, false, false, false, false, false, false] rfl rfl (any_of HT_.out (by kernel_rfl)) (fun _ _ _ h => h) (Or.inl ⟨by rfl, ?_⟩) ?_ ?_
    rotate_left
    ·intro w'
     go_simp
     with_reducible rfl
    rotate_left
    ·simp only [Act.put, zsa, zsz, zss, i64_w, i32_w]
     rfl
    refine pure_ (i := 4) (N := some 51) (v := ?_) (a' := ?_) #[false, true, false, true, true, false, false, false, false, false, false, false, false, false, false, false, false, false, false, false, false, false, false, false, false, false, false, false, false, false, false, false, false, false, false, false, false, false, false, false, false, false] rfl rfl (any_of HT_.out (by kernel_rfl)) (fun _ _ _ h => h) (Or.inl ⟨by rfl, ?_⟩) ?_ ?_
    rotate_left
    ·intro w'
     go_simp
     with_reducible rfl
    rotate_left
    ·simp only [Act.put, zsa, zsz, zss, i64_w, i32_w]
     rfl
    refine pure_ (i := 5) (N := some 52) (v := ?_) (a' := ?_) #[false, true, false, true, true, true, false, false, false, false, false, false, false, false, false, false, false, false, false, false, false, false, false, false, false, false, false, false, false, false, false, false, false, false, false, false, false, false, false, false, false, false] rfl rfl (any_of HT_.out (by kernel_rfl)) (fun _ _ _ h => h) (Or.inl ⟨by rfl, ?_⟩) ?_ ?_
    rotate_left
    ·intro w'
     go_simp
     with_reducible rfl
    rotate_left
    ·simp only [Act.put, zsa, zsz, zss, i64_w, i32_w]
     rfl
    refine pure_ (i := 7) (N := some 54) (v := ?_) (a' := ?_) #[false, true, false, true, true, true, false, true, false, false, false, false, false, false, false, false, false, false, false, false, false, false, false, false, false, false, false, false, false, false, false, false, false, false, false, false, false, false, false, false, false, false] rfl rfl (any_of HT_.out (by kernel_rfl)) (fun _ _ _ h => h) (Or.inl ⟨by rfl, ?_⟩) ?_ ?_
    rotate_left
    ·intro w'
     go_simp
     with_reducible rfl
    rotate_left
    ·simp only [Act.put, zsa, zsz, zss, i64_w, i32_w]
     rfl
    refine pure_ (i := 9) (N := some 56) (v := ?_) (a' := ?_) #[false, true, false, true, true, true, false, true, false, true, false, false, false, false, false, false, false, false, false, false, false, false, false, false, false, false, false, false, false, false, false, false, false, false, false, false, false, false, false, false, false, false] rfl rfl (any_of HT_.out (by kernel_rfl)) (fun _ _ _ h => h) (Or.inl ⟨by rfl, ?_⟩) ?_ ?_
    rotate_left
    ·intro w'
     go_simp
     with_reducible rfl
    rotate_left
    ·simp only [Act.put, zsa, zsz, zss, i64_w, i32_w]
     rfl
    refine pure_ (i := 10) (N := some 57) (v := ?_) (a' := ?_) #[false, true, false, true, true, true, false, true, false, true, true, false, false, false, false, false, false, false, false, false, false, false, false, false, false, false, false, false, false, false, false, false, false, false, false, false, false, false, false, false, false, false] rfl rfl (any_of HT_.out (by kernel_rfl)) (fun _ _ _ h => h) (Or.inl ⟨by rfl, ?_⟩) ?_ ?_
    rotate_left
    ·intro w'
     go_simp
     with_reducible rfl
    rotate_left
    ·simp only [Act.put, zsa, zsz, zss, i64_w, i32_w]
     rfl
    refine pure_ (i := 11) (N := some 58) (v := ?_) (a' := ?_) #[false, true, false, true, true, true, false, true, false, true, true, true, false, false, false, false, false, false, false, false, false, false, false, false, false, false, false, false, false, false, false, false, false, false, false, false, false, false, false, false, false, false] rfl rfl (any_of HT_.out (by kernel_rfl)) (fun _ _ _ h => h) (Or.inl ⟨by rfl, ?_⟩) ?_ ?_
    rotate_left
    ·intro w'
     go_simp
     with_reducible rfl
    rotate_left
    ·simp only [Act.put, zsa, zsz, zss, i64_w, i32_w]
     rfl
    refine pure_ (i := 14) (N := some 61) (v := ?_) (a' := ?_) #[false, true, false, true, true, true, false, true, false, true, true, true, false, false, true, false, false, false, false, false, false, false, false, false, false, false, false, false, false, false, false, false, false, false, false, false, false, false, false, false, false, false] rfl rfl (any_of HT_.out (by kernel_rfl)) (fun _ _ _ h => h) (Or.inl ⟨by rfl, ?_⟩) ?_ ?_
    rotate_left
    ·intro w'
     go_simp
     with_reducible rfl
    rotate_left
    ·simp only [Act.put, zsa, zsz, zss, i64_w, i32_w]
     rfl
    refine pure_ (i := 15) (N := some 62) (v := ?_) (a' := ?_) #[false, true, false, true, true, true, false, true, false, true, true, true, false, false, true, true, false, false, false, false, false, false, false, false, false, false, false, false, false, false, false, false, false, false, false, false, false, false, false, false, false, false] rfl rfl (any_of HT_.out (by kernel_rfl)) (fun _ _ _ h => h) (Or.inl ⟨by rfl, ?_⟩) ?_ ?_
    rotate_left
    ·intro w'
     go_simp
     with_reducible rfl
    rotate_left
    ·simp only [Act.put, zsa, zsz, zss, i64_w, i32_w]
     rfl
    refine pure_ (i := 16) (N := some 63) (v := ?_) (a' := ?_) #[false, true, false, true, true, true, false, true, false, true, true, true, false, false, true, true, true, false, false, false, false, false, false, false, false, false, false, false, false, false, false, false, false, false, false, false, false, false, false, false, false, false] rfl rfl (any_of HT_.out (by kernel_rfl)) (fun _ _ _ h => h) (Or.inl ⟨by rfl, ?_⟩) ?_ ?_
    rotate_left
    ·intro w'
     go_simp
     with_reducible rfl
    rotate_left
    ·simp only [Act.put, zsa, zsz, zss, i64_w, i32_w]
     rfl
    refine pure_ (i := 19) (N := some 66) (v := ?_) (a' := ?_) #[false, true, false, true, true, true, false, true, false, true, true, true, false, false, true, true, true, false, false, true, false, false, false, false, false, false, false, false, false, false, false, false, false, false, false, false, false, false, false, false, false, false] rfl rfl (any_of HT_.out (by kernel_rfl)) (fun _ _ _ h => h) (Or.inl ⟨by rfl, ?_⟩) ?_ ?_
    rotate_left
    ·intro w'
     go_simp
     with_reducible rfl
    rotate_left
    ·simp only [Act.put, zsa, zsz, zss, i64_w, i32_w]
     rfl
    refine pure_ (i := 21) (N := some 68) (v := ?_) (a' := ?_) #[false, true, false, true, true, true, false, true, false, true, true, true, false, false, true, true, true, false, false, true, false, true, false, false, false, false, false, false, false, false, false, false, false, false, false, false, false, false, false, false, false, false] rfl rfl (any_of HT_.out (by kernel_rfl)) (fun _ _ _ h => h) (Or.inl ⟨by rfl, ?_⟩) ?_ ?_
    rotate_left
    ·intro w'
     go_simp
     with_reducible rfl
    rotate_left
    ·simp only [Act.put, zsa, zsz, zss, i64_w, i32_w]
     rfl
    refine pure_ (i := 22) (N := some 69) (v := ?_) (a' := ?_) #[false, true, false, true, true, true, false, true, false, true, true, true, false, false, true, true, true, false, false, true, false, true, true, false, false, false, false, false, false, false, false, false, false, false, false, false, false, false, false, false, false, false] rfl rfl (any_of HT_.out (by kernel_rfl)) (fun _ _ _ h => h) (Or.inl ⟨by rfl, ?_⟩) ?_ ?_
    rotate_left
    ·intro w'
     go_simp
     with_reducible rfl
    rotate_left
    ·simp only [Act.put, zsa, zsz, zss, i64_w, i32_w]
     rfl
    refine pure_ (i := 23) (N := some 70) (v := ?_) (a' := ?_) #[false, true, false, true, true, true, false, true, false, true, true, true, false, false, true, true, true, false, false, true, false, true, true, true, false, false, false, false, false, false, false, false, false, false, false, false, false, false, false, false, false, false] rfl rfl (any_of HT_.out (by kernel_rfl)) (fun _ _ _ h => h) (Or.inl ⟨by rfl, ?_⟩) ?_ ?_
    rotate_left
    ·intro w'
     go_simp
     with_reducible rfl
    rotate_left
    ·simp only [Act.put, zsa, zsz, zss, i64_w, i32_w]
     rfl
    refine pure_ (i := 25) (N := some 72) (v := ?_) (a' := ?_) #[false, true, false, true, true, true, false, true, false, true, true, true, false, false, true, true, true, false, false, true, false, true, true, true, false, true, false, false, false, false, false, false, false, false, false, false, false, false, false, false, false, false] rfl rfl (any_of HT_.out (by kernel_rfl)) (fun _ _ _ h => h) (Or.inl ⟨by rfl, ?_⟩) ?_ ?_
    rotate_left
    ·intro w'
     go_simp
     with_reducible rfl
    rotate_left
    ·simp only [Act.put, zsa, zsz, zss, i64_w, i32_w]
     rfl
    refine pure_ (i := 27) (N := some 74) (v := ?_) (a' := ?_) #[false, true, false, true, true, true, false, true, false, true, true, true, false, false, true, true, true, false, false, true, false, true, true, true, false, true, false, true, false, false, false, false, false, false, false, false, false, false, false, false, false, false] rfl rfl (any_of HT_.out (by kernel_rfl)) (fun _ _ _ h => h) (Or.inl ⟨by rfl, ?_⟩) ?_ ?_
    rotate_left
    ·intro w'
     go_simp
     with_reducible rfl
    rotate_left
    ·simp only [Act.put, zsa, zsz, zss, i64_w, i32_w]
     rfl
    refine pure_ (i := 28) (N := some 75) (v := ?_) (a' := ?_) #[false, true, false, true, true, true, false, true, false, true, true, true, false, false, true, true, true, false, false, true, false, true, true, true, false, true, false, true, true, false, false, false, false, false, false, false, false, false, false, false, false, false] rfl rfl (any_of HT_.out (by kernel_rfl)) (fun _ _ _ h => h) (Or.inl ⟨by rfl, ?_⟩) ?_ ?_
    rotate_left
    ·intro w'
     go_simp
     with_reducible rfl
    rotate_left
    ·simp only [Act.put, zsa, zsz, zss, i64_w, i32_w]
     rfl
    refine pure_ (i := 29) (N := some 76) (v := ?_) (a' := ?_) #[false, true, false, true, true, true, false, true, false, true, true, true, false, false, true, true, true, false, false, true, false, true, true, true, false, true, false, true, true, true, false, false, false, false, false, false, false, false, false, false, false, false] rfl rfl (any_of HT_.out (by kernel_rfl)) (fun _ _ _ h => h) (Or.inl ⟨by rfl, ?_⟩) ?_ ?_
    rotate_left
    ·intro w'
     go_simp
     with_reducible rfl
    rotate_left
    ·simp only [Act.put, zsa, zsz, zss, i64_w, i32_w]
     rfl
    refine pure_ (i := 32) (N := some 79) (v := ?_) (a' := ?_) #[false, true, false, true, true, true, false, true, false, true, true, true, false, false, true, true, true, false, false, true, false, true, true, true, false, true, false, true, true, true, false, false, true, false, false, false, false, false, false, false, false, false] rfl rfl (any_of HT_.out (by kernel_rfl)) (fun _ _ _ h => h) (Or.inl ⟨by rfl, ?_⟩) ?_ ?_
    rotate_left
    ·intro w'
     go_simp
     with_reducible rfl
    rotate_left
    ·simp only [Act.put, zsa, zsz, zss, i64_w, i32_w]
     rfl
    refine pure_ (i := 33) (N := some 80) (v := ?_) (a' := ?_) #[false, true, false, true, true, true, false, true, false, true, true, true, false, false, true, true, true, false, false, true, false, true, true, true, false, true, false, true, true, true, false, false, true, true, false, false, false, false, false, false, false, false] rfl rfl (any_of HT_.out (by kernel_rfl)) (fun _ _ _ h => h) (Or.inl ⟨by rfl, ?_⟩) ?_ ?_
    rotate_left
    ·intro w'
     go_simp
     with_reducible rfl
    rotate_left
    ·simp only [Act.put, zsa, zsz, zss, i64_w, i32_w]
     rfl
    refine pure_ (i := 34) (N := some 81) (v := ?_) (a' := ?_) #[false, true, false, true, true, true, false, true, false, true, true, true, false, false, true, true, true, false, false, true, false, true, true, true, false, true, false, true, true, true, false, false, true, true, true, false, false, false, false, false, false, false] rfl rfl (any_of HT_.out (by kernel_rfl)) (fun _ _ _ h => h) (Or.inl ⟨by rfl, ?_⟩) ?_ ?_
    rotate_left
    ·intro w'
     go_simp
     with_reducible rfl
    rotate_left
    ·simp only [Act.put, zsa, zsz, zss, i64_w, i32_w]
     rfl
    refine take_ (i := 0) (N := some 47) (v := ?_) (a' := ?_) #[true, true, false, true, true, true, false, true, false, true, true, true, false, false, true, true, true, false, false, true, false, true, true, true, false, true, false, true, true, true, false, false, true, true, true, false, false, false, false, false, false, false] rfl rfl (take_ofW HT_.out HW_.out (by kernel_rfl)) (fun _ _ _ h => h) (Or.inl ⟨by rfl, ?_⟩) hHeld ?_ ?_
    rotate_left
    ·rintro w' ⟨s0, s1, s2, s3, s4, s5⟩
     go_simp
     with_reducible rfl
    rotate_left
    ·simp only [Act.put, zsa, zsz, zss, i64_w, i32_w]
     rfl
    refine take_ (i := 2) (N := some 49) (v := ?_) (a' := ?_) #[true, true, true, true, true, true, false, true, false, true, true, true, false, false, true, true, true, false, false, true, false, true, true, true, false, true, false, true, true, true, false, false, true, true, true, false, false, false, false, false, false, false] rfl rfl (take_ofW HT_.out HW_.out (by kernel_rfl)) (fun _ _ _ h => h) (Or.inl ⟨by rfl, ?_⟩) hHeld ?_ ?_
    rotate_left
    ·rintro w' ⟨s0, s1, s2, s3, s4, s5⟩
     go_simp
     with_reducible rfl
    rotate_left
    ·simp only [Act.put, zsa, zsz, zss, i64_w, i32_w]
     rfl
    refine pure_ (i := 6) (N := some 53) (v := ?_) (a' := ?_) #[true, true, true, true, true, true, true, true, false, true, true, true, false, false, true, true, true, false, false, true, false, true, true, true, false, true, false, true, true, true, false, false, true, true, true, false, false, false, false, false, false, false] rfl rfl (any_of HT_.out (by kernel_rfl)) (fun _ _ _ h => h) (Or.inl ⟨by rfl, ?_⟩) ?_ ?_
    rotate_left
    ·intro w'
     go_simp
     with_reducible rfl
    rotate_left
    ·simp only [Act.put, zsa, zsz, zss, i64_w, i32_w]
     rfl
    refine take_ (i := 8) (N := some 55) (v := ?_) (a' := ?_) #[true, true, true, true, true, true, true, true, true, true, true, true, false, false, true, true, true, false, false, true, false, true, true, true, false, true, false, true, true, true, false, false, true, true, true, false, false, false, false, false, false, false] rfl rfl (take_ofW HT_.out HW_.out (by kernel_rfl)) (fun _ _ _ h => h) (Or.inl ⟨by rfl, ?_⟩) hHeld ?_ ?_
    rotate_left
    ·rintro w' ⟨s0, s1, s2, s3, s4, s5⟩
     go_simp
     with_reducible rfl
    rotate_left
    ·simp only [Act.put, zsa, zsz, zss, i64_w, i32_w]
     rfl
    refine pure_ (i := 12) (N := some 59) (v := ?_) (a' := ?_) #[true, true, true, true, true, true, true, true, true, true, true, true, true, false, true, true, true, false, false, true, false, true, true, true, false, true, false, true, true, true, false, false, true, true, true, false, false, false, false, false, false, false] rfl rfl (any_of HT_.out (by kernel_rfl)) (fun _ _ _ h => h) (Or.inl ⟨by rfl, ?_⟩) ?_ ?_
    rotate_left
    ·intro w'
     go_simp
     with_reducible rfl
    rotate_left
    ·simp only [Act.put, zsa, zsz, zss, i64_w, i32_w]
     rfl
    refine pure_ (i := 13) (N := some 60) (v := ?_) (a' := ?_) #[true, true, true, true, true, true, true, true, true, true, true, true, true, true, true, true, true, false, false, true, false, true, true, true, false, true, false, true, true, true, false, false, true, true, true, false, false, false, false, false, false, false] rfl rfl (any_of HT_.out (by kernel_rfl)) (fun _ _ _ h => h) (Or.inl ⟨by rfl, ?_⟩) ?_ ?_
    rotate_left
    ·intro w'
     go_simp
     with_reducible rfl
    rotate_left
    ·simp only [Act.put, zsa, zsz, zss, i64_w, i32_w]
     rfl
    refine take_ (i := 18) (N := some 65) (v := ?_) (a' := ?_) #[true, true, true, true, true, true, true, true, true, true, true, true, true, true, true, true, true, false, true, true, false, true, true, true, false, true, false, true, true, true, false, false, true, true, true, false, false, false, false, false, false, false] rfl rfl (take_ofW HT_.out HW_.out (by kernel_rfl)) (fun _ _ _ h => h) (Or.inl ⟨by rfl, ?_⟩) hHeld ?_ ?_
    rotate_left
    ·rintro w' ⟨s0, s1, s2, s3, s4, s5⟩
     go_simp
     with_reducible rfl
    rotate_left
    ·simp only [Act.put, zsa, zsz, zss, i64_w, i32_w]
     rfl
    refine take_ (i := 20) (N := some 67) (v := ?_) (a' := ?_) #[true, true, true, true, true, true, true, true, true, true, true, true, true, true, true, true, true, false, true, true, true, true, true, true, false, true, false, true, true, true, false, false, true, true, true, false, false, false, false, false, false, false] rfl rfl (take_ofW HT_.out HW_.out (by kernel_rfl)) (fun _ _ _ h => h) (Or.inl ⟨by rfl, ?_⟩) hHeld ?_ ?_
    rotate_left
    ·rintro w' ⟨s0, s1, s2, s3, s4, s5⟩
     go_simp
     with_reducible rfl
    rotate_left
    ·simp only [Act.put, zsa, zsz, zss, i64_w, i32_w]
     rfl
    refine pure_ (i := 24) (N := some 71) (v := ?_) (a' := ?_) #[true, true, true, true, true, true, true, true, true, true, true, true, true, true, true, true, true, false, true, true, true, true, true, true, true, true, false, true, true, true, false, false, true, true, true, false, false, false, false, false, false, false] rfl rfl (any_of HT_.out (by kernel_rfl)) (fun _ _ _ h => h) (Or.inl ⟨by rfl, ?_⟩) ?_ ?_
    rotate_left
    ·intro w'
     go_simp
     with_reducible rfl
    rotate_left
    ·simp only [Act.put, zsa, zsz, zss, i64_w, i32_w]
     rfl
    refine take_ (i := 26) (N := some 73) (v := ?_) (a' := ?_) #[true, true, true, true, true, true, true, true, true, true, true, true, true, true, true, true, true, false, true, true, true, true, true, true, true, true, true, true, true, true, false, false, true, true, true, false, false, false, false, false, false, false] rfl rfl (take_ofW HT_.out HW_.out (by kernel_rfl)) (fun _ _ _ h => h) (Or.inl ⟨by rfl, ?_⟩) hHeld ?_ ?_
    rotate_left
    ·rintro w' ⟨s0, s1, s2, s3, s4, s5⟩
     go_simp
     with_reducible rfl
    rotate_left
    ·simp only [Act.put, zsa, zsz, zss, i64_w, i32_w]
     rfl
    refine pure_ (i := 30) (N := some 77) (v := ?_) (a' := ?_) #[true, true, true, true, true, true, true, true, true, true, true, true, true, true, true, true, true, false, true, true, true, true, true, true, true, true, true, true, true, true, true, false, true, true, true, false, false, false, false, false, false, false] rfl rfl (any_of HT_.out (by kernel_rfl)) (fun _ _ _ h => h) (Or.inl ⟨by rfl, ?_⟩) ?_ ?_
    rotate_left
    ·intro w'
     go_simp
     with_reducible rfl
    rotate_left
    ·simp only [Act.put, zsa, zsz, zss, i64_w, i32_w]
     rfl
    refine pure_ (i := 31) (N := some 78) (v := ?_) (a' := ?_) #[true, true, true, true, true, true, true, true, true, true, true, true, true, true, true, true, true, false, true, true, true, true, true, true, true, true, true, true, true, true, true, true, true, true, true, false, false, false, false, false, false, false] rfl rfl (any_of HT_.out (by kernel_rfl)) (fun _ _ _ h => h) (Or.inl ⟨by rfl, ?_⟩) ?_ ?_
    rotate_left
    ·intro w'
     go_simp
     with_reducible rfl
    rotate_left
    ·simp only [Act.put, zsa, zsz, zss, i64_w, i32_w]
     rfl
    refine one_ (i := 17) (N := some 64) #[true, true, true, true, true, true, true, true, true, true, true, true, true, true, true, true, true, true, true, true, true, true, true, true, true, true, true, true, true, true, true, true, true, true, true, false, false, false, false, false, false, false] rfl rfl (one_of HT_.out (by kernel_rfl)) (by decide) (fun K hK => ?_)
    refine goes_ Try.func112 (by kernel_rfl) rfl #[.agg #[.bool false], .int .i64 (wrap64 ((wrap64 (a1_0 * (wrap64 (a2 - a4)))) + (wrap64 (a3_0 * (wrap64 (a4 - a0)))))), .int .i64 (wrap64 (a2 - a0))] (by rfl) rfl rfl (by (try simp only [zmt, List.map_cons, List.map_nil]); first | done | rfl | (simp only [zld, zlt]; rfl)) ?_
    with_reducible refine (bound_round_div.calls kj7 false (wrap64 ((wrap64 (a1_0 * (wrap64 (a2 - a4)))) + (wrap64 (a3_0 * (wrap64 (a4 - a0)))))) (wrap64 (a2 - a0)) t110 _ A29.out).mono ?_
    rintro e w45 ⟨rfl, hb⟩
    refine ⟨_, rfl, ?_⟩
    have n0_ := zam (zkb (g := gb101) (o := .cells #[.int .i64 a1_0, .int .i64 a1_1] 32 (0, 0)) (by (with_reducible repeat (first | refine zkn ?_ _ | refine zkd ?_ | refine zka ?_ _)); exact BK101.out) hb)
    have n1_ := zam (zkb (g := gb102) (o := .cells #[.int .i64 a3_0, .int .i64 a3_1] 32 (0, 0)) (by (with_reducible repeat (first | refine zkn ?_ _ | refine zkd ?_ | refine zka ?_ _)); exact BK102.out) hb)
    have n2_ := zam (zkb (g := gb103) (o := .cells #[.int .i64 0, .int .i64 0] 32 (0, 0)) (by (with_reducible repeat (first | refine zkn ?_ _ | refine zkd ?_ | refine zka ?_ _)); exact BK103.out) hb)
    have n3_ := zam (zkb (g := gb108) (o := .cells #[.bool false] 110 (0, 0)) (by (with_reducible repeat (first | refine zkn ?_ _ | refine zkd ?_ | refine zka ?_ _)); exact BK108.out) hb)
    have n4_ := zam (zkb (g := gb109) (o := .cells #[.bool true] 110 (0, 0)) (by (with_reducible repeat (first | refine zkn ?_ _ | refine zkd ?_ | refine zka ?_ _)); exact BK109.out) hb)
    have n5_ := zam (zbt (by repeat (first | (with_reducible first | exact HB.out | apply zba | apply zbn | apply zb1 | refine zbs ?_ GE101.out | refine zbs ?_ GE102.out | refine zbs ?_ GE103.out | refine zbs ?_ GE108.out | refine zbs ?_ GE109.out) | exact HB.out)) hb)
    clear BK101
    clear BK102
    clear BK103
    clear BK108
    clear BK109
    clear HB
    have BK101 := n0_
    have BK102 := n1_
    have BK103 := n2_
    have BK108 := n3_
    have BK109 := n4_
    have HB := n5_
    clear n0_ n1_ n2_ n3_ n4_ n5_
    (try clear hb)
    (try clear hb2)
    (try clear hk)
    (try clear hi)
    refine hK.out _ _ ⟨(zkc BK108.out 0).trans rfl, (zkc BK101.out 0).trans rfl, (zkc BK101.out 1).trans rfl, (zkc BK102.out 0).trans rfl, (zkc BK102.out 1).trans rfl, (zkc BK109.out 0).trans rfl⟩ (fun hHeld => ?_)
    clear hK K
    refine norm_ (a' := ?_) ?_ ?_
    rotate_left
    ·show Act.put _ (some 64) _ = _
     simp only [Act.put, zsa, zsz, zss, i64_w, i32_w]
     rfl
    refine one_ (i := 35) (N := some 82) #[true, true, true, true, true, true, true, true, true, true, true, true, true, true, true, true, true, true, true, true, true, true, true, true, true, true, true, true, true, true, true, true, true, true, true, true, false, false, false, false, false, false] rfl rfl (one_of HT_.out (by kernel_rfl)) (by decide) (fun K hK => ?_)
    refine goes_ Try.func112 (by kernel_rfl) rfl #[.agg #[.bool true], .int .i64 (wrap64 ((wrap64 (a1_1 * (wrap64 (a2 - a4)))) + (wrap64 (a3_1 * (wrap64 (a4 - a0)))))), .int .i64 (wrap64 (a2 - a0))] (by rfl) rfl rfl (by (try simp only [zmt, List.map_cons, List.map_nil]); first | done | rfl | (simp only [zld, zlt]; rfl)) ?_
    with_reducible refine (bound_round_div.calls kj7 true (wrap64 ((wrap64 (a1_1 * (wrap64 (a2 - a4)))) + (wrap64 (a3_1 * (wrap64 (a4 - a0)))))) (wrap64 (a2 - a0)) t111 _ A30.out).mono ?_
    rintro e w46 ⟨rfl, hb⟩
    refine ⟨_, rfl, ?_⟩
    have n0_ := zam (zkb (g := gb101) (o := .cells #[.int .i64 a1_0, .int .i64 a1_1] 32 (0, 0)) (by (with_reducible repeat (first | refine zkn ?_ _ | refine zkd ?_ | refine zka ?_ _)); exact BK101.out) hb)
    have n1_ := zam (zkb (g := gb102) (o := .cells #[.int .i64 a3_0, .int .i64 a3_1] 32 (0, 0)) (by (with_reducible repeat (first | refine zkn ?_ _ | refine zkd ?_ | refine zka ?_ _)); exact BK102.out) hb)
    have n2_ := zam (zkb (g := gb103) (o := .cells #[.int .i64 0, .int .i64 0] 32 (0, 0)) (by (with_reducible repeat (first | refine zkn ?_ _ | refine zkd ?_ | refine zka ?_ _)); exact BK103.out) hb)
    have n3_ := zam (zkb (g := gb108) (o := .cells #[.bool false] 110 (0, 0)) (by (with_reducible repeat (first | refine zkn ?_ _ | refine zkd ?_ | refine zka ?_ _)); exact BK108.out) hb)
    have n4_ := zam (zkb (g := gb109) (o := .cells #[.bool true] 110 (0, 0)) (by (with_reducible repeat (first | refine zkn ?_ _ | refine zkd ?_ | refine zka ?_ _)); exact BK109.out) hb)
    have n5_ := zam (zbt (by repeat (first | (with_reducible first | exact HB.out | apply zba | apply zbn | apply zb1 | refine zbs ?_ GE101.out | refine zbs ?_ GE102.out | refine zbs ?_ GE103.out | refine zbs ?_ GE108.out | refine zbs ?_ GE109.out) | exact HB.out)) hb)
    clear BK101
    clear BK102
    clear BK103
    clear BK108
    clear BK109
    clear HB
    have BK101 := n0_
    have BK102 := n1_
    have BK103 := n2_
    have BK108 := n3_
    have BK109 := n4_
    have HB := n5_
    clear n0_ n1_ n2_ n3_ n4_ n5_
    (try clear hb)
    (try clear hb2)
    (try clear hk)
    (try clear hi)
    refine hK.out _ _ ⟨(zkc BK108.out 0).trans rfl, (zkc BK101.out 0).trans rfl, (zkc BK101.out 1).trans rfl, (zkc BK102.out 0).trans rfl, (zkc BK102.out 1).trans rfl, (zkc BK109.out 0).trans rfl⟩ (fun hHeld => ?_)
    clear hK K
    refine norm_ (a' := ?_) ?_ ?_
    rotate_left
    ·show Act.put _ (some 82) _ = _
     simp only [Act.put, zsa, zsz, zss, i64_w, i32_w]
     rfl
    refine pure_ (i := 36) (N := some 83) (v := ?_) (a' := ?_) #[true, true, true, true, true, true, true, true, true, true, true, true, true, true, true, true, true, true, true, true, true, true, true, true, true, true, true, true, true, true, true, true, true, true, true, true, true, false, false, false, false, false] rfl rfl (any_of HT_.out (by kernel_rfl)) (fun _ _ _ h => h) (Or.inl ⟨by rfl, ?_⟩) ?_ ?_
    rotate_left
    ·intro w'
     go_simp
     with_reducible rfl
    rotate_left
    ·simp only [Act.put, zsa, zsz, zss, i64_w, i32_w]
     rfl
    refine one_ (i := 37) (N := some 84) #[true, true, true, true, true, true, true, true, true, true, true, true, true, true, true, true, true, true, true, true, true, true, true, true, true, true, true, true, true, true, true, true, true, true, true, true, true, true, false, false, false, false] rfl rfl (one_of HT_.out (by kernel_rfl)) (by decide) (fun K hK => ?_)
    refine goes_ Try.func82 (by kernel_rfl) rfl #[.agg #[.int .i64 t110, .int .i64 t111]] (by rfl) rfl rfl (by (try simp only [zmt, List.map_cons, List.map_nil]); first | done | rfl | (simp only [zld, zlt]; rfl)) ?_
    with_reducible refine (bound_over.calls kj7 t110 t111 t112 t113 t114 _ A31.out).mono ?_
    rintro e w47 ⟨rfl, hb⟩
    refine ⟨_, rfl, ?_⟩
    have n0_ := zam (zkb (g := gb101) (o := .cells #[.int .i64 a1_0, .int .i64 a1_1] 32 (0, 0)) (by (with_reducible repeat (first | refine zkn ?_ _ | refine zkd ?_ | refine zka ?_ _)); exact BK101.out) hb)
    have n1_ := zam (zkb (g := gb102) (o := .cells #[.int .i64 a3_0, .int .i64 a3_1] 32 (0, 0)) (by (with_reducible repeat (first | refine zkn ?_ _ | refine zkd ?_ | refine zka ?_ _)); exact BK102.out) hb)
    have n2_ := zam (zkb (g := gb103) (o := .cells #[.int .i64 0, .int .i64 0] 32 (0, 0)) (by (with_reducible repeat (first | refine zkn ?_ _ | refine zkd ?_ | refine zka ?_ _)); exact BK103.out) hb)
    have n3_ := zam (zkb (g := gb108) (o := .cells #[.bool false] 110 (0, 0)) (by (with_reducible repeat (first | refine zkn ?_ _ | refine zkd ?_ | refine zka ?_ _)); exact BK108.out) hb)
    have n4_ := zam (zkb (g := gb109) (o := .cells #[.bool true] 110 (0, 0)) (by (with_reducible repeat (first | refine zkn ?_ _ | refine zkd ?_ | refine zka ?_ _)); exact BK109.out) hb)
    have n5_ := zam (zbt (by repeat (first | (with_reducible first | exact HB.out | apply zba | apply zbn | apply zb1 | refine zbs ?_ GE101.out | refine zbs ?_ GE102.out | refine zbs ?_ GE103.out | refine zbs ?_ GE108.out | refine zbs ?_ GE109.out) | exact HB.out)) hb)
    clear BK101
    clear BK102
    clear BK103
    clear BK108
    clear BK109
    clear HB
    have BK101 := n0_
    have BK102 := n1_
    have BK103 := n2_
    have BK108 := n3_
    have BK109 := n4_
    have HB := n5_
    clear n0_ n1_ n2_ n3_ n4_ n5_
    (try clear hb)
    (try clear hb2)
    (try clear hk)
    (try clear hi)
    refine hK.out _ _ ⟨(zkc BK108.out 0).trans rfl, (zkc BK101.out 0).trans rfl, (zkc BK101.out 1).trans rfl, (zkc BK102.out 0).trans rfl, (zkc BK102.out 1).trans rfl, (zkc BK109.out 0).trans rfl⟩ (fun hHeld => ?_)
    clear hK K
    refine norm_ (a' := ?_) ?_ ?_
    rotate_left
    ·show Act.put _ (some 84) _ = _
     simp only [Act.put, zsa, zsz, zss, i64_w, i32_w]
     rfl
    refine pure_ (i := 38) (N := some 85) (v := ?_) (a' := ?_) #[true, true, true, true, true, true, true, true, true, true, true, true, true, true, true, true, true, true, true, true, true, true, true, true, true, true, true, true, true, true, true, true, true, true, true, true, true, true, true, false, false, false] rfl rfl (any_of HT_.out (by kernel_rfl)) (fun _ _ _ h => h) (Or.inl ⟨by rfl, ?_⟩) ?_ ?_
    rotate_left
    ·intro w'
     go_simp
     with_reducible rfl
    rotate_left
    ·simp only [Act.put, zsa, zsz, zss, i64_w, i32_w]
     rfl
    refine pure_ (i := 39) (N := some 86) (v := ?_) (a' := ?_) #[true, true, true, true, true, true, true, true, true, true, true, true, true, true, true, true, true, true, true, true, true, true, true, true, true, true, true, true, true, true, true, true, true, true, true, true, true, true, true, true, false, false] rfl rfl (any_of HT_.out (by kernel_rfl)) (fun _ _ _ h => h) (Or.inl ⟨by rfl, ?_⟩) ?_ ?_
    rotate_left
    ·intro w'
     go_simp
     with_reducible rfl
    rotate_left
    ·simp only [Act.put, zsa, zsz, zss, i64_w, i32_w]
     rfl
    refine one_ (i := 40) (N := none) #[true, true, true, true, true, true, true, true, true, true, true, true, true, true, true, true, true, true, true, true, true, true, true, true, true, true, true, true, true, true, true, true, true, true, true, true, true, true, true, true, true, false] rfl rfl (one_of HT_.out (by kernel_rfl)) (by decide) (fun K hK => ?_)
    have hs48 : w47.cell? ⟨gb103, 0, none⟩ = some (.int .i64 0) := (zkc BK103.out 0).trans rfl
    have hfs48 := zkz BK103.out 0
    have hns48_0 := NB101_103.out
    have hns48_1 := NB102_103.out
    have hns48_3 := NB108_103.out
    have hns48_4 := NB109_103.out
    have hms48_0 := NB103_101.out
    have hms48_1 := NB103_102.out
    have hms48_3 := NB103_108.out
    have hms48_4 := NB103_109.out
    have hs49 : w47.cell? ⟨gb103, 1, none⟩ = some (.int .i64 0) := (zkc BK103.out 1).trans rfl
    have hfs49 := zkz BK103.out 1
    have hns49_0 := NB101_103.out
    have hns49_1 := NB102_103.out
    have hns49_3 := NB108_103.out
    have hns49_4 := NB109_103.out
    have hms49_0 := NB103_101.out
    have hms49_1 := NB103_102.out
    have hms49_3 := NB103_108.out
    have hms49_4 := NB103_109.out
    refine skip_ (w1 := ?_) (by rfl) rfl ?_ ?_
    rotate_left
    ·go_simp
     rfl
    refine hK.out _ _ ⟨((cell_far (p := ⟨gb103, _, none⟩) NB108_103.out _).trans (((cell_far (p := ⟨gb103, _, none⟩) NB108_103.out _).trans (hHeld.1)))), ((cell_far (p := ⟨gb103, _, none⟩) NB101_103.out _).trans (((cell_far (p := ⟨gb103, _, none⟩) NB101_103.out _).trans (hHeld.2.1)))), ((cell_far (p := ⟨gb103, _, none⟩) NB101_103.out _).trans (((cell_far (p := ⟨gb103, _, none⟩) NB101_103.out _).trans (hHeld.2.2.1)))), ((cell_far (p := ⟨gb103, _, none⟩) NB102_103.out _).trans (((cell_far (p := ⟨gb103, _, none⟩) NB102_103.out _).trans (hHeld.2.2.2.1)))), ((cell_far (p := ⟨gb103, _, none⟩) NB102_103.out _).trans (((cell_far (p := ⟨gb103, _, none⟩) NB102_103.out _).trans (hHeld.2.2.2.2.1)))), ((cell_far (p := ⟨gb103, _, none⟩) NB109_103.out _).trans (((cell_far (p := ⟨gb103, _, none⟩) NB109_103.out _).trans (hHeld.2.2.2.2.2))))⟩ (fun hHeld => ?_)
    clear hK K
    refine pure_ (i := 41) (N := some 11) (v := ?_) (a' := ?_) #[true, true, true, true, true, true, true, true, true, true, true, true, true, true, true, true, true, true, true, true, true, true, true, true, true, true, true, true, true, true, true, true, true, true, true, true, true, true, true, true, true, true] rfl rfl (any_of HT_.out (by kernel_rfl)) (fun _ _ _ h => h) (Or.inl ⟨by rfl, ?_⟩) ?_ ?_
    rotate_left
    ·intro w'
     go_simp
     with_reducible rfl
    rotate_left
    ·simp only [Act.put, zsa, zsz, zss, i64_w, i32_w]
     rfl
    refine done_ (done_of HT_.out (by kernel_rfl)) ?_
    try go_wp2
    refine zbr (results_ct rfl _ _ gb103 32 #[.int .i64 t112, .int .i64 t113] (0, 0) _ rfl (by (with_reducible repeat (first | refine zkn ?_ _ | refine zkd ?_ | refine zka ?_ _)); refine blk_put (cs := #[.int .i64 t112, .int .i64 0]) ?_ 1 _ rfl; (with_reducible repeat (first | refine zkn ?_ _ | refine zkd ?_ | refine zka ?_ _)); refine blk_put (cs := #[.int .i64 0, .int .i64 0]) ?_ 0 _ rfl; (with_reducible repeat (first | refine zkn ?_ _ | refine zkd ?_ | refine zka ?_ _)); exact BK103.out) Try.underlying32 rfl (by kernel_rfl)) rfl ?_
    exact ⟨by first | rfl | (simp [errW_none, errW_some] <;> rfl) | (simp [*, errW_none, errW_some] <;> rfl), by repeat (first | (with_reducible first | exact HB.out | apply zba | apply zbn | apply zb1 | refine zbs ?_ GE101.out | refine zbs ?_ GE102.out | refine zbs ?_ GE103.out | refine zbs ?_ GE108.out | refine zbs ?_ GE109.out) | exact HB.out)⟩
 rw [if_neg c7] at H
 have c7b0 : (t107 == 0) = false := beq_eq_false_iff_ne.mpr c7
 have c7b1 : (t107 != 0) = true := bne_iff_ne.mpr c7
 simp only [Option.some.injEq, Prod.mk.injEq] at H
 obtain ⟨rfl, rfl, rfl⟩ := H
 go_enter Try.func68, Try.ntmps68
 go_wp2_with (first | ((with_reducible refine zgd (N := 6) rfl ?_); refine box_event ?hg (N := 6) ?hd (cs := #[.int .i64 a1_0, .int .i64 a1_1]) (t := 32) ?hr ?_; (case hd => rfl); (case hg => rfl); (case hr => first | (go_simp; done) | (go_simp; rfl)); intro gb101 hg w50 hbox hb; have n0_ := zam (zbt (by repeat (first | (with_reducible first | exact HB.out | apply zba | apply zbn | apply zb1) | exact HB.out)) hb); have n1_ := zam (hbox); have n2_ := zam ((by rw [hg]; exact (zbz (by repeat (first | (with_reducible first | exact HB.out | apply zba | apply zbn | apply zb1) | exact HB.out))) : w.heap.size ≤ gb101)); have n3_ := zam ((by rw [hg]; exact (zbz (by repeat (first | (with_reducible first | exact HB.out | apply zba | apply zbn | apply zb1) | exact HB.out))) : w.heap.size ≤ gb101)); clear HB; have HB := n0_; have BK101 := n1_; have GW101 := n2_; have GE101 := n3_; clear n0_ n1_ n2_ n3_; clear hb hbox hg) | ((with_reducible refine zgd (N := 8) rfl ?_); refine box_event ?hg (N := 8) ?hd (cs := #[.int .i64 a3_0, .int .i64 a3_1]) (t := 32) ?hr ?_; (case hd => rfl); (case hg => rfl); (case hr => first | (go_simp; done) | (go_simp; rfl)); intro gb102 hg w51 hbox hb; have n0_ := zam (zkb (g := gb101) (o := .cells #[.int .i64 a1_0, .int .i64 a1_1] 32 (0, 0)) (by (with_reducible repeat (first | refine zkn ?_ _ | refine zkd ?_ | refine zka ?_ _)); exact BK101.out) hb); have n1_ := zam (zbt (by repeat (first | (with_reducible first | exact HB.out | apply zba | apply zbn | apply zb1 | refine zbs ?_ GE101.out) | exact HB.out)) hb); have n2_ := zam (hbox); have n3_ := zam ((by rw [hg]; exact (zbz (by repeat (first | (with_reducible first | exact HB.out | apply zba | apply zbn | apply zb1 | refine zbs ?_ GE101.out) | exact HB.out))) : w.heap.size ≤ gb102)); have n4_ := zam ((by rw [hg]; exact (zbz (by repeat (first | (with_reducible first | exact HB.out | apply zba | apply zbn | apply zb1 | refine zbs ?_ GE101.out) | exact HB.out))) : w.heap.size ≤ gb102)); have n5_ := zam ((by rw [hg]; exact Nat.ne_of_lt (blk_lt (g := gb101) (o := .cells #[.int .i64 a1_0, .int .i64 a1_1] 32 (0, 0)) (by (with_reducible repeat (first | refine zkn ?_ _ | refine zkd ?_ | refine zka ?_ _)); exact BK101.out)) : gb101 ≠ gb102)); have n6_ := zam ((by rw [hg]; exact Nat.ne_of_gt (blk_lt (g := gb101) (o := .cells #[.int .i64 a1_0, .int .i64 a1_1] 32 (0, 0)) (by (with_reducible repeat (first | refine zkn ?_ _ | refine zkd ?_ | refine zka ?_ _)); exact BK101.out)) : gb102 ≠ gb101)); clear BK101; clear HB; have BK101 := n0_; have HB := n1_; have BK102 := n2_; have GW102 := n3_; have GE102 := n4_; have NB101_102 := n5_; have NB102_101 := n6_; clear n0_ n1_ n2_ n3_ n4_ n5_ n6_; clear hb hbox hg) | ((with_reducible refine zgd (N := 10) rfl ?_); refine box_event ?hg (N := 10) ?hd (cs := #[.int .i64 0, .int .i64 0]) (t := 32) ?hr ?_; (case hd => rfl); (case hg => rfl); (case hr => first | (go_simp; done) | (go_simp; rfl)); intro gb103 hg w52 hbox hb; have n0_ := zam (zkb (g := gb101) (o := .cells #[.int .i64 a1_0, .int .i64 a1_1] 32 (0, 0)) (by (with_reducible repeat (first | refine zkn ?_ _ | refine zkd ?_ | refine zka ?_ _)); exact BK101.out) hb); have n1_ := zam (zkb (g := gb102) (o := .cells #[.int .i64 a3_0, .int .i64 a3_1] 32 (0, 0)) (by (with_reducible repeat (first | refine zkn ?_ _ | refine zkd ?_ | refine zka ?_ _)); exact BK102.out) hb); have n2_ := zam (zbt (by repeat (first | (with_reducible first | exact HB.out | apply zba | apply zbn | apply zb1 | refine zbs ?_ GE101.out | refine zbs ?_ GE102.out) | exact HB.out)) hb); have n3_ := zam (hbox); have n4_ := zam ((by rw [hg]; exact (zbz (by repeat (first | (with_reducible first | exact HB.out | apply zba | apply zbn | apply zb1 | refine zbs ?_ GE101.out | refine zbs ?_ GE102.out) | exact HB.out))) : w.heap.size ≤ gb103)); have n5_ := zam ((by rw [hg]; exact (zbz (by repeat (first | (with_reducible first | exact HB.out | apply zba | apply zbn | apply zb1 | refine zbs ?_ GE101.out | refine zbs ?_ GE102.out) | exact HB.out))) : w.heap.size ≤ gb103)); have n6_ := zam ((by rw [hg]; exact Nat.ne_of_lt (blk_lt (g := gb101) (o := .cells #[.int .i64 a1_0, .int .i64 a1_1] 32 (0, 0)) (by (with_reducible repeat (first | refine zkn ?_ _ | refine zkd ?_ | refine zka ?_ _)); exact BK101.out)) : gb101 ≠ gb103)); have n7_ := zam ((by rw [hg]; exact Nat.ne_of_gt (blk_lt (g := gb101) (o := .cells #[.int .i64 a1_0, .int .i64 a1_1] 32 (0, 0)) (by (with_reducible repeat (first | refine zkn ?_ _ | refine zkd ?_ | refine zka ?_ _)); exact BK101.out)) : gb103 ≠ gb101)); have n8_ := zam ((by rw [hg]; exact Nat.ne_of_lt (blk_lt (g := gb102) (o := .cells #[.int .i64 a3_0, .int .i64 a3_1] 32 (0, 0)) (by (with_reducible repeat (first | refine zkn ?_ _ | refine zkd ?_ | refine zka ?_ _)); exact BK102.out)) : gb102 ≠ gb103)); have n9_ := zam ((by rw [hg]; exact Nat.ne_of_gt (blk_lt (g := gb102) (o := .cells #[.int .i64 a3_0, .int .i64 a3_1] 32 (0, 0)) (by (with_reducible repeat (first | refine zkn ?_ _ | refine zkd ?_ | refine zka ?_ _)); exact BK102.out)) : gb103 ≠ gb102)); clear BK101; clear BK102; clear HB; have BK101 := n0_; have BK102 := n1_; have HB := n2_; have BK103 := n3_; have GW103 := n4_; have GE103 := n5_; have NB101_103 := n6_; have NB103_101 := n7_; have NB102_103 := n8_; have NB103_102 := n9_; clear n0_ n1_ n2_ n3_ n4_ n5_ n6_ n7_ n8_ n9_; clear hb hbox hg; have hnb53 := NB101_102.out; have hnc53 := NB102_101.out; have hnb54 := NB101_103.out; have hnc54 := NB103_101.out; have hcz55_0 : w52.cell? ⟨gb101, 0, none⟩ = some (.int .i64 a1_0) := (zkc BK101.out 0).trans rfl; have hcz55_1 : w52.cell? ⟨gb101, 1, none⟩ = some (.int .i64 a1_1) := (zkc BK101.out 1).trans rfl; have hfz55_0 := zkz BK101.out 0; have hfz55_1 := zkz BK101.out 1; have hnb56 := NB102_103.out; have hnc56 := NB103_102.out; have hcz57_0 : w52.cell? ⟨gb102, 0, none⟩ = some (.int .i64 a3_0) := (zkc BK102.out 0).trans rfl; have hcz57_1 : w52.cell? ⟨gb102, 1, none⟩ = some (.int .i64 a3_1) := (zkc BK102.out 1).trans rfl; have hfz57_0 := zkz BK102.out 0; have hfz57_1 := zkz BK102.out 1) | ((with_reducible refine zgd (N := 17) rfl ?_); refine Kd.R_lit k32 _ 32 ?hg (N := 17) ?hd (xs := ([(⟨a1_0, a1_1⟩ : S32), (⟨a3_0, a3_1⟩ : S32)] : List (S32))) (inner := [.int .i64 a1_0, .int .i64 a1_1, .int .i64 a3_0, .int .i64 a3_1]) (ok := fun _ => True) (okp := fun _ => True) ?hr ?hp (fun _ hk => hk) trivial (Below.refl _ _) (Nat.le_refl _) (by simp) ?_; (case hd => rfl); (case hg => rfl); (case hr => first | (go_simp; done) | (go_simp; rfl)); (case hp => exact (Reps.c2 (show Kd.M k32 _ _ _ (⟨a1_0, a1_1⟩ : S32) [.int .i64 a1_0, .int .i64 a1_1] from (k32_mkM _ _ _ (⟨a1_0, a1_1⟩ : S32) )) (Reps.c2 (show Kd.M k32 _ _ _ (⟨a3_0, a3_1⟩ : S32) [.int .i64 a3_0, .int .i64 a3_1] from (k32_mkM _ _ _ (⟨a3_0, a3_1⟩ : S32) )) (Reps.none _ _)))); intro v105 w58 ho59 hb hg_ hnew_; clear hg_ hnew_; (first | rw [← Ny104.out] at ho59 | (simp only [Int.reduceToNat] at ho59; rw [← Ny104.out] at ho59)); have n0_ := zam (Kd.R_lower (Kd.R_newB (Kd.R_newB (Kd.R_newB ho59 (g := gb101) (o := .cells #[.int .i64 a1_0, .int .i64 a1_1] 32 (0, 0)) (by (with_reducible repeat (first | refine zkn ?_ _ | refine zkd ?_ | refine zka ?_ _)); exact BK101.out)) (g := gb102) (o := .cells #[.int .i64 a3_0, .int .i64 a3_1] 32 (0, 0)) (by (with_reducible repeat (first | refine zkn ?_ _ | refine zkd ?_ | refine zka ?_ _)); exact BK102.out)) (g := gb103) (o := .cells #[.int .i64 0, .int .i64 0] 32 (0, 0)) (by (with_reducible repeat (first | refine zkn ?_ _ | refine zkd ?_ | refine zka ?_ _)); exact BK103.out)) (zbz (by repeat (first | (with_reducible first | exact HB.out | apply zba | apply zbn | apply zb1 | refine zbs ?_ GE101.out | refine zbs ?_ GE102.out | refine zbs ?_ GE103.out) | exact HB.out)))); have n1_ := zam (zkb (g := gb101) (o := .cells #[.int .i64 a1_0, .int .i64 a1_1] 32 (0, 0)) (by (with_reducible repeat (first | refine zkn ?_ _ | refine zkd ?_ | refine zka ?_ _)); exact BK101.out) hb); have n2_ := zam (zkb (g := gb102) (o := .cells #[.int .i64 a3_0, .int .i64 a3_1] 32 (0, 0)) (by (with_reducible repeat (first | refine zkn ?_ _ | refine zkd ?_ | refine zka ?_ _)); exact BK102.out) hb); have n3_ := zam (zkb (g := gb103) (o := .cells #[.int .i64 0, .int .i64 0] 32 (0, 0)) (by (with_reducible repeat (first | refine zkn ?_ _ | refine zkd ?_ | refine zka ?_ _)); exact BK103.out) hb); have n4_ := zam (zbt (by repeat (first | (with_reducible first | exact HB.out | apply zba | apply zbn | apply zb1 | refine zbs ?_ GE101.out | refine zbs ?_ GE102.out | refine zbs ?_ GE103.out) | exact HB.out)) hb); clear BK101; clear BK102; clear BK103; clear HB; have HO106 := n0_; have BK101 := n1_; have BK102 := n2_; have BK103 := n3_; have HB := n4_; clear n0_ n1_ n2_ n3_ n4_; clear hb ho59; obtain ⟨Ao60, co60, eo60⟩ := Kd.R_slice HO106.out; subst eo60) | ((with_reducible refine zgc (f := 80) rfl ?_); refine goesL_ (some 18) rfl rfl Try.func80 (by kernel_rfl) rfl #[.slice Ao60 y104.length co60] rfl (by (try simp only [zmt, List.map_cons, List.map_nil]); first | done | rfl | (simp only [zld, zlt]; rfl)) ?_; (with_reducible refine (bound_check.calls k _ _ y104 t107 _ ?side1 ?side2 A6.out).mono ?_); (case side1 => repeat (first | exact (Kd.R_reads' HO106.out).2.2 | (with_reducible refine Kd.C_alloc ?_ _) | (with_reducible refine Kd.C_drewN ?_ _) | (with_reducible refine Kd.C_drew ?_))); (case side2 => exact (Kd.R_reads' HO106.out).2.1); rintro e w61 ⟨rfl, hb⟩; refine ⟨_, rfl, ?_⟩; have n0_ := zam (Kd.R_below (by (with_reducible repeat (first | apply zRa | apply zRn | apply zRd)); exact HO106.out) hb); have n1_ := zam (zkb (g := gb101) (o := .cells #[.int .i64 a1_0, .int .i64 a1_1] 32 (0, 0)) (by (with_reducible repeat (first | refine zkn ?_ _ | refine zkd ?_ | refine zka ?_ _)); exact BK101.out) hb); have n2_ := zam (zkb (g := gb102) (o := .cells #[.int .i64 a3_0, .int .i64 a3_1] 32 (0, 0)) (by (with_reducible repeat (first | refine zkn ?_ _ | refine zkd ?_ | refine zka ?_ _)); exact BK102.out) hb); have n3_ := zam (zkb (g := gb103) (o := .cells #[.int .i64 0, .int .i64 0] 32 (0, 0)) (by (with_reducible repeat (first | refine zkn ?_ _ | refine zkd ?_ | refine zka ?_ _)); exact BK103.out) hb); have n4_ := zam (zbt (by repeat (first | (with_reducible first | exact HB.out | apply zba | apply zbn | apply zb1 | refine zbs ?_ GE101.out | refine zbs ?_ GE102.out | refine zbs ?_ GE103.out) | exact HB.out)) hb); clear HO106; clear BK101; clear BK102; clear BK103; clear HB; have HO106 := n0_; have BK101 := n1_; have BK102 := n2_; have BK103 := n3_; have HB := n4_; clear n0_ n1_ n2_ n3_ n4_; (try clear hb); (try clear hb2); (try clear hk); (try clear hi); have hcz62_0 : w61.cell? ⟨gb103, 0, none⟩ = some (.int .i64 0) := (zkc BK103.out 0).trans rfl; have hcz62_1 : w61.cell? ⟨gb103, 1, none⟩ = some (.int .i64 0) := (zkc BK103.out 1).trans rfl; have hfz62_0 := zkz BK103.out 0; have hfz62_1 := zkz BK103.out 1))
 refine zbr (results_ct rfl _ _ gb103 32 #[.int .i64 0, .int .i64 0] (0, 0) _ rfl (by (with_reducible repeat (first | refine zkn ?_ _ | refine zkd ?_ | refine zka ?_ _)); refine blk_put (cs := #[.int .i64 0, .int .i64 0]) ?_ 1 _ rfl; (with_reducible repeat (first | refine zkn ?_ _ | refine zkd ?_ | refine zka ?_ _)); refine blk_put (cs := #[.int .i64 0, .int .i64 0]) ?_ 0 _ rfl; (with_reducible repeat (first | refine zkn ?_ _ | refine zkd ?_ | refine zka ?_ _)); exact BK103.out) Try.underlying32 rfl (by kernel_rfl)) rfl ?_
 exact ⟨by first | rfl | (simp [errW_none, errW_some] <;> rfl) | (simp [*, errW_none, errW_some] <;> rfl), by repeat (first | (with_reducible first | exact HB.out | apply zba | apply zbn | apply zb1 | refine zbs ?_ GE101.out | refine zbs ?_ GE102.out | refine zbs ?_ GE103.out) | exact HB.out)⟩
theorem conv_float (n : Nat) (w : World) : (convert 2 116 (.int .i64 (n : Int))).run Try.prog w = .ok (.float .f64 (Ieee.double.nearest false n 0)) w := by
 have e : FloatKind.f64.nearest (n : Int) = Ieee.double.nearest false n 0 := by
  show Ieee.double.nearest (decide ((n : Int) < 0)) (n : Int).natAbs 0 = _
  rw [zdf (by omega), Int.natAbs_natCast]
 have h0 : ∀ (n : Int) (w : World), (convert 2 116 (.int .i64 n)).run Try.prog w = .ok (.float .f64 (FloatKind.f64.nearest n)) w := fun _ _ => by kernel_rfl
 rw [h0, e]
theorem conv_int (r q : Nat) (h : (Ieee.double.read r).toInt .zero = some (q : Int)) (hq : q ≤ 2147483648) (w : World) : (convert 116 2 (.float .f64 r)).run Try.prog w = .ok (.int .i64 (q : Int)) w := by
 have e : (Conv.floatToInt .f64 r .i64).run Try.prog w = .ok (.int .i64 (q : Int)) w := by
  unfold Conv.floatToInt
  have h2 : (FloatKind.f64.decode r).toInt .zero = some (q : Int) := h
  simp only [h2]
  have h3 : IntKind.i64.min ≤ (q : Int) ∧ (q : Int) ≤ IntKind.i64.max := by
   have e1 : IntKind.i64.min = -9223372036854775808 := by decide
   have e2 : IntKind.i64.max = 9223372036854775807 := by decide
   rw [e1, e2]
   omega
  rw [if_pos h3]
  rfl
 have h0 : ∀ (r : Nat) (w : World), (convert 116 2 (.float .f64 r)).run Try.prog w = (Conv.floatToInt .f64 r .i64).run Try.prog w := fun _ _ => by kernel_rfl
 rw [h0, e]
theorem call_sqrt (x r : Nat) (h : Ieee.double.sqrt x = some r) (w : World) : (callFunc 137 #[.float .f64 x]).run Try.prog w = .ok (.value (.float .f64 r)) w := by
 rw [run_callFunc_extern Try.func137 (by kernel_rfl) (by kernel_rfl) (by kernel_rfl) (e := Extern.MathSqrt.sqrt) (by kernel_rfl)]
 have e : (Extern.MathSqrt.sqrt #[.float .f64 x]).run Try.prog w = .ok (.float .f64 r) w := by
  have h2 : FloatKind.f64.format.sqrt x = some r := h
  have h0 : ∀ (x : Nat) (w : World), (Extern.MathSqrt.sqrt #[.float .f64 x]).run Try.prog w = ((match FloatKind.f64.format.sqrt x with | some r => pure (.float .f64 r) | none => do pure (.float .f64 (← choose (.nanBits .f64 x x)))) : Sem Value).run Try.prog w := fun _ _ => by kernel_rfl
  rw [h0, h2]
  rfl
 rw [e]
 rfl
theorem math_Sqrt.calls (x r : Nat) (h : Ieee.double.sqrt x = some r) (w : World) : Calls Try.prog 126 #[.float .f64 x] w fun e w' => e = .returned (.float .f64 r) ∧ w' = w := by
 have hs := fun w => call_sqrt x r h w
 go_enter Try.func126, Try.ntmps126
 go_wp2
 go_ret
 exact ⟨rfl, rfl⟩
theorem rt_measure (M s : Nat) (h2 : s < M) (x : Int) (hx : x = (s : Int) + 1) : M - (intOf (.int .i64 x)).toNat < M - (intOf (.int .i64 (s : Int))).toNat := by
 subst hx
 have h3 : ((s : Int) + 1).toNat = s + 1 := (by omega)
 simp only [intOf, h3, Int.toNat_natCast]
 omega
def bound_round_root.f (a0_0 : Bool) (a1 : Int) : Option Int := if 0 ≤ a1 ∧ a1 < 2305843009213693952 then some (if a0_0 = true then Rt.rootUp a1 else Rt.root a1) else none
set_option maxHeartbeats 8000000 in
set_option maxRecDepth 100000 in
theorem bound_round_root.calls (a0_0 : Bool) (a1 : Int) (r : Int) (w : World) (h : bound_round_root.f a0_0 a1 = some r) :
  Calls Try.prog 105 #[.agg #[.bool a0_0], .int .i64 a1] w fun e w' => e = .returned (.int .i64 r) ∧ Below w.heap.size w w' := by
 have hu110 := Try.underlying110
 unfold bound_round_root.f at h
 by_cases c : 0 ≤ a1 ∧ a1 < 2305843009213693952
 ·rw [if_pos c] at h
  obtain rfl := zsi h
  obtain ⟨n, rfl⟩ : ∃ n : Nat, a1 = (n : Int) := ⟨a1.toNat, by omega⟩
  obtain ⟨x, q, hx, hq, hql⟩ := root_start n (by omega)
  have hql2 : q ≤ 2147483648 := by simpa using hql
  have HC := zam c
  have HQL := zam hql2
  have hc1 := conv_float n
  have hc2 := conv_int x q hq hql2
  clear hq hql c h
  have SQ := zam (fun w => math_Sqrt.calls _ x hx w)
  clear hx hql2
  go_enter Try.func105, Try.ntmps105
  go_wp2_with (first | ((with_reducible refine zgd (N := 2) rfl ?_); refine box_event ?hg (N := 2) ?hd (cs := #[.bool a0_0]) (t := 110) ?hr ?_; (case hd => rfl); (case hg => rfl); (case hr => first | (go_simp; done) | (go_simp; rfl)); intro gm hgm w1 hbk hb0; have BM := zam hbk; have HB := zam hb0; clear hgm hbk hb0) | (go_at_call 126; (with_reducible refine (SQ.out _).mono ?_); rintro e w2 ⟨rfl, rfl⟩))
  clear hc1 hc2 SQ
  obtain ⟨M, hM⟩ : ∃ M : Nat, M = 2147483648 := ⟨_, rfl⟩
  have HM := zam hM
  clear hM
  go_loopw [5] (fun v wr => ∃ p : Nat, p ≤ 2147483648 ∧ v = .int .i64 (p : Int) ∧ wr.heap[gm]? = some (.cells #[.bool a0_0] 110 (0, 0)) ∧ Below w.heap.size w wr) (fun v _ => (intOf v).toNat)
  case atStart => exact ⟨q, HQL.out, rfl, BM.out, HB.out⟩
  case round =>
   clear BM HB
   obtain ⟨p, hp, rfl, hbm, hb⟩ := hrel
   have BM := zam hbm
   have HB := zam hb
   have pp := Nat.mul_le_mul hp hp
   have wm : wrap64 ((p : Int) * (p : Int)) = (p : Int) * (p : Int) := wrap_id (by rw [← Int.natCast_mul]; omega) (by rw [← Int.natCast_mul]; omega)
   by_cases hlt : (n : Int) < (p : Int) * (p : Int)
   ·have dl : decide ((n : Int) < (p : Int) * (p : Int)) = true := zdt hlt
    have hp0 : p ≠ 0 := fun e => by subst e; simp at hlt; omega
    have ws : wrap64 ((p : Int) - 1) = ((p - 1 : Nat) : Int) := by rw [wrap_id (by omega) (by omega)]; omega
    clear hbm hb
    go_wp2
    go_roundw
    case rel => exact ⟨p - 1, by omega, congrArg (Value.int .i64) (by omega), BM.out, HB.out⟩
    case measure => (simp only [intOf]; omega)
   have dl : decide ((n : Int) < (p : Int) * (p : Int)) = false := zdf hlt
   have HLE : Aside0 ((p : Int) * (p : Int) ≤ (n : Int)) := ⟨by omega⟩
   clear hbm hb hlt
   go_wp2
   clear dl wm pp
   have HP := zam hp
   clear hp
   go_loopw [5] (fun v wr => ∃ s : Nat, (s : Int) * (s : Int) ≤ (n : Int) ∧ v = .int .i64 (s : Int) ∧ wr.heap[gm]? = some (.cells #[.bool a0_0] 110 (0, 0)) ∧ Below w.heap.size w wr) (fun v _ => M - (intOf v).toNat)
   case atStart => exact ⟨p, HLE.out, rfl, BM.out, HB.out⟩
   case round =>
    clear BM HB
    obtain ⟨s, hs, rfl, hbm, hb⟩ := hrel
    have BM := zam hbm
    have HB := zam hb
    have s31 : (s : Int) < 2147483648 := Rt.lt_of_sq (by omega) (by have := HC.out; omega)
    have s32 : s + 1 ≤ 2147483648 := by omega
    have pp := Nat.mul_le_mul s32 s32
    have pq : ((s : Int) + 1) * ((s : Int) + 1) ≤ 2147483648 * 2147483648 := by
     have : (((s + 1) * (s + 1) : Nat) : Int) ≤ 2147483648 * 2147483648 := by omega
     rw [Int.natCast_mul] at this
     push_cast at this
     exact this
    have p0 : 0 ≤ ((s : Int) + 1) * ((s : Int) + 1) := Int.mul_nonneg (by omega) (by omega)
    have wm : wrap64 (((s : Int) + 1) * ((s : Int) + 1)) = ((s : Int) + 1) * ((s : Int) + 1) := wrap_id (by omega) (by omega)
    have ws : wrap64 ((s : Int) + 1) = (s : Int) + 1 := wrap_id (by omega) (by omega)
    have HS := zam hs
    have S31 := zam s31
    by_cases hlt : ((s : Int) + 1) * ((s : Int) + 1) ≤ (n : Int)
    ·have dl : decide (((s : Int) + 1) * ((s : Int) + 1) ≤ (n : Int)) = true := zdt hlt
     have HLT := zam hlt
     clear hbm hb hs s31 s32 pp pq p0 hlt
     go_wp2
     go_roundw
     case rel => exact ⟨s + 1, (by rw [show ((s + 1 : Nat) : Int) = (s : Int) + 1 by omega]; exact HLT.out), congrArg (Value.int .i64) (by omega), BM.out, HB.out⟩
     case measure => exact rt_measure M s (by have := S31.out; have := HM.out; omega) _ ws
    have dl : decide (((s : Int) + 1) * ((s : Int) + 1) ≤ (n : Int)) = false := zdf hlt
    have HR : Aside0 (Rt.root (n : Int) = (s : Int)) := ⟨Rt.root_of ⟨by omega, hs, by omega⟩ (by omega)⟩
    have hz0 := (zkc hbm 0).trans rfl
    have w0 : 0 ≤ (s : Int) * (s : Int) := Int.mul_nonneg (by omega) (by omega)
    have wm2 : wrap64 ((s : Int) * (s : Int)) = (s : Int) * (s : Int) := wrap_id (by omega) (by have := HC.out; omega)
    have EU : Aside0 (Rt.rootUp (n : Int) = if (s : Int) * (s : Int) < (n : Int) then (s : Int) + 1 else (s : Int)) := ⟨by unfold Rt.rootUp; rw [HR.out]⟩
    clear hbm hb hs s31 s32 pp pq p0 hlt w0
    cases a0_0 with
    | false =>
     go_wp2
     go_ret
     exact ⟨by (rw [HR.out]) <;> rfl, HB.out⟩
    | true =>
     by_cases hu : (s : Int) * (s : Int) < (n : Int)
     ·have du : decide ((s : Int) * (s : Int) < (n : Int)) = true := zdt hu
      have HU := zam hu
      clear hu
      go_wp2
      go_ret
      exact ⟨by (rw [EU.out, if_pos HU.out]) <;> rfl, HB.out⟩
     have du : decide ((s : Int) * (s : Int) < (n : Int)) = false := zdf hu
     have HU := zam hu
     clear hu
     go_wp2
     go_ret
     exact ⟨by (rw [EU.out, if_neg (by have := HU.out; omega)]) <;> rfl, HB.out⟩
 rw [if_neg c] at h
 cases h
def bound_Root.f (k : Nat) (a0_0 : Int) (a0_1 : Int) : Option (Int × Int × Int) := (bound_check.f k (([(⟨a0_0, a0_1⟩ : S32)] : List (S32)))).bind fun t106 => (if t106 = 0 then (if a0_0 < 0 then (some (0, 0, 3)) else ((bound_round_root.f false a0_0).bind fun t107 => ((bound_round_root.f true a0_1).bind fun t108 => ((bound_over.f k t107 t108).bind fun bt109 => (some (bt109.1, bt109.2.1, bt109.2.2)))))) else (some (0, 0, t106)))
theorem bound_Root.mono : ∀ a0 a1 k, LeO (bound_Root.f k a0 a1) (bound_Root.f (k + 1) a0 a1) := by
 intro a0 a1 k
 unfold bound_Root.f
 repeat' first
   | (with_reducible exact bound_check.mono _ _)
   | (with_reducible exact bound_over.mono _ _ _)
   | (with_reducible exact LeO.refl _)
   | (with_reducible exact LeO.none _)
   | (with_reducible refine LeO.ite ?_ ?_)
   | (with_reducible refine LeO.bind ?_ (fun _ => ?_))
   | exact bound_check.mono _ _
   | exact bound_over.mono _ _ _
   | exact LeO.none _
   | refine LeO.ite ?_ ?_
   | refine LeO.bind ?_ (fun _ => ?_)
def bound_Root.T6 : Bool × List (List Nat × List Nat) := (true, [([], []), ([], []), ([1], [1]), ([0, 2], [0, 2]), ([], []), ([], []), ([5], [5]), ([4, 6, 3], [4, 6]), ([3, 7], [3, 7]), ([8, 7], [8]), ([9], [9]), ([9], [9]), ([10, 9, 0, 1, 2, 3, 4, 5, 6, 7, 8, 9, 10, 11], [10]), ([11, 12, 0, 1, 2, 3, 4, 5, 6, 7, 8, 9, 10, 11, 12], [11])])
def bound_Root.B6 : List Nat := [0, 0, 2, 7, 0, 0, 32, 127, 255, 511, 1023, 1023, 4095, 8191]
theorem bound_Root.tab6 : rtab .any (opsOf Try.f63 6) = bound_Root.T6 := by kernel_rfl
theorem bound_Root.bits6 : waitsOk bound_Root.T6.2 bound_Root.B6 = true := by kernel_rfl
set_option maxHeartbeats 8000000 in
set_option maxRecDepth 100000 in
theorem bound_Root.calls (k : Nat) (a0_0 : Int) (a0_1 : Int) (r1 : Int) (r2 : Int) (r3 : Int) (w : World) (h : bound_Root.f k a0_0 a0_1 = some (r1, r2, r3)) :
  Calls Try.prog 63 #[.agg #[.int .i64 a0_0, .int .i64 a0_1]] w fun e w' => e = .returned (.tuple #[.agg #[.int .i64 r1, .int .i64 r2], .int .i64 r3]) ∧ Below w.heap.size w w' := by
 have hu32 := Try.underlying32
 have hu110 := Try.underlying110
 have HB := zam (Below.refl w.heap.size w)
 have H : ((bound_check.f k (([(⟨a0_0, a0_1⟩ : S32)] : List (S32)))).bind fun t106 => (if t106 = 0 then (if a0_0 < 0 then (some (0, 0, 3)) else ((bound_round_root.f false a0_0).bind fun t107 => ((bound_round_root.f true a0_1).bind fun t108 => ((bound_over.f k t107 t108).bind fun bt109 => (some (bt109.1, bt109.2.1, bt109.2.2)))))) else (some (0, 0, t106)))) = some (r1, r2, r3) := h
 clear h
 obtain ⟨y103, hy103⟩ : ∃ y_ : List (S32), y_ = (([(⟨a0_0, a0_1⟩ : S32)] : List (S32))) := ⟨_, rfl⟩
 replace H : ((bound_check.f k y103).bind fun t106 => (if t106 = 0 then (if a0_0 < 0 then (some (0, 0, 3)) else ((bound_round_root.f false a0_0).bind fun t107 => ((bound_round_root.f true a0_1).bind fun t108 => ((bound_over.f k t107 t108).bind fun bt109 => (some (bt109.1, bt109.2.1, bt109.2.2)))))) else (some (0, 0, t106)))) = some (r1, r2, r3) := by first | (rw [hy103]; with_reducible exact H) | (have H2_ := (Option.bind_some _ _).symm.trans H; rw [hy103]; with_reducible exact H2_) | (have H2_ := (Option.bind_some _ _).symm.trans H; with_reducible exact H2_) | with_reducible exact H | (rw [hy103]; exact H) | exact H
 have Ny103 := zam hy103
 clear hy103
 replace H := Option.bind_eq_some_iff.mp H
 obtain ⟨t106, A20, H⟩ := H
 replace H : (if t106 = 0 then (if a0_0 < 0 then (some (0, 0, 3)) else ((bound_round_root.f false a0_0).bind fun t107 => ((bound_round_root.f true a0_1).bind fun t108 => ((bound_over.f k t107 t108).bind fun bt109 => (some (bt109.1, bt109.2.1, bt109.2.2)))))) else (some (0, 0, t106))) = some (r1, r2, r3) := H
 have A2 := zam A20
 clear A20
 by_cases c3 : t106 = 0
 ·rw [if_pos c3] at H
  have c3b0 : (t106 == 0) = true := beq_iff_eq.mpr c3
  have c3b1 : (t106 != 0) = false := bne_eq_false_iff_eq.mpr c3
  clear c3
  by_cases c4 : a0_0 < 0
  ·rw [if_pos c4] at H
   have c4b0 : decide (a0_0 < 0) = true := zdt c4
   clear c4
   simp only [Option.some.injEq, Prod.mk.injEq] at H
   obtain ⟨rfl, rfl, rfl⟩ := H
   go_enter Try.func63, Try.ntmps63
   go_wp2_with (first | ((with_reducible refine zgd (N := 1) rfl ?_); refine box_event ?hg (N := 1) ?hd (cs := #[.int .i64 a0_0, .int .i64 a0_1]) (t := 32) ?hr ?_; (case hd => rfl); (case hg => rfl); (case hr => first | (go_simp; done) | (go_simp; rfl)); intro gb101 hg w5 hbox hb; have n0_ := zam (zbt (by repeat (first | (with_reducible first | exact HB.out | apply zba | apply zbn | apply zb1) | exact HB.out)) hb); have n1_ := zam (hbox); have n2_ := zam ((by rw [hg]; exact (zbz (by repeat (first | (with_reducible first | exact HB.out | apply zba | apply zbn | apply zb1) | exact HB.out))) : w.heap.size ≤ gb101)); have n3_ := zam ((by rw [hg]; exact (zbz (by repeat (first | (with_reducible first | exact HB.out | apply zba | apply zbn | apply zb1) | exact HB.out))) : w.heap.size ≤ gb101)); clear HB; have HB := n0_; have BK101 := n1_; have GW101 := n2_; have GE101 := n3_; clear n0_ n1_ n2_ n3_; clear hb hbox hg) | ((with_reducible refine zgd (N := 2) rfl ?_); refine box_event ?hg (N := 2) ?hd (cs := #[.int .i64 0, .int .i64 0]) (t := 32) ?hr ?_; (case hd => rfl); (case hg => rfl); (case hr => first | (go_simp; done) | (go_simp; rfl)); intro gb102 hg w6 hbox hb; have n0_ := zam (zkb (g := gb101) (o := .cells #[.int .i64 a0_0, .int .i64 a0_1] 32 (0, 0)) (by (with_reducible repeat (first | refine zkn ?_ _ | refine zkd ?_ | refine zka ?_ _)); exact BK101.out) hb); have n1_ := zam (zbt (by repeat (first | (with_reducible first | exact HB.out | apply zba | apply zbn | apply zb1 | refine zbs ?_ GE101.out) | exact HB.out)) hb); have n2_ := zam (hbox); have n3_ := zam ((by rw [hg]; exact (zbz (by repeat (first | (with_reducible first | exact HB.out | apply zba | apply zbn | apply zb1 | refine zbs ?_ GE101.out) | exact HB.out))) : w.heap.size ≤ gb102)); have n4_ := zam ((by rw [hg]; exact (zbz (by repeat (first | (with_reducible first | exact HB.out | apply zba | apply zbn | apply zb1 | refine zbs ?_ GE101.out) | exact HB.out))) : w.heap.size ≤ gb102)); have n5_ := zam ((by rw [hg]; exact Nat.ne_of_lt (blk_lt (g := gb101) (o := .cells #[.int .i64 a0_0, .int .i64 a0_1] 32 (0, 0)) (by (with_reducible repeat (first | refine zkn ?_ _ | refine zkd ?_ | refine zka ?_ _)); exact BK101.out)) : gb101 ≠ gb102)); have n6_ := zam ((by rw [hg]; exact Nat.ne_of_gt (blk_lt (g := gb101) (o := .cells #[.int .i64 a0_0, .int .i64 a0_1] 32 (0, 0)) (by (with_reducible repeat (first | refine zkn ?_ _ | refine zkd ?_ | refine zka ?_ _)); exact BK101.out)) : gb102 ≠ gb101)); clear BK101; clear HB; have BK101 := n0_; have HB := n1_; have BK102 := n2_; have GW102 := n3_; have GE102 := n4_; have NB101_102 := n5_; have NB102_101 := n6_; clear n0_ n1_ n2_ n3_ n4_ n5_ n6_; clear hb hbox hg; have hnb7 := NB101_102.out; have hnc7 := NB102_101.out; have hcz8_0 : w6.cell? ⟨gb101, 0, none⟩ = some (.int .i64 a0_0) := (zkc BK101.out 0).trans rfl; have hcz8_1 : w6.cell? ⟨gb101, 1, none⟩ = some (.int .i64 a0_1) := (zkc BK101.out 1).trans rfl; have hfz8_0 := zkz BK101.out 0; have hfz8_1 := zkz BK101.out 1) | ((with_reducible refine zgd (N := 6) rfl ?_); refine Kd.R_lit k32 _ 32 ?hg (N := 6) ?hd (xs := ([(⟨a0_0, a0_1⟩ : S32)] : List (S32))) (inner := [.int .i64 a0_0, .int .i64 a0_1]) (ok := fun _ => True) (okp := fun _ => True) ?hr ?hp (fun _ hk => hk) trivial (Below.refl _ _) (Nat.le_refl _) (by simp) ?_; (case hd => rfl); (case hg => rfl); (case hr => first | (go_simp; done) | (go_simp; rfl)); (case hp => exact (Reps.c2 (show Kd.M k32 _ _ _ (⟨a0_0, a0_1⟩ : S32) [.int .i64 a0_0, .int .i64 a0_1] from (k32_mkM _ _ _ (⟨a0_0, a0_1⟩ : S32) )) (Reps.none _ _))); intro v104 w9 ho10 hb hg_ hnew_; clear hg_ hnew_; (first | rw [← Ny103.out] at ho10 | (simp only [Int.reduceToNat] at ho10; rw [← Ny103.out] at ho10)); have n0_ := zam (Kd.R_lower (Kd.R_newB (Kd.R_newB ho10 (g := gb101) (o := .cells #[.int .i64 a0_0, .int .i64 a0_1] 32 (0, 0)) (by (with_reducible repeat (first | refine zkn ?_ _ | refine zkd ?_ | refine zka ?_ _)); exact BK101.out)) (g := gb102) (o := .cells #[.int .i64 0, .int .i64 0] 32 (0, 0)) (by (with_reducible repeat (first | refine zkn ?_ _ | refine zkd ?_ | refine zka ?_ _)); exact BK102.out)) (zbz (by repeat (first | (with_reducible first | exact HB.out | apply zba | apply zbn | apply zb1 | refine zbs ?_ GE101.out | refine zbs ?_ GE102.out) | exact HB.out)))); have n1_ := zam (zkb (g := gb101) (o := .cells #[.int .i64 a0_0, .int .i64 a0_1] 32 (0, 0)) (by (with_reducible repeat (first | refine zkn ?_ _ | refine zkd ?_ | refine zka ?_ _)); exact BK101.out) hb); have n2_ := zam (zkb (g := gb102) (o := .cells #[.int .i64 0, .int .i64 0] 32 (0, 0)) (by (with_reducible repeat (first | refine zkn ?_ _ | refine zkd ?_ | refine zka ?_ _)); exact BK102.out) hb); have n3_ := zam (zbt (by repeat (first | (with_reducible first | exact HB.out | apply zba | apply zbn | apply zb1 | refine zbs ?_ GE101.out | refine zbs ?_ GE102.out) | exact HB.out)) hb); clear BK101; clear BK102; clear HB; have HO105 := n0_; have BK101 := n1_; have BK102 := n2_; have HB := n3_; clear n0_ n1_ n2_ n3_; clear hb ho10; obtain ⟨Ao11, co11, eo11⟩ := Kd.R_slice HO105.out; subst eo11) | ((with_reducible refine zgc (f := 80) rfl ?_); refine goesL_ (some 7) rfl rfl Try.func80 (by kernel_rfl) rfl #[.slice Ao11 y103.length co11] rfl (by (try simp only [zmt, List.map_cons, List.map_nil]); first | done | rfl | (simp only [zld, zlt]; rfl)) ?_; (with_reducible refine (bound_check.calls k _ _ y103 t106 _ ?side1 ?side2 A2.out).mono ?_); (case side1 => repeat (first | exact (Kd.R_reads' HO105.out).2.2 | (with_reducible refine Kd.C_alloc ?_ _) | (with_reducible refine Kd.C_drewN ?_ _) | (with_reducible refine Kd.C_drew ?_))); (case side2 => exact (Kd.R_reads' HO105.out).2.1); rintro e w12 ⟨rfl, hb⟩; refine ⟨_, rfl, ?_⟩; have n0_ := zam (Kd.R_below (by (with_reducible repeat (first | apply zRa | apply zRn | apply zRd)); exact HO105.out) hb); have n1_ := zam (zkb (g := gb101) (o := .cells #[.int .i64 a0_0, .int .i64 a0_1] 32 (0, 0)) (by (with_reducible repeat (first | refine zkn ?_ _ | refine zkd ?_ | refine zka ?_ _)); exact BK101.out) hb); have n2_ := zam (zkb (g := gb102) (o := .cells #[.int .i64 0, .int .i64 0] 32 (0, 0)) (by (with_reducible repeat (first | refine zkn ?_ _ | refine zkd ?_ | refine zka ?_ _)); exact BK102.out) hb); have n3_ := zam (zbt (by repeat (first | (with_reducible first | exact HB.out | apply zba | apply zbn | apply zb1 | refine zbs ?_ GE101.out | refine zbs ?_ GE102.out) | exact HB.out)) hb); clear HO105; clear BK101; clear BK102; clear HB; have HO105 := n0_; have BK101 := n1_; have BK102 := n2_; have HB := n3_; clear n0_ n1_ n2_ n3_; (try clear hb); (try clear hb2); (try clear hk); (try clear hi); have hcz13_0 : w12.cell? ⟨gb101, 0, none⟩ = some (.int .i64 a0_0) := (zkc BK101.out 0).trans rfl; have hcz13_1 : w12.cell? ⟨gb101, 1, none⟩ = some (.int .i64 a0_1) := (zkc BK101.out 1).trans rfl; have hfz13_0 := zkz BK101.out 0; have hfz13_1 := zkz BK101.out 1; have hcz14_0 : w12.cell? ⟨gb102, 0, none⟩ = some (.int .i64 0) := (zkc BK102.out 0).trans rfl; have hcz14_1 : w12.cell? ⟨gb102, 1, none⟩ = some (.int .i64 0) := (zkc BK102.out 1).trans rfl; have hfz14_0 := zkz BK102.out 0; have hfz14_1 := zkz BK102.out 1))
   refine zbr (results_ct rfl _ _ gb102 32 #[.int .i64 0, .int .i64 0] (0, 0) _ rfl (by (with_reducible repeat (first | refine zkn ?_ _ | refine zkd ?_ | refine zka ?_ _)); refine blk_put (cs := #[.int .i64 0, .int .i64 0]) ?_ 1 _ rfl; (with_reducible repeat (first | refine zkn ?_ _ | refine zkd ?_ | refine zka ?_ _)); refine blk_put (cs := #[.int .i64 0, .int .i64 0]) ?_ 0 _ rfl; (with_reducible repeat (first | refine zkn ?_ _ | refine zkd ?_ | refine zka ?_ _)); exact BK102.out) Try.underlying32 rfl (by kernel_rfl)) rfl ?_
   exact ⟨by first | rfl | (simp [errW_none, errW_some] <;> rfl) | (simp [*, errW_none, errW_some] <;> rfl), by repeat (first | (with_reducible first | exact HB.out | apply zba | apply zbn | apply zb1 | refine zbs ?_ GE101.out | refine zbs ?_ GE102.out) | exact HB.out)⟩
  rw [if_neg c4] at H
  have c4b0 : decide (a0_0 < 0) = false := zdf c4
  clear c4
  replace H := Option.bind_eq_some_iff.mp H
  obtain ⟨t107, A150, H⟩ := H
  replace H : ((bound_round_root.f true a0_1).bind fun t108 => ((bound_over.f k t107 t108).bind fun bt109 => (some (bt109.1, bt109.2.1, bt109.2.2)))) = some (r1, r2, r3) := H
  have A15 := zam A150
  clear A150
  replace H := Option.bind_eq_some_iff.mp H
  obtain ⟨t108, A160, H⟩ := H
  replace H : ((bound_over.f k t107 t108).bind fun bt109 => (some (bt109.1, bt109.2.1, bt109.2.2))) = some (r1, r2, r3) := H
  have A16 := zam A160
  clear A160
  replace H := Option.bind_eq_some_iff.mp H
  obtain ⟨⟨t109, t110, t111⟩, A170, H⟩ := H
  replace H : (some (t109, t110, t111)) = some (r1, r2, r3) := H
  have A17 := zam A170
  clear A170
  simp only [Option.some.injEq, Prod.mk.injEq] at H
  obtain ⟨rfl, rfl, rfl⟩ := H
  go_enter Try.func63, Try.ntmps63
  try go_wp2_with (first | ((with_reducible refine zgd (N := 1) rfl ?_); refine box_event ?hg (N := 1) ?hd (cs := #[.int .i64 a0_0, .int .i64 a0_1]) (t := 32) ?hr ?_; (case hd => rfl); (case hg => rfl); (case hr => first | (go_simp; done) | (go_simp; rfl)); intro gb101 hg w18 hbox hb; have n0_ := zam (zbt (by repeat (first | (with_reducible first | exact HB.out | apply zba | apply zbn | apply zb1) | exact HB.out)) hb); have n1_ := zam (hbox); have n2_ := zam ((by rw [hg]; exact (zbz (by repeat (first | (with_reducible first | exact HB.out | apply zba | apply zbn | apply zb1) | exact HB.out))) : w.heap.size ≤ gb101)); have n3_ := zam ((by rw [hg]; exact (zbz (by repeat (first | (with_reducible first | exact HB.out | apply zba | apply zbn | apply zb1) | exact HB.out))) : w.heap.size ≤ gb101)); clear HB; have HB := n0_; have BK101 := n1_; have GW101 := n2_; have GE101 := n3_; clear n0_ n1_ n2_ n3_; clear hb hbox hg) | ((with_reducible refine zgd (N := 2) rfl ?_); refine box_event ?hg (N := 2) ?hd (cs := #[.int .i64 0, .int .i64 0]) (t := 32) ?hr ?_; (case hd => rfl); (case hg => rfl); (case hr => first | (go_simp; done) | (go_simp; rfl)); intro gb102 hg w19 hbox hb; have n0_ := zam (zkb (g := gb101) (o := .cells #[.int .i64 a0_0, .int .i64 a0_1] 32 (0, 0)) (by (with_reducible repeat (first | refine zkn ?_ _ | refine zkd ?_ | refine zka ?_ _)); exact BK101.out) hb); have n1_ := zam (zbt (by repeat (first | (with_reducible first | exact HB.out | apply zba | apply zbn | apply zb1 | refine zbs ?_ GE101.out) | exact HB.out)) hb); have n2_ := zam (hbox); have n3_ := zam ((by rw [hg]; exact (zbz (by repeat (first | (with_reducible first | exact HB.out | apply zba | apply zbn | apply zb1 | refine zbs ?_ GE101.out) | exact HB.out))) : w.heap.size ≤ gb102)); have n4_ := zam ((by rw [hg]; exact (zbz (by repeat (first | (with_reducible first | exact HB.out | apply zba | apply zbn | apply zb1 | refine zbs ?_ GE101.out) | exact HB.out))) : w.heap.size ≤ gb102)); have n5_ := zam ((by rw [hg]; exact Nat.ne_of_lt (blk_lt (g := gb101) (o := .cells #[.int .i64 a0_0, .int .i64 a0_1] 32 (0, 0)) (by (with_reducible repeat (first | refine zkn ?_ _ | refine zkd ?_ | refine zka ?_ _)); exact BK101.out)) : gb101 ≠ gb102)); have n6_ := zam ((by rw [hg]; exact Nat.ne_of_gt (blk_lt (g := gb101) (o := .cells #[.int .i64 a0_0, .int .i64 a0_1] 32 (0, 0)) (by (with_reducible repeat (first | refine zkn ?_ _ | refine zkd ?_ | refine zka ?_ _)); exact BK101.out)) : gb102 ≠ gb101)); clear BK101; clear HB; have BK101 := n0_; have HB := n1_; have BK102 := n2_; have GW102 := n3_; have GE102 := n4_; have NB101_102 := n5_; have NB102_101 := n6_; clear n0_ n1_ n2_ n3_ n4_ n5_ n6_; clear hb hbox hg; have hnb20 := NB101_102.out; have hnc20 := NB102_101.out; have hcz21_0 : w19.cell? ⟨gb101, 0, none⟩ = some (.int .i64 a0_0) := (zkc BK101.out 0).trans rfl; have hcz21_1 : w19.cell? ⟨gb101, 1, none⟩ = some (.int .i64 a0_1) := (zkc BK101.out 1).trans rfl; have hfz21_0 := zkz BK101.out 0; have hfz21_1 := zkz BK101.out 1) | ((with_reducible refine zgd (N := 6) rfl ?_); refine Kd.R_lit k32 _ 32 ?hg (N := 6) ?hd (xs := ([(⟨a0_0, a0_1⟩ : S32)] : List (S32))) (inner := [.int .i64 a0_0, .int .i64 a0_1]) (ok := fun _ => True) (okp := fun _ => True) ?hr ?hp (fun _ hk => hk) trivial (Below.refl _ _) (Nat.le_refl _) (by simp) ?_; (case hd => rfl); (case hg => rfl); (case hr => first | (go_simp; done) | (go_simp; rfl)); (case hp => exact (Reps.c2 (show Kd.M k32 _ _ _ (⟨a0_0, a0_1⟩ : S32) [.int .i64 a0_0, .int .i64 a0_1] from (k32_mkM _ _ _ (⟨a0_0, a0_1⟩ : S32) )) (Reps.none _ _))); intro v104 w22 ho23 hb hg_ hnew_; clear hg_ hnew_; (first | rw [← Ny103.out] at ho23 | (simp only [Int.reduceToNat] at ho23; rw [← Ny103.out] at ho23)); have n0_ := zam (Kd.R_lower (Kd.R_newB (Kd.R_newB ho23 (g := gb101) (o := .cells #[.int .i64 a0_0, .int .i64 a0_1] 32 (0, 0)) (by (with_reducible repeat (first | refine zkn ?_ _ | refine zkd ?_ | refine zka ?_ _)); exact BK101.out)) (g := gb102) (o := .cells #[.int .i64 0, .int .i64 0] 32 (0, 0)) (by (with_reducible repeat (first | refine zkn ?_ _ | refine zkd ?_ | refine zka ?_ _)); exact BK102.out)) (zbz (by repeat (first | (with_reducible first | exact HB.out | apply zba | apply zbn | apply zb1 | refine zbs ?_ GE101.out | refine zbs ?_ GE102.out) | exact HB.out)))); have n1_ := zam (zkb (g := gb101) (o := .cells #[.int .i64 a0_0, .int .i64 a0_1] 32 (0, 0)) (by (with_reducible repeat (first | refine zkn ?_ _ | refine zkd ?_ | refine zka ?_ _)); exact BK101.out) hb); have n2_ := zam (zkb (g := gb102) (o := .cells #[.int .i64 0, .int .i64 0] 32 (0, 0)) (by (with_reducible repeat (first | refine zkn ?_ _ | refine zkd ?_ | refine zka ?_ _)); exact BK102.out) hb); have n3_ := zam (zbt (by repeat (first | (with_reducible first | exact HB.out | apply zba | apply zbn | apply zb1 | refine zbs ?_ GE101.out | refine zbs ?_ GE102.out) | exact HB.out)) hb); clear BK101; clear BK102; clear HB; have HO105 := n0_; have BK101 := n1_; have BK102 := n2_; have HB := n3_; clear n0_ n1_ n2_ n3_; clear hb ho23; obtain ⟨Ao24, co24, eo24⟩ := Kd.R_slice HO105.out; subst eo24) | ((with_reducible refine zgc (f := 80) rfl ?_); refine goesL_ (some 7) rfl rfl Try.func80 (by kernel_rfl) rfl #[.slice Ao24 y103.length co24] rfl (by (try simp only [zmt, List.map_cons, List.map_nil]); first | done | rfl | (simp only [zld, zlt]; rfl)) ?_; (with_reducible refine (bound_check.calls k _ _ y103 t106 _ ?side1 ?side2 A2.out).mono ?_); (case side1 => repeat (first | exact (Kd.R_reads' HO105.out).2.2 | (with_reducible refine Kd.C_alloc ?_ _) | (with_reducible refine Kd.C_drewN ?_ _) | (with_reducible refine Kd.C_drew ?_))); (case side2 => exact (Kd.R_reads' HO105.out).2.1); rintro e w25 ⟨rfl, hb⟩; refine ⟨_, rfl, ?_⟩; have n0_ := zam (Kd.R_below (by (with_reducible repeat (first | apply zRa | apply zRn | apply zRd)); exact HO105.out) hb); have n1_ := zam (zkb (g := gb101) (o := .cells #[.int .i64 a0_0, .int .i64 a0_1] 32 (0, 0)) (by (with_reducible repeat (first | refine zkn ?_ _ | refine zkd ?_ | refine zka ?_ _)); exact BK101.out) hb); have n2_ := zam (zkb (g := gb102) (o := .cells #[.int .i64 0, .int .i64 0] 32 (0, 0)) (by (with_reducible repeat (first | refine zkn ?_ _ | refine zkd ?_ | refine zka ?_ _)); exact BK102.out) hb); have n3_ := zam (zbt (by repeat (first | (with_reducible first | exact HB.out | apply zba | apply zbn | apply zb1 | refine zbs ?_ GE101.out | refine zbs ?_ GE102.out) | exact HB.out)) hb); clear HO105; clear BK101; clear BK102; clear HB; have HO105 := n0_; have BK101 := n1_; have BK102 := n2_; have HB := n3_; clear n0_ n1_ n2_ n3_; (try clear hb); (try clear hb2); (try clear hk); (try clear hi); have hcz26_0 : w25.cell? ⟨gb101, 0, none⟩ = some (.int .i64 a0_0) := (zkc BK101.out 0).trans rfl; have hcz26_1 : w25.cell? ⟨gb101, 1, none⟩ = some (.int .i64 a0_1) := (zkc BK101.out 1).trans rfl; have hfz26_0 := zkz BK101.out 0; have hfz26_1 := zkz BK101.out 1))
  have n0_ := zam (zRd HO105.out)
  have n1_ := zam (zkd BK101.out)
  have n2_ := zam (zkd BK102.out)
  have n3_ := zam (zb1 HB.out)
  clear HO105
  clear BK101
  clear BK102
  clear HB
  have HO105 := n0_
  have BK101 := n1_
  have BK102 := n2_
  have HB := n3_
  clear n0_ n1_ n2_ n3_
  refine start_ (n := 14) (S := fun w' => w'.cell? ⟨gb101, 0, none⟩ = some (.int .i64 a0_0) ∧ w'.cell? ⟨gb101, 1, none⟩ = some (.int .i64 a0_1)) (ds := []) #[false, false, false, false, false, false, false, false, false, false, false, false, false, false] (by kernel_rfl) rfl rfl ⟨(zkc BK101.out 0).trans rfl, (zkc BK101.out 1).trans rfl⟩ (fun hHeld => ?_); refine with_tabW bound_Root.tab6 bound_Root.bits6 (fun HT_ HW_ => ?_)
  generalize w25.drew = w27 at HO105 BK101 BK102 HB hHeld ⊢
  refine pure_ (i := 0) (N := some 16) (v := ?_) (a' := ?_) #[true, false, false, false, false, false, false, false, false, false, false, false, false, false] rfl rfl (any_of HT_.out (by kernel_rfl)) (fun _ _ _ h => h) (Or.inl ⟨by rfl, ?_⟩) ?_ ?_
  rotate_left
  ·intro w'
   go_simp
   with_reducible rfl
  rotate_left
  ·simp only [Act.put, zsa, zsz, zss, i64_w, i32_w]
   rfl
  refine pure_ (i := 1) (N := some 17) (v := ?_) (a' := ?_) #[true, true, false, false, false, false, false, false, false, false, false, false, false, false] rfl rfl (any_of HT_.out (by kernel_rfl)) (fun _ _ _ h => h) (Or.inl ⟨by rfl, ?_⟩) ?_ ?_
  rotate_left
  ·intro w'
   go_simp
   with_reducible rfl
  rotate_left
  ·simp only [Act.put, zsa, zsz, zss, i64_w, i32_w]
   rfl
  refine pure_ (i := 4) (N := some 20) (v := ?_) (a' := ?_) #[true, true, false, false, true, false, false, false, false, false, false, false, false, false] rfl rfl (any_of HT_.out (by kernel_rfl)) (fun _ _ _ h => h) (Or.inl ⟨by rfl, ?_⟩) ?_ ?_
  rotate_left
  ·intro w'
   go_simp
   with_reducible rfl
  rotate_left
  ·simp only [Act.put, zsa, zsz, zss, i64_w, i32_w]
   rfl
  refine pure_ (i := 5) (N := some 21) (v := ?_) (a' := ?_) #[true, true, false, false, true, true, false, false, false, false, false, false, false, false] rfl rfl (any_of HT_.out (by kernel_rfl)) (fun _ _ _ h => h) (Or.inl ⟨by rfl, ?_⟩) ?_ ?_
  rotate_left
  ·intro w'
   go_simp
   with_reducible rfl
  rotate_left
  ·simp only [Act.put, zsa, zsz, zss, i64_w, i32_w]
   rfl
  refine take_ (i := 2) (N := some 18) (v := ?_) (a' := ?_) #[true, true, true, false, true, true, false, false, false, false, false, false, false, false] rfl rfl (take_ofW HT_.out HW_.out (by kernel_rfl)) (fun _ _ _ h => h) (Or.inl ⟨by rfl, ?_⟩) hHeld ?_ ?_
  rotate_left
  ·rintro w' ⟨s0, s1⟩
   go_simp
   with_reducible rfl
  rotate_left
  ·simp only [Act.put, zsa, zsz, zss, i64_w, i32_w]
   rfl
  refine take_ (i := 6) (N := some 22) (v := ?_) (a' := ?_) #[true, true, true, false, true, true, true, false, false, false, false, false, false, false] rfl rfl (take_ofW HT_.out HW_.out (by kernel_rfl)) (fun _ _ _ h => h) (Or.inl ⟨by rfl, ?_⟩) hHeld ?_ ?_
  rotate_left
  ·rintro w' ⟨s0, s1⟩
   go_simp
   with_reducible rfl
  rotate_left
  ·simp only [Act.put, zsa, zsz, zss, i64_w, i32_w]
   rfl
  refine one_ (i := 3) (N := some 19) #[true, true, true, true, true, true, true, false, false, false, false, false, false, false] rfl rfl (one_of HT_.out (by kernel_rfl)) (by decide) (fun K hK => ?_)
  refine goes_ Try.func105 (by kernel_rfl) rfl #[.agg #[.bool false], .int .i64 a0_0] (by rfl) rfl rfl (by (try simp only [zmt, List.map_cons, List.map_nil]); first | done | rfl | (simp only [zld, zlt]; rfl)) ?_
  with_reducible refine (bound_round_root.calls false a0_0 t107 _ A15.out).mono ?_
  rintro e w28 ⟨rfl, hb⟩
  refine ⟨_, rfl, ?_⟩
  have n0_ := zam (Kd.R_below (by (with_reducible repeat (first | apply zRa | apply zRn | apply zRd)); exact HO105.out) hb)
  have n1_ := zam (zkb (g := gb101) (o := .cells #[.int .i64 a0_0, .int .i64 a0_1] 32 (0, 0)) (by (with_reducible repeat (first | refine zkn ?_ _ | refine zkd ?_ | refine zka ?_ _)); exact BK101.out) hb)
  have n2_ := zam (zkb (g := gb102) (o := .cells #[.int .i64 0, .int .i64 0] 32 (0, 0)) (by (with_reducible repeat (first | refine zkn ?_ _ | refine zkd ?_ | refine zka ?_ _)); exact BK102.out) hb)
  have n3_ := zam (zbt (by repeat (first | (with_reducible first | exact HB.out | apply zba | apply zbn | apply zb1 | refine zbs ?_ GE101.out | refine zbs ?_ GE102.out) | exact HB.out)) hb)
  clear HO105
  clear BK101
  clear BK102
  clear HB
  have HO105 := n0_
  have BK101 := n1_
  have BK102 := n2_
  have HB := n3_
  clear n0_ n1_ n2_ n3_
  (try clear hb)
  (try clear hb2)
  (try clear hk)
  (try clear hi)
  refine hK.out _ _ ⟨(zkc BK101.out 0).trans rfl, (zkc BK101.out 1).trans rfl⟩ (fun hHeld => ?_)
  clear hK K
  refine norm_ (a' := ?_) ?_ ?_
  rotate_left
  ·show Act.put _ (some 19) _ = _
   simp only [Act.put, zsa, zsz, zss, i64_w, i32_w]
   rfl
  refine one_ (i := 7) (N := some 23) #[true, true, true, true, true, true, true, true, false, false, false, false, false, false] rfl rfl (one_of HT_.out (by kernel_rfl)) (by decide) (fun K hK => ?_)
  refine goes_ Try.func105 (by kernel_rfl) rfl #[.agg #[.bool true], .int .i64 a0_1] (by rfl) rfl rfl (by (try simp only [zmt, List.map_cons, List.map_nil]); first | done | rfl | (simp only [zld, zlt]; rfl)) ?_
  with_reducible refine (bound_round_root.calls true a0_1 t108 _ A16.out).mono ?_
  rintro e w29 ⟨rfl, hb⟩
  refine ⟨_, rfl, ?_⟩
  have n0_ := zam (Kd.R_below (by (with_reducible repeat (first | apply zRa | apply zRn | apply zRd)); exact HO105.out) hb)
  have n1_ := zam (zkb (g := gb101) (o := .cells #[.int .i64 a0_0, .int .i64 a0_1] 32 (0, 0)) (by (with_reducible repeat (first | refine zkn ?_ _ | refine zkd ?_ | refine zka ?_ _)); exact BK101.out) hb)
  have n2_ := zam (zkb (g := gb102) (o := .cells #[.int .i64 0, .int .i64 0] 32 (0, 0)) (by (with_reducible repeat (first | refine zkn ?_ _ | refine zkd ?_ | refine zka ?_ _)); exact BK102.out) hb)
  have n3_ := zam (zbt (by repeat (first | (with_reducible first | exact HB.out | apply zba | apply zbn | apply zb1 | refine zbs ?_ GE101.out | refine zbs ?_ GE102.out) | exact HB.out)) hb)
  clear HO105
  clear BK101
  clear BK102
  clear HB
  have HO105 := n0_
  have BK101 := n1_
  have BK102 := n2_
  have HB := n3_
  clear n0_ n1_ n2_ n3_
  (try clear hb)
  (try clear hb2)
  (try clear hk)
  (try clear hi)
  refine hK.out _ _ ⟨(zkc BK101.out 0).trans rfl, (zkc BK101.out 1).trans rfl⟩ (fun hHeld => ?_)
  clear hK K
  refine norm_ (a' := ?_) ?_ ?_
  rotate_left
  ·show Act.put _ (some 23) _ = _
   simp only [Act.put, zsa, zsz, zss, i64_w, i32_w]
   rfl
  refine pure_ (i := 8) (N := some 24) (v := ?_) (a' := ?_) #[true, true, true, true, true, true, true, true, true, false, false, false, false, false] rfl rfl (any_of HT_.out (by kernel_rfl)) (fun _ _ _ h => h) (Or.inl ⟨by rfl, ?_⟩) ?_ ?_
  rotate_left
  ·intro w'
   go_simp
   with_reducible rfl
  rotate_left
  ·simp only [Act.put, zsa, zsz, zss, i64_w, i32_w]
   rfl
  refine one_ (i := 9) (N := some 25) #[true, true, true, true, true, true, true, true, true, true, false, false, false, false] rfl rfl (one_of HT_.out (by kernel_rfl)) (by decide) (fun K hK => ?_)
  refine goes_ Try.func82 (by kernel_rfl) rfl #[.agg #[.int .i64 t107, .int .i64 t108]] (by rfl) rfl rfl (by (try simp only [zmt, List.map_cons, List.map_nil]); first | done | rfl | (simp only [zld, zlt]; rfl)) ?_
  with_reducible refine (bound_over.calls k t107 t108 t109 t110 t111 _ A17.out).mono ?_
  rintro e w30 ⟨rfl, hb⟩
  refine ⟨_, rfl, ?_⟩
  have n0_ := zam (Kd.R_below (by (with_reducible repeat (first | apply zRa | apply zRn | apply zRd)); exact HO105.out) hb)
  have n1_ := zam (zkb (g := gb101) (o := .cells #[.int .i64 a0_0, .int .i64 a0_1] 32 (0, 0)) (by (with_reducible repeat (first | refine zkn ?_ _ | refine zkd ?_ | refine zka ?_ _)); exact BK101.out) hb)
  have n2_ := zam (zkb (g := gb102) (o := .cells #[.int .i64 0, .int .i64 0] 32 (0, 0)) (by (with_reducible repeat (first | refine zkn ?_ _ | refine zkd ?_ | refine zka ?_ _)); exact BK102.out) hb)
  have n3_ := zam (zbt (by repeat (first | (with_reducible first | exact HB.out | apply zba | apply zbn | apply zb1 | refine zbs ?_ GE101.out | refine zbs ?_ GE102.out) | exact HB.out)) hb)
  clear HO105
  clear BK101
  clear BK102
  clear HB
  have HO105 := n0_
  have BK101 := n1_
  have BK102 := n2_
  have HB := n3_
  clear n0_ n1_ n2_ n3_
  (try clear hb)
  (try clear hb2)
  (try clear hk)
  (try clear hi)
  refine hK.out _ _ ⟨(zkc BK101.out 0).trans rfl, (zkc BK101.out 1).trans rfl⟩ (fun hHeld => ?_)
  clear hK K
  refine norm_ (a' := ?_) ?_ ?_
  rotate_left
  ·show Act.put _ (some 25) _ = _
   simp only [Act.put, zsa, zsz, zss, i64_w, i32_w]
   rfl
  refine pure_ (i := 10) (N := some 26) (v := ?_) (a' := ?_) #[true, true, true, true, true, true, true, true, true, true, true, false, false, false] rfl rfl (any_of HT_.out (by kernel_rfl)) (fun _ _ _ h => h) (Or.inl ⟨by rfl, ?_⟩) ?_ ?_
  rotate_left
  ·intro w'
   go_simp
   with_reducible rfl
  rotate_left
  ·simp only [Act.put, zsa, zsz, zss, i64_w, i32_w]
   rfl
  refine pure_ (i := 11) (N := some 27) (v := ?_) (a' := ?_) #[true, true, true, true, true, true, true, true, true, true, true, true, false, false] rfl rfl (any_of HT_.out (by kernel_rfl)) (fun _ _ _ h => h) (Or.inl ⟨by rfl, ?_⟩) ?_ ?_
  rotate_left
  ·intro w'
   go_simp
   with_reducible rfl
  rotate_left
  ·simp only [Act.put, zsa, zsz, zss, i64_w, i32_w]
   rfl
  refine one_ (i := 12) (N := none) #[true, true, true, true, true, true, true, true, true, true, true, true, true, false] rfl rfl (one_of HT_.out (by kernel_rfl)) (by decide) (fun K hK => ?_)
  have hs31 : w30.cell? ⟨gb102, 0, none⟩ = some (.int .i64 0) := (zkc BK102.out 0).trans rfl
  have hfs31 := zkz BK102.out 0
  have hns31_0 := NB101_102.out
  have hms31_0 := NB102_101.out
  have hs32 : w30.cell? ⟨gb102, 1, none⟩ = some (.int .i64 0) := (zkc BK102.out 1).trans rfl
  have hfs32 := zkz BK102.out 1
  have hns32_0 := NB101_102.out
  have hms32_0 := NB102_101.out
  refine skip_ (w1 := ?_) (by rfl) rfl ?_ ?_
  rotate_left
  ·go_simp
   rfl
  refine hK.out _ _ ⟨((cell_far (p := ⟨gb102, _, none⟩) NB101_102.out _).trans (((cell_far (p := ⟨gb102, _, none⟩) NB101_102.out _).trans (hHeld.1)))), ((cell_far (p := ⟨gb102, _, none⟩) NB101_102.out _).trans (((cell_far (p := ⟨gb102, _, none⟩) NB101_102.out _).trans (hHeld.2))))⟩ (fun hHeld => ?_)
  clear hK K
  refine pure_ (i := 13) (N := some 3) (v := ?_) (a' := ?_) #[true, true, true, true, true, true, true, true, true, true, true, true, true, true] rfl rfl (any_of HT_.out (by kernel_rfl)) (fun _ _ _ h => h) (Or.inl ⟨by rfl, ?_⟩) ?_ ?_
  rotate_left
  ·intro w'
   go_simp
   with_reducible rfl
  rotate_left
  ·simp only [Act.put, zsa, zsz, zss, i64_w, i32_w]
   rfl
  refine done_ (done_of HT_.out (by kernel_rfl)) ?_
  try go_wp2
  refine zbr (results_ct rfl _ _ gb102 32 #[.int .i64 t109, .int .i64 t110] (0, 0) _ rfl (by (with_reducible repeat (first | refine zkn ?_ _ | refine zkd ?_ | refine zka ?_ _)); refine blk_put (cs := #[.int .i64 t109, .int .i64 0]) ?_ 1 _ rfl; (with_reducible repeat (first | refine zkn ?_ _ | refine zkd ?_ | refine zka ?_ _)); refine blk_put (cs := #[.int .i64 0, .int .i64 0]) ?_ 0 _ rfl; (with_reducible repeat (first | refine zkn ?_ _ | refine zkd ?_ | refine zka ?_ _)); exact BK102.out) Try.underlying32 rfl (by kernel_rfl)) rfl ?_
  exact ⟨by first | rfl | (simp [errW_none, errW_some] <;> rfl) | (simp [*, errW_none, errW_some] <;> rfl), by repeat (first | (with_reducible first | exact HB.out | apply zba | apply zbn | apply zb1 | refine zbs ?_ GE101.out | refine zbs ?_ GE102.out) | exact HB.out)⟩
 rw [if_neg c3] at H
 have c3b0 : (t106 == 0) = false := beq_eq_false_iff_ne.mpr c3
 have c3b1 : (t106 != 0) = true := bne_iff_ne.mpr c3
 simp only [Option.some.injEq, Prod.mk.injEq] at H
 obtain ⟨rfl, rfl, rfl⟩ := H
 go_enter Try.func63, Try.ntmps63
 go_wp2_with (first | ((with_reducible refine zgd (N := 1) rfl ?_); refine box_event ?hg (N := 1) ?hd (cs := #[.int .i64 a0_0, .int .i64 a0_1]) (t := 32) ?hr ?_; (case hd => rfl); (case hg => rfl); (case hr => first | (go_simp; done) | (go_simp; rfl)); intro gb101 hg w33 hbox hb; have n0_ := zam (zbt (by repeat (first | (with_reducible first | exact HB.out | apply zba | apply zbn | apply zb1) | exact HB.out)) hb); have n1_ := zam (hbox); have n2_ := zam ((by rw [hg]; exact (zbz (by repeat (first | (with_reducible first | exact HB.out | apply zba | apply zbn | apply zb1) | exact HB.out))) : w.heap.size ≤ gb101)); have n3_ := zam ((by rw [hg]; exact (zbz (by repeat (first | (with_reducible first | exact HB.out | apply zba | apply zbn | apply zb1) | exact HB.out))) : w.heap.size ≤ gb101)); clear HB; have HB := n0_; have BK101 := n1_; have GW101 := n2_; have GE101 := n3_; clear n0_ n1_ n2_ n3_; clear hb hbox hg) | ((with_reducible refine zgd (N := 2) rfl ?_); refine box_event ?hg (N := 2) ?hd (cs := #[.int .i64 0, .int .i64 0]) (t := 32) ?hr ?_; (case hd => rfl); (case hg => rfl); (case hr => first | (go_simp; done) | (go_simp; rfl)); intro gb102 hg w34 hbox hb; have n0_ := zam (zkb (g := gb101) (o := .cells #[.int .i64 a0_0, .int .i64 a0_1] 32 (0, 0)) (by (with_reducible repeat (first | refine zkn ?_ _ | refine zkd ?_ | refine zka ?_ _)); exact BK101.out) hb); have n1_ := zam (zbt (by repeat (first | (with_reducible first | exact HB.out | apply zba | apply zbn | apply zb1 | refine zbs ?_ GE101.out) | exact HB.out)) hb); have n2_ := zam (hbox); have n3_ := zam ((by rw [hg]; exact (zbz (by repeat (first | (with_reducible first | exact HB.out | apply zba | apply zbn | apply zb1 | refine zbs ?_ GE101.out) | exact HB.out))) : w.heap.size ≤ gb102)); have n4_ := zam ((by rw [hg]; exact (zbz (by repeat (first | (with_reducible first | exact HB.out | apply zba | apply zbn | apply zb1 | refine zbs ?_ GE101.out) | exact HB.out))) : w.heap.size ≤ gb102)); have n5_ := zam ((by rw [hg]; exact Nat.ne_of_lt (blk_lt (g := gb101) (o := .cells #[.int .i64 a0_0, .int .i64 a0_1] 32 (0, 0)) (by (with_reducible repeat (first | refine zkn ?_ _ | refine zkd ?_ | refine zka ?_ _)); exact BK101.out)) : gb101 ≠ gb102)); have n6_ := zam ((by rw [hg]; exact Nat.ne_of_gt (blk_lt (g := gb101) (o := .cells #[.int .i64 a0_0, .int .i64 a0_1] 32 (0, 0)) (by (with_reducible repeat (first | refine zkn ?_ _ | refine zkd ?_ | refine zka ?_ _)); exact BK101.out)) : gb102 ≠ gb101)); clear BK101; clear HB; have BK101 := n0_; have HB := n1_; have BK102 := n2_; have GW102 := n3_; have GE102 := n4_; have NB101_102 := n5_; have NB102_101 := n6_; clear n0_ n1_ n2_ n3_ n4_ n5_ n6_; clear hb hbox hg; have hnb35 := NB101_102.out; have hnc35 := NB102_101.out; have hcz36_0 : w34.cell? ⟨gb101, 0, none⟩ = some (.int .i64 a0_0) := (zkc BK101.out 0).trans rfl; have hcz36_1 : w34.cell? ⟨gb101, 1, none⟩ = some (.int .i64 a0_1) := (zkc BK101.out 1).trans rfl; have hfz36_0 := zkz BK101.out 0; have hfz36_1 := zkz BK101.out 1) | ((with_reducible refine zgd (N := 6) rfl ?_); refine Kd.R_lit k32 _ 32 ?hg (N := 6) ?hd (xs := ([(⟨a0_0, a0_1⟩ : S32)] : List (S32))) (inner := [.int .i64 a0_0, .int .i64 a0_1]) (ok := fun _ => True) (okp := fun _ => True) ?hr ?hp (fun _ hk => hk) trivial (Below.refl _ _) (Nat.le_refl _) (by simp) ?_; (case hd => rfl); (case hg => rfl); (case hr => first | (go_simp; done) | (go_simp; rfl)); (case hp => exact (Reps.c2 (show Kd.M k32 _ _ _ (⟨a0_0, a0_1⟩ : S32) [.int .i64 a0_0, .int .i64 a0_1] from (k32_mkM _ _ _ (⟨a0_0, a0_1⟩ : S32) )) (Reps.none _ _))); intro v104 w37 ho38 hb hg_ hnew_; clear hg_ hnew_; (first | rw [← Ny103.out] at ho38 | (simp only [Int.reduceToNat] at ho38; rw [← Ny103.out] at ho38)); have n0_ := zam (Kd.R_lower (Kd.R_newB (Kd.R_newB ho38 (g := gb101) (o := .cells #[.int .i64 a0_0, .int .i64 a0_1] 32 (0, 0)) (by (with_reducible repeat (first | refine zkn ?_ _ | refine zkd ?_ | refine zka ?_ _)); exact BK101.out)) (g := gb102) (o := .cells #[.int .i64 0, .int .i64 0] 32 (0, 0)) (by (with_reducible repeat (first | refine zkn ?_ _ | refine zkd ?_ | refine zka ?_ _)); exact BK102.out)) (zbz (by repeat (first | (with_reducible first | exact HB.out | apply zba | apply zbn | apply zb1 | refine zbs ?_ GE101.out | refine zbs ?_ GE102.out) | exact HB.out)))); have n1_ := zam (zkb (g := gb101) (o := .cells #[.int .i64 a0_0, .int .i64 a0_1] 32 (0, 0)) (by (with_reducible repeat (first | refine zkn ?_ _ | refine zkd ?_ | refine zka ?_ _)); exact BK101.out) hb); have n2_ := zam (zkb (g := gb102) (o := .cells #[.int .i64 0, .int .i64 0] 32 (0, 0)) (by (with_reducible repeat (first | refine zkn ?_ _ | refine zkd ?_ | refine zka ?_ _)); exact BK102.out) hb); have n3_ := zam (zbt (by repeat (first | (with_reducible first | exact HB.out | apply zba | apply zbn | apply zb1 | refine zbs ?_ GE101.out | refine zbs ?_ GE102.out) | exact HB.out)) hb); clear BK101; clear BK102; clear HB; have HO105 := n0_; have BK101 := n1_; have BK102 := n2_; have HB := n3_; clear n0_ n1_ n2_ n3_; clear hb ho38; obtain ⟨Ao39, co39, eo39⟩ := Kd.R_slice HO105.out; subst eo39) | ((with_reducible refine zgc (f := 80) rfl ?_); refine goesL_ (some 7) rfl rfl Try.func80 (by kernel_rfl) rfl #[.slice Ao39 y103.length co39] rfl (by (try simp only [zmt, List.map_cons, List.map_nil]); first | done | rfl | (simp only [zld, zlt]; rfl)) ?_; (with_reducible refine (bound_check.calls k _ _ y103 t106 _ ?side1 ?side2 A2.out).mono ?_); (case side1 => repeat (first | exact (Kd.R_reads' HO105.out).2.2 | (with_reducible refine Kd.C_alloc ?_ _) | (with_reducible refine Kd.C_drewN ?_ _) | (with_reducible refine Kd.C_drew ?_))); (case side2 => exact (Kd.R_reads' HO105.out).2.1); rintro e w40 ⟨rfl, hb⟩; refine ⟨_, rfl, ?_⟩; have n0_ := zam (Kd.R_below (by (with_reducible repeat (first | apply zRa | apply zRn | apply zRd)); exact HO105.out) hb); have n1_ := zam (zkb (g := gb101) (o := .cells #[.int .i64 a0_0, .int .i64 a0_1] 32 (0, 0)) (by (with_reducible repeat (first | refine zkn ?_ _ | refine zkd ?_ | refine zka ?_ _)); exact BK101.out) hb); have n2_ := zam (zkb (g := gb102) (o := .cells #[.int .i64 0, .int .i64 0] 32 (0, 0)) (by (with_reducible repeat (first | refine zkn ?_ _ | refine zkd ?_ | refine zka ?_ _)); exact BK102.out) hb); have n3_ := zam (zbt (by repeat (first | (with_reducible first | exact HB.out | apply zba | apply zbn | apply zb1 | refine zbs ?_ GE101.out | refine zbs ?_ GE102.out) | exact HB.out)) hb); clear HO105; clear BK101; clear BK102; clear HB; have HO105 := n0_; have BK101 := n1_; have BK102 := n2_; have HB := n3_; clear n0_ n1_ n2_ n3_; (try clear hb); (try clear hb2); (try clear hk); (try clear hi); have hcz41_0 : w40.cell? ⟨gb102, 0, none⟩ = some (.int .i64 0) := (zkc BK102.out 0).trans rfl; have hcz41_1 : w40.cell? ⟨gb102, 1, none⟩ = some (.int .i64 0) := (zkc BK102.out 1).trans rfl; have hfz41_0 := zkz BK102.out 0; have hfz41_1 := zkz BK102.out 1))
 refine zbr (results_ct rfl _ _ gb102 32 #[.int .i64 0, .int .i64 0] (0, 0) _ rfl (by (with_reducible repeat (first | refine zkn ?_ _ | refine zkd ?_ | refine zka ?_ _)); refine blk_put (cs := #[.int .i64 0, .int .i64 0]) ?_ 1 _ rfl; (with_reducible repeat (first | refine zkn ?_ _ | refine zkd ?_ | refine zka ?_ _)); refine blk_put (cs := #[.int .i64 0, .int .i64 0]) ?_ 0 _ rfl; (with_reducible repeat (first | refine zkn ?_ _ | refine zkd ?_ | refine zka ?_ _)); exact BK102.out) Try.underlying32 rfl (by kernel_rfl)) rfl ?_
 exact ⟨by first | rfl | (simp [errW_none, errW_some] <;> rfl) | (simp [*, errW_none, errW_some] <;> rfl), by repeat (first | (with_reducible first | exact HB.out | apply zba | apply zbn | apply zb1 | refine zbs ?_ GE101.out | refine zbs ?_ GE102.out) | exact HB.out)⟩
def bound_amount.f (a0 : Int) : Option (Int) := some (mx a0 (wrap64 (-a0)))
set_option maxHeartbeats 8000000 in
set_option maxRecDepth 100000 in
theorem bound_amount.calls (a0 : Int) (r : Int) (w : World) (h : bound_amount.f a0 = some r) :
  Calls Try.prog 84 #[.int .i64 a0] w fun e w' => e = .returned (.int .i64 r) ∧ Below w.heap.size w w' := by
 have HB := zam (Below.refl w.heap.size w)
 have H : (some (mx a0 (wrap64 (-a0)))) = some r := h
 clear h
 obtain ⟨ji2, hji2⟩ : ∃ j_ : Int, (mx a0 (wrap64 (-a0))) = j_ := ⟨_, rfl⟩
 replace H : (some ji2) = some r := by first | (rw [hji2] at H; exact H) | (simp only [hji2] at H ⊢; exact H)
 have hji2_ : (if a0 < (wrap64 (-a0)) then (wrap64 (-a0)) else a0) = ji2 := hji2
 obtain rfl := zsi H
 go_enter Try.func84, Try.ntmps84
 go_wp2
 go_ret
 exact ⟨by first | rfl | (simp [errW_none, errW_some] <;> rfl) | (simp only [← hji2]; first | rfl | (simp [errW_none, errW_some] <;> rfl)) | (simp [*, errW_none, errW_some] <;> rfl), by repeat (first | (with_reducible first | exact HB.out | apply zba | apply zbn | apply zb1) | exact HB.out)⟩
def Bd.scale (k : Nat) (up : Bool) (a0 a1 n d : Int) : Option (List Int) := (bound_round_div.f k up (wrap64 (a0 * n)) d).bind fun q1 => (bound_round_div.f k up (wrap64 (a1 * n)) d).bind fun q2 => some [q1, q2]
def bound_Scale.f (k : Nat) (a0 a1 n d : Int) : Option (Int × Int × Int) := (bound_check.f k [(⟨a0, a1⟩ : S32)]).bind fun e => if e = 0 then (bound_amount.f n).bind fun am => (if am > 1073741824 then some (0, 0, 3) else if d < 1 then some (0, 0, 3) else if d > 1073741824 then some (0, 0, 3) else if n = -9223372036854775808 then some (0, 0, 3) else (Bd.scale k false a0 a1 n d).bind fun lo => (Bd.scale k true a0 a1 n d).bind fun hi => (slices_Min_int64_int64.f k lo).bind fun m => (slices_Max_int64_int64.f k hi).bind fun x => bound_over.f k m x) else some (0, 0, e)
theorem bound_Scale.mono : ∀ a0 a1 a2 a3 k, LeO (bound_Scale.f k a0 a1 a2 a3) (bound_Scale.f (k + 1) a0 a1 a2 a3) := by
 intro a0 a1 a2 a3 k
 unfold bound_Scale.f Bd.scale
 repeat' first
   | (with_reducible exact bound_check.mono _ _)
   | (with_reducible exact bound_round_div.mono _ _ _ _)
   | (with_reducible exact slices_Min_int64_int64.mono _ _)
   | (with_reducible exact slices_Max_int64_int64.mono _ _)
   | (with_reducible exact bound_over.mono _ _ _)
   | (with_reducible exact LeO.refl _)
   | (with_reducible exact LeO.none _)
   | (with_reducible refine LeO.ite ?_ ?_)
   | (with_reducible refine LeO.bind ?_ (fun _ => ?_))
   | exact bound_check.mono _ _
   | exact bound_round_div.mono _ _ _ _
   | exact slices_Min_int64_int64.mono _ _
   | exact slices_Max_int64_int64.mono _ _
   | exact bound_over.mono _ _ _
   | exact LeO.none _
   | refine LeO.ite ?_ ?_
   | refine LeO.bind ?_ (fun _ => ?_)
theorem ScaleQ {k : Nat} {a0 a1 n d : Int} {lo hi : List Int} {ga gn gd : Nat} {w : World} (hA : w.heap[ga]? = some (.cells #[.int .i64 a0, .int .i64 a1] 32 (0, 0))) (hN : w.heap[gn]? = some (.cells #[.int .i64 n] 2 (0, 0))) (hD : w.heap[gd]? = some (.cells #[.int .i64 d] 2 (0, 0))) (hl : Bd.scale k false a0 a1 n d = some lo) (hh : Bd.scale k true a0 a1 n d = some hi) :
  ∀ (up : Bool) (W : World), Below w.heap.size w W → Calls Try.prog 86 (#[divVal up] ++ #[.pointer (some ⟨ga, 0, none⟩), .pointer (some ⟨gn, 0, none⟩), .pointer (some ⟨gd, 0, none⟩)]) W fun e W' => ∃ v, e = .returned v ∧ Kd.R (Kd.int .i64) 2 W' W.heap.size (fun _ => True) v (if up = true then hi else lo) ∧ Below W.heap.size W W' := by
 intro up W hb
 have h : Bd.scale k up a0 a1 n d = some (if up = true then hi else lo) := by cases up; exact hl; exact hh
 generalize (if up = true then hi else lo) = l at h ⊢
 unfold Bd.scale at h
 obtain ⟨q1, e1, h⟩ := Option.bind_eq_some_iff.mp h
 obtain ⟨q2, e2, h⟩ := Option.bind_eq_some_iff.mp h
 obtain rfl := zsi h
 exact bound_Scale_1.calls k up ga gn gd a0 a1 n d q1 q2 W (zkb hA hb) (zkb hN hb) (zkb hD hb) e1 e2
set_option maxHeartbeats 8000000 in
set_option maxRecDepth 100000 in
theorem bound_Scale.calls (k : Nat) (a0 a1 n d : Int) (r1 r2 r3 : Int) (w : World) (h : bound_Scale.f k a0 a1 n d = some (r1, r2, r3)) :
  Calls Try.prog 29 #[.agg #[.int .i64 a0, .int .i64 a1], .int .i64 n, .int .i64 d] w fun e w' => e = .returned (.tuple #[.agg #[.int .i64 r1, .int .i64 r2], .int .i64 r3]) ∧ Below w.heap.size w w' := by
 have hu32 := Try.underlying32
 have HB := zam (Below.refl w.heap.size w)
 unfold bound_Scale.f at h
 replace h := Option.bind_eq_some_iff.mp h
 obtain ⟨er, ec, h⟩ := h
 have EC := zam ec
 clear ec
 by_cases c1 : er = 0
 ·rw [if_pos c1] at h
  have c1b0 : (er == 0) = true := beq_iff_eq.mpr c1
  have c1b1 : (er != 0) = false := bne_eq_false_iff_eq.mpr c1
  clear c1
  replace h := Option.bind_eq_some_iff.mp h
  obtain ⟨am, ea, h⟩ := h
  have EA := zam ea
  clear ea
  by_cases c2 : am > 1073741824
  ·rw [if_pos c2] at h
   have c2b : decide (am > 1073741824) = true := zdt c2
   have c2c : decide (1073741824 < am) = true := zdt c2
   clear c2
   simp only [Option.some.injEq, Prod.mk.injEq] at h
   obtain ⟨rfl, rfl, rfl⟩ := h
   go_enter Try.func29, Try.ntmps29
   go_wp2_with (first | ((with_reducible refine zgd (N := 3) rfl ?_); refine box_event ?hg (N := 3) ?hd (cs := #[.int .i64 a0, .int .i64 a1]) (t := 32) ?hr ?_; (case hd => rfl); (case hg => rfl); (case hr => first | (go_simp; done) | (go_simp; rfl)); intro ga hg_ w1 hbk hb0; have GA := zam (show w.heap.size ≤ ga by have := zbz HB.out; omega); have nHB := zam (zbt HB.out hb0); have BA := zam hbk; clear HB; have HB := nHB; clear nHB hg_ hbk hb0) | ((with_reducible refine zgd (N := 4) rfl ?_); refine box_event ?hg (N := 4) ?hd (cs := #[.int .i64 n]) (t := 2) ?hr ?_; (case hd => rfl); (case hg => rfl); (case hr => first | (go_simp; done) | (go_simp; rfl)); intro gn hg_ w1 hbk hb0; have GN := zam (show w.heap.size ≤ gn by have := zbz HB.out; omega); have NAN := zam (show ga ≠ gn by have := blk_lt BA.out; omega); have nA := zam (zkb BA.out hb0); have nHB := zam (zbt HB.out hb0); have BN := zam hbk; clear HB BA; have BA := nA; have HB := nHB; clear nHB nA hg_ hbk hb0) | ((with_reducible refine zgd (N := 5) rfl ?_); refine box_event ?hg (N := 5) ?hd (cs := #[.int .i64 d]) (t := 2) ?hr ?_; (case hd => rfl); (case hg => rfl); (case hr => first | (go_simp; done) | (go_simp; rfl)); intro gd hg_ w1 hbk hb0; have GD := zam (show w.heap.size ≤ gd by have := zbz HB.out; omega); have NAD := zam (show ga ≠ gd by have := blk_lt BA.out; omega); have NND := zam (show gn ≠ gd by have := blk_lt BN.out; omega); have nA := zam (zkb BA.out hb0); have nN := zam (zkb BN.out hb0); have nHB := zam (zbt HB.out hb0); have BD := zam hbk; clear HB BA BN; have BA := nA; have BN := nN; have HB := nHB; clear nHB nA nN hg_ hbk hb0) | ((with_reducible refine zgd (N := 6) rfl ?_); refine box_event ?hg (N := 6) ?hd (cs := #[.int .i64 0, .int .i64 0]) (t := 32) ?hr ?_; (case hd => rfl); (case hg => rfl); (case hr => first | (go_simp; done) | (go_simp; rfl)); intro gr hg_ w1 hbk hb0; have GR := zam (show w.heap.size ≤ gr by have := zbz HB.out; omega); have NAR := zam (show ga ≠ gr by have := blk_lt BA.out; omega); have NNR := zam (show gn ≠ gr by have := blk_lt BN.out; omega); have NDR := zam (show gd ≠ gr by have := blk_lt BD.out; omega); have nA := zam (zkb BA.out hb0); have nN := zam (zkb BN.out hb0); have nD := zam (zkb BD.out hb0); have nHB := zam (zbt HB.out hb0); have BR := zam hbk; clear HB BA BN BD; have BA := nA; have BN := nN; have BD := nD; have HB := nHB; clear nHB nA nN nD hg_ hbk hb0; have hzA0 := (zkc BA.out 0).trans rfl; have hfA0 := zkz BA.out 0; have hzA1 := (zkc BA.out 1).trans rfl; have hfA1 := zkz BA.out 1; have hzN0 := (zkc BN.out 0).trans rfl; have hfN0 := zkz BN.out 0; have hzD0 := (zkc BD.out 0).trans rfl; have hfD0 := zkz BD.out 0; have hzR0 := (zkc BR.out 0).trans rfl; have hfR0 := zkz BR.out 0; have hzR1 := (zkc BR.out 1).trans rfl; have hfR1 := zkz BR.out 1) | ((with_reducible refine zgd (N := 10) rfl ?_); refine Kd.R_lit k32 _ 32 ?hg (N := 10) ?hd (xs := ([(⟨a0, a1⟩ : S32)] : List S32)) (inner := [.int .i64 a0, .int .i64 a1]) (ok := fun _ => True) (okp := fun _ => True) ?hr ?hp (fun _ hk => hk) trivial (Below.refl _ _) (Nat.le_refl _) (by simp) ?_; (case hd => rfl); (case hg => rfl); (case hr => first | (go_simp; done) | (go_simp; rfl)); (case hp => exact (Reps.c2 (show Kd.M k32 _ _ _ (⟨a0, a1⟩ : S32) [.int .i64 a0, .int .i64 a1] from (k32_mkM _ _ _ (⟨a0, a1⟩ : S32))) (Reps.none _ _))); intro v1 w1 ho hb hg_ hnew_; clear hg_ hnew_; obtain ⟨A5, c5, rfl, hl5, hC5⟩ := Kd.R_reads ho; have HL5 := zam hl5; have HC5 := zam hC5; clear ho hl5 hC5; (try clear hzA0 hfA0 hzA1 hfA1 hzN0 hfN0 hzD0 hfD0 hzR0 hfR0 hzR1 hfR1); have nA := zam (zkb BA.out hb); have nN := zam (zkb BN.out hb); have nD := zam (zkb BD.out hb); have nR := zam (zkb BR.out hb); have nHB := zam (zbt HB.out hb); clear HB BA BN BD BR hb; have BA := nA; have BN := nN; have BD := nD; have BR := nR; have HB := nHB; clear nHB nA nN nD nR; have hzA0 := (zkc BA.out 0).trans rfl; have hfA0 := zkz BA.out 0; have hzA1 := (zkc BA.out 1).trans rfl; have hfA1 := zkz BA.out 1; have hzN0 := (zkc BN.out 0).trans rfl; have hfN0 := zkz BN.out 0; have hzD0 := (zkc BD.out 0).trans rfl; have hfD0 := zkz BD.out 0; have hzR0 := (zkc BR.out 0).trans rfl; have hfR0 := zkz BR.out 0; have hzR1 := (zkc BR.out 1).trans rfl; have hfR1 := zkz BR.out 1) | (go_at_call 80; (refine (bound_check.calls k A5 c5 [(⟨a0, a1⟩ : S32)] er _ HC5.out HL5.out EC.out).mono ?_); rintro e w2 ⟨rfl, hb⟩; (try clear hzA0 hfA0 hzA1 hfA1 hzN0 hfN0 hzD0 hfD0 hzR0 hfR0 hzR1 hfR1); have nA := zam (zkb BA.out hb); have nN := zam (zkb BN.out hb); have nD := zam (zkb BD.out hb); have nR := zam (zkb BR.out hb); have nHB := zam (zbt HB.out hb); clear HB BA BN BD BR hb; have BA := nA; have BN := nN; have BD := nD; have BR := nR; have HB := nHB; clear nHB nA nN nD nR; have hzA0 := (zkc BA.out 0).trans rfl; have hfA0 := zkz BA.out 0; have hzA1 := (zkc BA.out 1).trans rfl; have hfA1 := zkz BA.out 1; have hzN0 := (zkc BN.out 0).trans rfl; have hfN0 := zkz BN.out 0; have hzD0 := (zkc BD.out 0).trans rfl; have hfD0 := zkz BD.out 0; have hzR0 := (zkc BR.out 0).trans rfl; have hfR0 := zkz BR.out 0; have hzR1 := (zkc BR.out 1).trans rfl; have hfR1 := zkz BR.out 1) | (go_at_call 84; (with_reducible refine (bound_amount.calls n am _ EA.out).mono ?_); rintro e w2 ⟨rfl, hb0_⟩; have hb := (by first | exact hb0_ | (obtain ⟨m_, rfl⟩ := hb0_; exact zbn (Below.refl _ _) m_) : Below _ _ _); clear hb0_; (try clear hzA0 hfA0 hzA1 hfA1 hzN0 hfN0 hzD0 hfD0 hzR0 hfR0 hzR1 hfR1); have nA := zam (zkb BA.out hb); have nN := zam (zkb BN.out hb); have nD := zam (zkb BD.out hb); have nR := zam (zkb BR.out hb); have nHB := zam (zbt HB.out hb); clear HB BA BN BD BR hb; have BA := nA; have BN := nN; have BD := nD; have BR := nR; have HB := nHB; clear nHB nA nN nD nR; have hzA0 := (zkc BA.out 0).trans rfl; have hfA0 := zkz BA.out 0; have hzA1 := (zkc BA.out 1).trans rfl; have hfA1 := zkz BA.out 1; have hzN0 := (zkc BN.out 0).trans rfl; have hfN0 := zkz BN.out 0; have hzD0 := (zkc BD.out 0).trans rfl; have hfD0 := zkz BD.out 0; have hzR0 := (zkc BR.out 0).trans rfl; have hfR0 := zkz BR.out 0; have hzR1 := (zkc BR.out 1).trans rfl; have hfR1 := zkz BR.out 1))
   refine zbr (results_ct rfl _ _ gr 32 #[.int .i64 0, .int .i64 0] (0, 0) _ rfl (by refine blk_put (cs := #[.int .i64 0, .int .i64 0]) ?_ 1 _ rfl; refine blk_put (cs := #[.int .i64 0, .int .i64 0]) ?_ 0 _ rfl; exact BR.out) Try.underlying32 rfl (by kernel_rfl)) rfl ?_
   exact ⟨rfl, zbs (zbs HB.out GR.out) GR.out⟩
  rw [if_neg c2] at h
  have c2b : decide (am > 1073741824) = false := zdf c2
  have c2c : decide (1073741824 < am) = false := zdf c2
  clear c2
  by_cases c3 : d < 1
  ·rw [if_pos c3] at h
   have c3b : decide (d < 1) = true := zdt c3
   clear c3
   simp only [Option.some.injEq, Prod.mk.injEq] at h
   obtain ⟨rfl, rfl, rfl⟩ := h
   go_enter Try.func29, Try.ntmps29
   go_wp2_with (first | ((with_reducible refine zgd (N := 3) rfl ?_); refine box_event ?hg (N := 3) ?hd (cs := #[.int .i64 a0, .int .i64 a1]) (t := 32) ?hr ?_; (case hd => rfl); (case hg => rfl); (case hr => first | (go_simp; done) | (go_simp; rfl)); intro ga hg_ w1 hbk hb0; have GA := zam (show w.heap.size ≤ ga by have := zbz HB.out; omega); have nHB := zam (zbt HB.out hb0); have BA := zam hbk; clear HB; have HB := nHB; clear nHB hg_ hbk hb0) | ((with_reducible refine zgd (N := 4) rfl ?_); refine box_event ?hg (N := 4) ?hd (cs := #[.int .i64 n]) (t := 2) ?hr ?_; (case hd => rfl); (case hg => rfl); (case hr => first | (go_simp; done) | (go_simp; rfl)); intro gn hg_ w1 hbk hb0; have GN := zam (show w.heap.size ≤ gn by have := zbz HB.out; omega); have NAN := zam (show ga ≠ gn by have := blk_lt BA.out; omega); have nA := zam (zkb BA.out hb0); have nHB := zam (zbt HB.out hb0); have BN := zam hbk; clear HB BA; have BA := nA; have HB := nHB; clear nHB nA hg_ hbk hb0) | ((with_reducible refine zgd (N := 5) rfl ?_); refine box_event ?hg (N := 5) ?hd (cs := #[.int .i64 d]) (t := 2) ?hr ?_; (case hd => rfl); (case hg => rfl); (case hr => first | (go_simp; done) | (go_simp; rfl)); intro gd hg_ w1 hbk hb0; have GD := zam (show w.heap.size ≤ gd by have := zbz HB.out; omega); have NAD := zam (show ga ≠ gd by have := blk_lt BA.out; omega); have NND := zam (show gn ≠ gd by have := blk_lt BN.out; omega); have nA := zam (zkb BA.out hb0); have nN := zam (zkb BN.out hb0); have nHB := zam (zbt HB.out hb0); have BD := zam hbk; clear HB BA BN; have BA := nA; have BN := nN; have HB := nHB; clear nHB nA nN hg_ hbk hb0) | ((with_reducible refine zgd (N := 6) rfl ?_); refine box_event ?hg (N := 6) ?hd (cs := #[.int .i64 0, .int .i64 0]) (t := 32) ?hr ?_; (case hd => rfl); (case hg => rfl); (case hr => first | (go_simp; done) | (go_simp; rfl)); intro gr hg_ w1 hbk hb0; have GR := zam (show w.heap.size ≤ gr by have := zbz HB.out; omega); have NAR := zam (show ga ≠ gr by have := blk_lt BA.out; omega); have NNR := zam (show gn ≠ gr by have := blk_lt BN.out; omega); have NDR := zam (show gd ≠ gr by have := blk_lt BD.out; omega); have nA := zam (zkb BA.out hb0); have nN := zam (zkb BN.out hb0); have nD := zam (zkb BD.out hb0); have nHB := zam (zbt HB.out hb0); have BR := zam hbk; clear HB BA BN BD; have BA := nA; have BN := nN; have BD := nD; have HB := nHB; clear nHB nA nN nD hg_ hbk hb0; have hzA0 := (zkc BA.out 0).trans rfl; have hfA0 := zkz BA.out 0; have hzA1 := (zkc BA.out 1).trans rfl; have hfA1 := zkz BA.out 1; have hzN0 := (zkc BN.out 0).trans rfl; have hfN0 := zkz BN.out 0; have hzD0 := (zkc BD.out 0).trans rfl; have hfD0 := zkz BD.out 0; have hzR0 := (zkc BR.out 0).trans rfl; have hfR0 := zkz BR.out 0; have hzR1 := (zkc BR.out 1).trans rfl; have hfR1 := zkz BR.out 1) | ((with_reducible refine zgd (N := 10) rfl ?_); refine Kd.R_lit k32 _ 32 ?hg (N := 10) ?hd (xs := ([(⟨a0, a1⟩ : S32)] : List S32)) (inner := [.int .i64 a0, .int .i64 a1]) (ok := fun _ => True) (okp := fun _ => True) ?hr ?hp (fun _ hk => hk) trivial (Below.refl _ _) (Nat.le_refl _) (by simp) ?_; (case hd => rfl); (case hg => rfl); (case hr => first | (go_simp; done) | (go_simp; rfl)); (case hp => exact (Reps.c2 (show Kd.M k32 _ _ _ (⟨a0, a1⟩ : S32) [.int .i64 a0, .int .i64 a1] from (k32_mkM _ _ _ (⟨a0, a1⟩ : S32))) (Reps.none _ _))); intro v1 w1 ho hb hg_ hnew_; clear hg_ hnew_; obtain ⟨A5, c5, rfl, hl5, hC5⟩ := Kd.R_reads ho; have HL5 := zam hl5; have HC5 := zam hC5; clear ho hl5 hC5; (try clear hzA0 hfA0 hzA1 hfA1 hzN0 hfN0 hzD0 hfD0 hzR0 hfR0 hzR1 hfR1); have nA := zam (zkb BA.out hb); have nN := zam (zkb BN.out hb); have nD := zam (zkb BD.out hb); have nR := zam (zkb BR.out hb); have nHB := zam (zbt HB.out hb); clear HB BA BN BD BR hb; have BA := nA; have BN := nN; have BD := nD; have BR := nR; have HB := nHB; clear nHB nA nN nD nR; have hzA0 := (zkc BA.out 0).trans rfl; have hfA0 := zkz BA.out 0; have hzA1 := (zkc BA.out 1).trans rfl; have hfA1 := zkz BA.out 1; have hzN0 := (zkc BN.out 0).trans rfl; have hfN0 := zkz BN.out 0; have hzD0 := (zkc BD.out 0).trans rfl; have hfD0 := zkz BD.out 0; have hzR0 := (zkc BR.out 0).trans rfl; have hfR0 := zkz BR.out 0; have hzR1 := (zkc BR.out 1).trans rfl; have hfR1 := zkz BR.out 1) | (go_at_call 80; (refine (bound_check.calls k A5 c5 [(⟨a0, a1⟩ : S32)] er _ HC5.out HL5.out EC.out).mono ?_); rintro e w2 ⟨rfl, hb⟩; (try clear hzA0 hfA0 hzA1 hfA1 hzN0 hfN0 hzD0 hfD0 hzR0 hfR0 hzR1 hfR1); have nA := zam (zkb BA.out hb); have nN := zam (zkb BN.out hb); have nD := zam (zkb BD.out hb); have nR := zam (zkb BR.out hb); have nHB := zam (zbt HB.out hb); clear HB BA BN BD BR hb; have BA := nA; have BN := nN; have BD := nD; have BR := nR; have HB := nHB; clear nHB nA nN nD nR; have hzA0 := (zkc BA.out 0).trans rfl; have hfA0 := zkz BA.out 0; have hzA1 := (zkc BA.out 1).trans rfl; have hfA1 := zkz BA.out 1; have hzN0 := (zkc BN.out 0).trans rfl; have hfN0 := zkz BN.out 0; have hzD0 := (zkc BD.out 0).trans rfl; have hfD0 := zkz BD.out 0; have hzR0 := (zkc BR.out 0).trans rfl; have hfR0 := zkz BR.out 0; have hzR1 := (zkc BR.out 1).trans rfl; have hfR1 := zkz BR.out 1) | (go_at_call 84; (with_reducible refine (bound_amount.calls n am _ EA.out).mono ?_); rintro e w2 ⟨rfl, hb0_⟩; have hb := (by first | exact hb0_ | (obtain ⟨m_, rfl⟩ := hb0_; exact zbn (Below.refl _ _) m_) : Below _ _ _); clear hb0_; (try clear hzA0 hfA0 hzA1 hfA1 hzN0 hfN0 hzD0 hfD0 hzR0 hfR0 hzR1 hfR1); have nA := zam (zkb BA.out hb); have nN := zam (zkb BN.out hb); have nD := zam (zkb BD.out hb); have nR := zam (zkb BR.out hb); have nHB := zam (zbt HB.out hb); clear HB BA BN BD BR hb; have BA := nA; have BN := nN; have BD := nD; have BR := nR; have HB := nHB; clear nHB nA nN nD nR; have hzA0 := (zkc BA.out 0).trans rfl; have hfA0 := zkz BA.out 0; have hzA1 := (zkc BA.out 1).trans rfl; have hfA1 := zkz BA.out 1; have hzN0 := (zkc BN.out 0).trans rfl; have hfN0 := zkz BN.out 0; have hzD0 := (zkc BD.out 0).trans rfl; have hfD0 := zkz BD.out 0; have hzR0 := (zkc BR.out 0).trans rfl; have hfR0 := zkz BR.out 0; have hzR1 := (zkc BR.out 1).trans rfl; have hfR1 := zkz BR.out 1))
   refine zbr (results_ct rfl _ _ gr 32 #[.int .i64 0, .int .i64 0] (0, 0) _ rfl (by refine blk_put (cs := #[.int .i64 0, .int .i64 0]) ?_ 1 _ rfl; refine blk_put (cs := #[.int .i64 0, .int .i64 0]) ?_ 0 _ rfl; exact BR.out) Try.underlying32 rfl (by kernel_rfl)) rfl ?_
   exact ⟨rfl, zbs (zbs HB.out GR.out) GR.out⟩
  rw [if_neg c3] at h
  have c3b : decide (d < 1) = false := zdf c3
  clear c3
  by_cases c4 : d > 1073741824
  ·rw [if_pos c4] at h
   have c4b : decide (d > 1073741824) = true := zdt c4
   have c4c : decide (1073741824 < d) = true := zdt c4
   clear c4
   simp only [Option.some.injEq, Prod.mk.injEq] at h
   obtain ⟨rfl, rfl, rfl⟩ := h
   go_enter Try.func29, Try.ntmps29
   go_wp2_with (first | ((with_reducible refine zgd (N := 3) rfl ?_); refine box_event ?hg (N := 3) ?hd (cs := #[.int .i64 a0, .int .i64 a1]) (t := 32) ?hr ?_; (case hd => rfl); (case hg => rfl); (case hr => first | (go_simp; done) | (go_simp; rfl)); intro ga hg_ w1 hbk hb0; have GA := zam (show w.heap.size ≤ ga by have := zbz HB.out; omega); have nHB := zam (zbt HB.out hb0); have BA := zam hbk; clear HB; have HB := nHB; clear nHB hg_ hbk hb0) | ((with_reducible refine zgd (N := 4) rfl ?_); refine box_event ?hg (N := 4) ?hd (cs := #[.int .i64 n]) (t := 2) ?hr ?_; (case hd => rfl); (case hg => rfl); (case hr => first | (go_simp; done) | (go_simp; rfl)); intro gn hg_ w1 hbk hb0; have GN := zam (show w.heap.size ≤ gn by have := zbz HB.out; omega); have NAN := zam (show ga ≠ gn by have := blk_lt BA.out; omega); have nA := zam (zkb BA.out hb0); have nHB := zam (zbt HB.out hb0); have BN := zam hbk; clear HB BA; have BA := nA; have HB := nHB; clear nHB nA hg_ hbk hb0) | ((with_reducible refine zgd (N := 5) rfl ?_); refine box_event ?hg (N := 5) ?hd (cs := #[.int .i64 d]) (t := 2) ?hr ?_; (case hd => rfl); (case hg => rfl); (case hr => first | (go_simp; done) | (go_simp; rfl)); intro gd hg_ w1 hbk hb0; have GD := zam (show w.heap.size ≤ gd by have := zbz HB.out; omega); have NAD := zam (show ga ≠ gd by have := blk_lt BA.out; omega); have NND := zam (show gn ≠ gd by have := blk_lt BN.out; omega); have nA := zam (zkb BA.out hb0); have nN := zam (zkb BN.out hb0); have nHB := zam (zbt HB.out hb0); have BD := zam hbk; clear HB BA BN; have BA := nA; have BN := nN; have HB := nHB; clear nHB nA nN hg_ hbk hb0) | ((with_reducible refine zgd (N := 6) rfl ?_); refine box_event ?hg (N := 6) ?hd (cs := #[.int .i64 0, .int .i64 0]) (t := 32) ?hr ?_; (case hd => rfl); (case hg => rfl); (case hr => first | (go_simp; done) | (go_simp; rfl)); intro gr hg_ w1 hbk hb0; have GR := zam (show w.heap.size ≤ gr by have := zbz HB.out; omega); have NAR := zam (show ga ≠ gr by have := blk_lt BA.out; omega); have NNR := zam (show gn ≠ gr by have := blk_lt BN.out; omega); have NDR := zam (show gd ≠ gr by have := blk_lt BD.out; omega); have nA := zam (zkb BA.out hb0); have nN := zam (zkb BN.out hb0); have nD := zam (zkb BD.out hb0); have nHB := zam (zbt HB.out hb0); have BR := zam hbk; clear HB BA BN BD; have BA := nA; have BN := nN; have BD := nD; have HB := nHB; clear nHB nA nN nD hg_ hbk hb0; have hzA0 := (zkc BA.out 0).trans rfl; have hfA0 := zkz BA.out 0; have hzA1 := (zkc BA.out 1).trans rfl; have hfA1 := zkz BA.out 1; have hzN0 := (zkc BN.out 0).trans rfl; have hfN0 := zkz BN.out 0; have hzD0 := (zkc BD.out 0).trans rfl; have hfD0 := zkz BD.out 0; have hzR0 := (zkc BR.out 0).trans rfl; have hfR0 := zkz BR.out 0; have hzR1 := (zkc BR.out 1).trans rfl; have hfR1 := zkz BR.out 1) | ((with_reducible refine zgd (N := 10) rfl ?_); refine Kd.R_lit k32 _ 32 ?hg (N := 10) ?hd (xs := ([(⟨a0, a1⟩ : S32)] : List S32)) (inner := [.int .i64 a0, .int .i64 a1]) (ok := fun _ => True) (okp := fun _ => True) ?hr ?hp (fun _ hk => hk) trivial (Below.refl _ _) (Nat.le_refl _) (by simp) ?_; (case hd => rfl); (case hg => rfl); (case hr => first | (go_simp; done) | (go_simp; rfl)); (case hp => exact (Reps.c2 (show Kd.M k32 _ _ _ (⟨a0, a1⟩ : S32) [.int .i64 a0, .int .i64 a1] from (k32_mkM _ _ _ (⟨a0, a1⟩ : S32))) (Reps.none _ _))); intro v1 w1 ho hb hg_ hnew_; clear hg_ hnew_; obtain ⟨A5, c5, rfl, hl5, hC5⟩ := Kd.R_reads ho; have HL5 := zam hl5; have HC5 := zam hC5; clear ho hl5 hC5; (try clear hzA0 hfA0 hzA1 hfA1 hzN0 hfN0 hzD0 hfD0 hzR0 hfR0 hzR1 hfR1); have nA := zam (zkb BA.out hb); have nN := zam (zkb BN.out hb); have nD := zam (zkb BD.out hb); have nR := zam (zkb BR.out hb); have nHB := zam (zbt HB.out hb); clear HB BA BN BD BR hb; have BA := nA; have BN := nN; have BD := nD; have BR := nR; have HB := nHB; clear nHB nA nN nD nR; have hzA0 := (zkc BA.out 0).trans rfl; have hfA0 := zkz BA.out 0; have hzA1 := (zkc BA.out 1).trans rfl; have hfA1 := zkz BA.out 1; have hzN0 := (zkc BN.out 0).trans rfl; have hfN0 := zkz BN.out 0; have hzD0 := (zkc BD.out 0).trans rfl; have hfD0 := zkz BD.out 0; have hzR0 := (zkc BR.out 0).trans rfl; have hfR0 := zkz BR.out 0; have hzR1 := (zkc BR.out 1).trans rfl; have hfR1 := zkz BR.out 1) | (go_at_call 80; (refine (bound_check.calls k A5 c5 [(⟨a0, a1⟩ : S32)] er _ HC5.out HL5.out EC.out).mono ?_); rintro e w2 ⟨rfl, hb⟩; (try clear hzA0 hfA0 hzA1 hfA1 hzN0 hfN0 hzD0 hfD0 hzR0 hfR0 hzR1 hfR1); have nA := zam (zkb BA.out hb); have nN := zam (zkb BN.out hb); have nD := zam (zkb BD.out hb); have nR := zam (zkb BR.out hb); have nHB := zam (zbt HB.out hb); clear HB BA BN BD BR hb; have BA := nA; have BN := nN; have BD := nD; have BR := nR; have HB := nHB; clear nHB nA nN nD nR; have hzA0 := (zkc BA.out 0).trans rfl; have hfA0 := zkz BA.out 0; have hzA1 := (zkc BA.out 1).trans rfl; have hfA1 := zkz BA.out 1; have hzN0 := (zkc BN.out 0).trans rfl; have hfN0 := zkz BN.out 0; have hzD0 := (zkc BD.out 0).trans rfl; have hfD0 := zkz BD.out 0; have hzR0 := (zkc BR.out 0).trans rfl; have hfR0 := zkz BR.out 0; have hzR1 := (zkc BR.out 1).trans rfl; have hfR1 := zkz BR.out 1) | (go_at_call 84; (with_reducible refine (bound_amount.calls n am _ EA.out).mono ?_); rintro e w2 ⟨rfl, hb0_⟩; have hb := (by first | exact hb0_ | (obtain ⟨m_, rfl⟩ := hb0_; exact zbn (Below.refl _ _) m_) : Below _ _ _); clear hb0_; (try clear hzA0 hfA0 hzA1 hfA1 hzN0 hfN0 hzD0 hfD0 hzR0 hfR0 hzR1 hfR1); have nA := zam (zkb BA.out hb); have nN := zam (zkb BN.out hb); have nD := zam (zkb BD.out hb); have nR := zam (zkb BR.out hb); have nHB := zam (zbt HB.out hb); clear HB BA BN BD BR hb; have BA := nA; have BN := nN; have BD := nD; have BR := nR; have HB := nHB; clear nHB nA nN nD nR; have hzA0 := (zkc BA.out 0).trans rfl; have hfA0 := zkz BA.out 0; have hzA1 := (zkc BA.out 1).trans rfl; have hfA1 := zkz BA.out 1; have hzN0 := (zkc BN.out 0).trans rfl; have hfN0 := zkz BN.out 0; have hzD0 := (zkc BD.out 0).trans rfl; have hfD0 := zkz BD.out 0; have hzR0 := (zkc BR.out 0).trans rfl; have hfR0 := zkz BR.out 0; have hzR1 := (zkc BR.out 1).trans rfl; have hfR1 := zkz BR.out 1))
   refine zbr (results_ct rfl _ _ gr 32 #[.int .i64 0, .int .i64 0] (0, 0) _ rfl (by refine blk_put (cs := #[.int .i64 0, .int .i64 0]) ?_ 1 _ rfl; refine blk_put (cs := #[.int .i64 0, .int .i64 0]) ?_ 0 _ rfl; exact BR.out) Try.underlying32 rfl (by kernel_rfl)) rfl ?_
   exact ⟨rfl, zbs (zbs HB.out GR.out) GR.out⟩
  rw [if_neg c4] at h
  have c4b : decide (d > 1073741824) = false := zdf c4
  have c4c : decide (1073741824 < d) = false := zdf c4
  clear c4
  by_cases c5 : n = -9223372036854775808
  ·rw [if_pos c5] at h
   have c5b : (n == -9223372036854775808) = true := beq_iff_eq.mpr c5
   clear c5
   simp only [Option.some.injEq, Prod.mk.injEq] at h
   obtain ⟨rfl, rfl, rfl⟩ := h
   go_enter Try.func29, Try.ntmps29
   go_wp2_with (first | ((with_reducible refine zgd (N := 3) rfl ?_); refine box_event ?hg (N := 3) ?hd (cs := #[.int .i64 a0, .int .i64 a1]) (t := 32) ?hr ?_; (case hd => rfl); (case hg => rfl); (case hr => first | (go_simp; done) | (go_simp; rfl)); intro ga hg_ w1 hbk hb0; have GA := zam (show w.heap.size ≤ ga by have := zbz HB.out; omega); have nHB := zam (zbt HB.out hb0); have BA := zam hbk; clear HB; have HB := nHB; clear nHB hg_ hbk hb0) | ((with_reducible refine zgd (N := 4) rfl ?_); refine box_event ?hg (N := 4) ?hd (cs := #[.int .i64 n]) (t := 2) ?hr ?_; (case hd => rfl); (case hg => rfl); (case hr => first | (go_simp; done) | (go_simp; rfl)); intro gn hg_ w1 hbk hb0; have GN := zam (show w.heap.size ≤ gn by have := zbz HB.out; omega); have NAN := zam (show ga ≠ gn by have := blk_lt BA.out; omega); have nA := zam (zkb BA.out hb0); have nHB := zam (zbt HB.out hb0); have BN := zam hbk; clear HB BA; have BA := nA; have HB := nHB; clear nHB nA hg_ hbk hb0) | ((with_reducible refine zgd (N := 5) rfl ?_); refine box_event ?hg (N := 5) ?hd (cs := #[.int .i64 d]) (t := 2) ?hr ?_; (case hd => rfl); (case hg => rfl); (case hr => first | (go_simp; done) | (go_simp; rfl)); intro gd hg_ w1 hbk hb0; have GD := zam (show w.heap.size ≤ gd by have := zbz HB.out; omega); have NAD := zam (show ga ≠ gd by have := blk_lt BA.out; omega); have NND := zam (show gn ≠ gd by have := blk_lt BN.out; omega); have nA := zam (zkb BA.out hb0); have nN := zam (zkb BN.out hb0); have nHB := zam (zbt HB.out hb0); have BD := zam hbk; clear HB BA BN; have BA := nA; have BN := nN; have HB := nHB; clear nHB nA nN hg_ hbk hb0) | ((with_reducible refine zgd (N := 6) rfl ?_); refine box_event ?hg (N := 6) ?hd (cs := #[.int .i64 0, .int .i64 0]) (t := 32) ?hr ?_; (case hd => rfl); (case hg => rfl); (case hr => first | (go_simp; done) | (go_simp; rfl)); intro gr hg_ w1 hbk hb0; have GR := zam (show w.heap.size ≤ gr by have := zbz HB.out; omega); have NAR := zam (show ga ≠ gr by have := blk_lt BA.out; omega); have NNR := zam (show gn ≠ gr by have := blk_lt BN.out; omega); have NDR := zam (show gd ≠ gr by have := blk_lt BD.out; omega); have nA := zam (zkb BA.out hb0); have nN := zam (zkb BN.out hb0); have nD := zam (zkb BD.out hb0); have nHB := zam (zbt HB.out hb0); have BR := zam hbk; clear HB BA BN BD; have BA := nA; have BN := nN; have BD := nD; have HB := nHB; clear nHB nA nN nD hg_ hbk hb0; have hzA0 := (zkc BA.out 0).trans rfl; have hfA0 := zkz BA.out 0; have hzA1 := (zkc BA.out 1).trans rfl; have hfA1 := zkz BA.out 1; have hzN0 := (zkc BN.out 0).trans rfl; have hfN0 := zkz BN.out 0; have hzD0 := (zkc BD.out 0).trans rfl; have hfD0 := zkz BD.out 0; have hzR0 := (zkc BR.out 0).trans rfl; have hfR0 := zkz BR.out 0; have hzR1 := (zkc BR.out 1).trans rfl; have hfR1 := zkz BR.out 1) | ((with_reducible refine zgd (N := 10) rfl ?_); refine Kd.R_lit k32 _ 32 ?hg (N := 10) ?hd (xs := ([(⟨a0, a1⟩ : S32)] : List S32)) (inner := [.int .i64 a0, .int .i64 a1]) (ok := fun _ => True) (okp := fun _ => True) ?hr ?hp (fun _ hk => hk) trivial (Below.refl _ _) (Nat.le_refl _) (by simp) ?_; (case hd => rfl); (case hg => rfl); (case hr => first | (go_simp; done) | (go_simp; rfl)); (case hp => exact (Reps.c2 (show Kd.M k32 _ _ _ (⟨a0, a1⟩ : S32) [.int .i64 a0, .int .i64 a1] from (k32_mkM _ _ _ (⟨a0, a1⟩ : S32))) (Reps.none _ _))); intro v1 w1 ho hb hg_ hnew_; clear hg_ hnew_; obtain ⟨A5, c5, rfl, hl5, hC5⟩ := Kd.R_reads ho; have HL5 := zam hl5; have HC5 := zam hC5; clear ho hl5 hC5; (try clear hzA0 hfA0 hzA1 hfA1 hzN0 hfN0 hzD0 hfD0 hzR0 hfR0 hzR1 hfR1); have nA := zam (zkb BA.out hb); have nN := zam (zkb BN.out hb); have nD := zam (zkb BD.out hb); have nR := zam (zkb BR.out hb); have nHB := zam (zbt HB.out hb); clear HB BA BN BD BR hb; have BA := nA; have BN := nN; have BD := nD; have BR := nR; have HB := nHB; clear nHB nA nN nD nR; have hzA0 := (zkc BA.out 0).trans rfl; have hfA0 := zkz BA.out 0; have hzA1 := (zkc BA.out 1).trans rfl; have hfA1 := zkz BA.out 1; have hzN0 := (zkc BN.out 0).trans rfl; have hfN0 := zkz BN.out 0; have hzD0 := (zkc BD.out 0).trans rfl; have hfD0 := zkz BD.out 0; have hzR0 := (zkc BR.out 0).trans rfl; have hfR0 := zkz BR.out 0; have hzR1 := (zkc BR.out 1).trans rfl; have hfR1 := zkz BR.out 1) | (go_at_call 80; (refine (bound_check.calls k A5 c5 [(⟨a0, a1⟩ : S32)] er _ HC5.out HL5.out EC.out).mono ?_); rintro e w2 ⟨rfl, hb⟩; (try clear hzA0 hfA0 hzA1 hfA1 hzN0 hfN0 hzD0 hfD0 hzR0 hfR0 hzR1 hfR1); have nA := zam (zkb BA.out hb); have nN := zam (zkb BN.out hb); have nD := zam (zkb BD.out hb); have nR := zam (zkb BR.out hb); have nHB := zam (zbt HB.out hb); clear HB BA BN BD BR hb; have BA := nA; have BN := nN; have BD := nD; have BR := nR; have HB := nHB; clear nHB nA nN nD nR; have hzA0 := (zkc BA.out 0).trans rfl; have hfA0 := zkz BA.out 0; have hzA1 := (zkc BA.out 1).trans rfl; have hfA1 := zkz BA.out 1; have hzN0 := (zkc BN.out 0).trans rfl; have hfN0 := zkz BN.out 0; have hzD0 := (zkc BD.out 0).trans rfl; have hfD0 := zkz BD.out 0; have hzR0 := (zkc BR.out 0).trans rfl; have hfR0 := zkz BR.out 0; have hzR1 := (zkc BR.out 1).trans rfl; have hfR1 := zkz BR.out 1) | (go_at_call 84; (with_reducible refine (bound_amount.calls n am _ EA.out).mono ?_); rintro e w2 ⟨rfl, hb0_⟩; have hb := (by first | exact hb0_ | (obtain ⟨m_, rfl⟩ := hb0_; exact zbn (Below.refl _ _) m_) : Below _ _ _); clear hb0_; (try clear hzA0 hfA0 hzA1 hfA1 hzN0 hfN0 hzD0 hfD0 hzR0 hfR0 hzR1 hfR1); have nA := zam (zkb BA.out hb); have nN := zam (zkb BN.out hb); have nD := zam (zkb BD.out hb); have nR := zam (zkb BR.out hb); have nHB := zam (zbt HB.out hb); clear HB BA BN BD BR hb; have BA := nA; have BN := nN; have BD := nD; have BR := nR; have HB := nHB; clear nHB nA nN nD nR; have hzA0 := (zkc BA.out 0).trans rfl; have hfA0 := zkz BA.out 0; have hzA1 := (zkc BA.out 1).trans rfl; have hfA1 := zkz BA.out 1; have hzN0 := (zkc BN.out 0).trans rfl; have hfN0 := zkz BN.out 0; have hzD0 := (zkc BD.out 0).trans rfl; have hfD0 := zkz BD.out 0; have hzR0 := (zkc BR.out 0).trans rfl; have hfR0 := zkz BR.out 0; have hzR1 := (zkc BR.out 1).trans rfl; have hfR1 := zkz BR.out 1))
   refine zbr (results_ct rfl _ _ gr 32 #[.int .i64 0, .int .i64 0] (0, 0) _ rfl (by refine blk_put (cs := #[.int .i64 0, .int .i64 0]) ?_ 1 _ rfl; refine blk_put (cs := #[.int .i64 0, .int .i64 0]) ?_ 0 _ rfl; exact BR.out) Try.underlying32 rfl (by kernel_rfl)) rfl ?_
   exact ⟨rfl, zbs (zbs HB.out GR.out) GR.out⟩
  rw [if_neg c5] at h
  have c5b : (n == -9223372036854775808) = false := beq_eq_false_iff_ne.mpr c5
  clear c5
  replace h := Option.bind_eq_some_iff.mp h
  obtain ⟨lo, el, h⟩ := h
  replace h := Option.bind_eq_some_iff.mp h
  obtain ⟨hi, eh, h⟩ := h
  replace h := Option.bind_eq_some_iff.mp h
  obtain ⟨m, em, h⟩ := h
  replace h := Option.bind_eq_some_iff.mp h
  obtain ⟨x, ex, h⟩ := h
  have QL := zam el
  have QH := zam eh
  have EM := zam em
  have EX := zam ex
  have EO := zam h
  clear el eh em ex h
  go_enter Try.func29, Try.ntmps29
  go_wp2_with (first | ((with_reducible refine zgd (N := 3) rfl ?_); refine box_event ?hg (N := 3) ?hd (cs := #[.int .i64 a0, .int .i64 a1]) (t := 32) ?hr ?_; (case hd => rfl); (case hg => rfl); (case hr => first | (go_simp; done) | (go_simp; rfl)); intro ga hg_ w1 hbk hb0; have GA := zam (show w.heap.size ≤ ga by have := zbz HB.out; omega); have nHB := zam (zbt HB.out hb0); have BA := zam hbk; clear HB; have HB := nHB; clear nHB hg_ hbk hb0) | ((with_reducible refine zgd (N := 4) rfl ?_); refine box_event ?hg (N := 4) ?hd (cs := #[.int .i64 n]) (t := 2) ?hr ?_; (case hd => rfl); (case hg => rfl); (case hr => first | (go_simp; done) | (go_simp; rfl)); intro gn hg_ w1 hbk hb0; have GN := zam (show w.heap.size ≤ gn by have := zbz HB.out; omega); have NAN := zam (show ga ≠ gn by have := blk_lt BA.out; omega); have nA := zam (zkb BA.out hb0); have nHB := zam (zbt HB.out hb0); have BN := zam hbk; clear HB BA; have BA := nA; have HB := nHB; clear nHB nA hg_ hbk hb0) | ((with_reducible refine zgd (N := 5) rfl ?_); refine box_event ?hg (N := 5) ?hd (cs := #[.int .i64 d]) (t := 2) ?hr ?_; (case hd => rfl); (case hg => rfl); (case hr => first | (go_simp; done) | (go_simp; rfl)); intro gd hg_ w1 hbk hb0; have GD := zam (show w.heap.size ≤ gd by have := zbz HB.out; omega); have NAD := zam (show ga ≠ gd by have := blk_lt BA.out; omega); have NND := zam (show gn ≠ gd by have := blk_lt BN.out; omega); have nA := zam (zkb BA.out hb0); have nN := zam (zkb BN.out hb0); have nHB := zam (zbt HB.out hb0); have BD := zam hbk; clear HB BA BN; have BA := nA; have BN := nN; have HB := nHB; clear nHB nA nN hg_ hbk hb0) | ((with_reducible refine zgd (N := 6) rfl ?_); refine box_event ?hg (N := 6) ?hd (cs := #[.int .i64 0, .int .i64 0]) (t := 32) ?hr ?_; (case hd => rfl); (case hg => rfl); (case hr => first | (go_simp; done) | (go_simp; rfl)); intro gr hg_ w1 hbk hb0; have GR := zam (show w.heap.size ≤ gr by have := zbz HB.out; omega); have NAR := zam (show ga ≠ gr by have := blk_lt BA.out; omega); have NNR := zam (show gn ≠ gr by have := blk_lt BN.out; omega); have NDR := zam (show gd ≠ gr by have := blk_lt BD.out; omega); have nA := zam (zkb BA.out hb0); have nN := zam (zkb BN.out hb0); have nD := zam (zkb BD.out hb0); have nHB := zam (zbt HB.out hb0); have BR := zam hbk; clear HB BA BN BD; have BA := nA; have BN := nN; have BD := nD; have HB := nHB; clear nHB nA nN nD hg_ hbk hb0; have hzA0 := (zkc BA.out 0).trans rfl; have hfA0 := zkz BA.out 0; have hzA1 := (zkc BA.out 1).trans rfl; have hfA1 := zkz BA.out 1; have hzN0 := (zkc BN.out 0).trans rfl; have hfN0 := zkz BN.out 0; have hzD0 := (zkc BD.out 0).trans rfl; have hfD0 := zkz BD.out 0; have hzR0 := (zkc BR.out 0).trans rfl; have hfR0 := zkz BR.out 0; have hzR1 := (zkc BR.out 1).trans rfl; have hfR1 := zkz BR.out 1) | ((with_reducible refine zgd (N := 10) rfl ?_); refine Kd.R_lit k32 _ 32 ?hg (N := 10) ?hd (xs := ([(⟨a0, a1⟩ : S32)] : List S32)) (inner := [.int .i64 a0, .int .i64 a1]) (ok := fun _ => True) (okp := fun _ => True) ?hr ?hp (fun _ hk => hk) trivial (Below.refl _ _) (Nat.le_refl _) (by simp) ?_; (case hd => rfl); (case hg => rfl); (case hr => first | (go_simp; done) | (go_simp; rfl)); (case hp => exact (Reps.c2 (show Kd.M k32 _ _ _ (⟨a0, a1⟩ : S32) [.int .i64 a0, .int .i64 a1] from (k32_mkM _ _ _ (⟨a0, a1⟩ : S32))) (Reps.none _ _))); intro v1 w1 ho hb hg_ hnew_; clear hg_ hnew_; obtain ⟨A5, c5, rfl, hl5, hC5⟩ := Kd.R_reads ho; have HL5 := zam hl5; have HC5 := zam hC5; clear ho hl5 hC5; (try clear hzA0 hfA0 hzA1 hfA1 hzN0 hfN0 hzD0 hfD0 hzR0 hfR0 hzR1 hfR1); have nA := zam (zkb BA.out hb); have nN := zam (zkb BN.out hb); have nD := zam (zkb BD.out hb); have nR := zam (zkb BR.out hb); have nHB := zam (zbt HB.out hb); clear HB BA BN BD BR hb; have BA := nA; have BN := nN; have BD := nD; have BR := nR; have HB := nHB; clear nHB nA nN nD nR; have hzA0 := (zkc BA.out 0).trans rfl; have hfA0 := zkz BA.out 0; have hzA1 := (zkc BA.out 1).trans rfl; have hfA1 := zkz BA.out 1; have hzN0 := (zkc BN.out 0).trans rfl; have hfN0 := zkz BN.out 0; have hzD0 := (zkc BD.out 0).trans rfl; have hfD0 := zkz BD.out 0; have hzR0 := (zkc BR.out 0).trans rfl; have hfR0 := zkz BR.out 0; have hzR1 := (zkc BR.out 1).trans rfl; have hfR1 := zkz BR.out 1) | (go_at_call 80; (refine (bound_check.calls k A5 c5 [(⟨a0, a1⟩ : S32)] er _ HC5.out HL5.out EC.out).mono ?_); rintro e w2 ⟨rfl, hb⟩; (try clear hzA0 hfA0 hzA1 hfA1 hzN0 hfN0 hzD0 hfD0 hzR0 hfR0 hzR1 hfR1); have nA := zam (zkb BA.out hb); have nN := zam (zkb BN.out hb); have nD := zam (zkb BD.out hb); have nR := zam (zkb BR.out hb); have nHB := zam (zbt HB.out hb); clear HB BA BN BD BR hb; have BA := nA; have BN := nN; have BD := nD; have BR := nR; have HB := nHB; clear nHB nA nN nD nR; have hzA0 := (zkc BA.out 0).trans rfl; have hfA0 := zkz BA.out 0; have hzA1 := (zkc BA.out 1).trans rfl; have hfA1 := zkz BA.out 1; have hzN0 := (zkc BN.out 0).trans rfl; have hfN0 := zkz BN.out 0; have hzD0 := (zkc BD.out 0).trans rfl; have hfD0 := zkz BD.out 0; have hzR0 := (zkc BR.out 0).trans rfl; have hfR0 := zkz BR.out 0; have hzR1 := (zkc BR.out 1).trans rfl; have hfR1 := zkz BR.out 1) | (go_at_call 84; (with_reducible refine (bound_amount.calls n am _ EA.out).mono ?_); rintro e w2 ⟨rfl, hb0_⟩; have hb := (by first | exact hb0_ | (obtain ⟨m_, rfl⟩ := hb0_; exact zbn (Below.refl _ _) m_) : Below _ _ _); clear hb0_; (try clear hzA0 hfA0 hzA1 hfA1 hzN0 hfN0 hzD0 hfD0 hzR0 hfR0 hzR1 hfR1); have nA := zam (zkb BA.out hb); have nN := zam (zkb BN.out hb); have nD := zam (zkb BD.out hb); have nR := zam (zkb BR.out hb); have nHB := zam (zbt HB.out hb); clear HB BA BN BD BR hb; have BA := nA; have BN := nN; have BD := nD; have BR := nR; have HB := nHB; clear nHB nA nN nD nR; have hzA0 := (zkc BA.out 0).trans rfl; have hfA0 := zkz BA.out 0; have hzA1 := (zkc BA.out 1).trans rfl; have hfA1 := zkz BA.out 1; have hzN0 := (zkc BN.out 0).trans rfl; have hfN0 := zkz BN.out 0; have hzD0 := (zkc BD.out 0).trans rfl; have hfD0 := zkz BD.out 0; have hzR0 := (zkc BR.out 0).trans rfl; have hfR0 := zkz BR.out 0; have hzR1 := (zkc BR.out 1).trans rfl; have hfR1 := zkz BR.out 1) | (go_at_call 85; (with_reducible refine (bound_outward.calls k #[.pointer (some ⟨ga, 0, none⟩), .pointer (some ⟨gn, 0, none⟩), .pointer (some ⟨gd, 0, none⟩)] Try.func86 (by kernel_rfl) rfl lo hi m x _ ?hq EM.out EX.out).mono ?_); (case hq => exact ScaleQ BA.out BN.out BD.out QL.out QH.out); rintro e w2 ⟨rfl, hb⟩; (try clear hzA0 hfA0 hzA1 hfA1 hzN0 hfN0 hzD0 hfD0 hzR0 hfR0 hzR1 hfR1); have nA := zam (zkb BA.out hb); have nN := zam (zkb BN.out hb); have nD := zam (zkb BD.out hb); have nR := zam (zkb BR.out hb); have nHB := zam (zbt HB.out hb); clear HB BA BN BD BR hb; have BA := nA; have BN := nN; have BD := nD; have BR := nR; have HB := nHB; clear nHB nA nN nD nR; have hzA0 := (zkc BA.out 0).trans rfl; have hfA0 := zkz BA.out 0; have hzA1 := (zkc BA.out 1).trans rfl; have hfA1 := zkz BA.out 1; have hzN0 := (zkc BN.out 0).trans rfl; have hfN0 := zkz BN.out 0; have hzD0 := (zkc BD.out 0).trans rfl; have hfD0 := zkz BD.out 0; have hzR0 := (zkc BR.out 0).trans rfl; have hfR0 := zkz BR.out 0; have hzR1 := (zkc BR.out 1).trans rfl; have hfR1 := zkz BR.out 1) | (go_at_call 82; (with_reducible refine (bound_over.calls k m x r1 r2 r3 _ EO.out).mono ?_); rintro e w2 ⟨rfl, hb⟩; (try clear hzA0 hfA0 hzA1 hfA1 hzN0 hfN0 hzD0 hfD0 hzR0 hfR0 hzR1 hfR1); have nA := zam (zkb BA.out hb); have nN := zam (zkb BN.out hb); have nD := zam (zkb BD.out hb); have nR := zam (zkb BR.out hb); have nHB := zam (zbt HB.out hb); clear HB BA BN BD BR hb; have BA := nA; have BN := nN; have BD := nD; have BR := nR; have HB := nHB; clear nHB nA nN nD nR; have hzA0 := (zkc BA.out 0).trans rfl; have hfA0 := zkz BA.out 0; have hzA1 := (zkc BA.out 1).trans rfl; have hfA1 := zkz BA.out 1; have hzN0 := (zkc BN.out 0).trans rfl; have hfN0 := zkz BN.out 0; have hzD0 := (zkc BD.out 0).trans rfl; have hfD0 := zkz BD.out 0; have hzR0 := (zkc BR.out 0).trans rfl; have hfR0 := zkz BR.out 0; have hzR1 := (zkc BR.out 1).trans rfl; have hfR1 := zkz BR.out 1))
  refine zbr (results_ct rfl _ _ gr 32 #[.int .i64 r1, .int .i64 r2] (0, 0) _ rfl (by refine blk_put (cs := #[.int .i64 r1, .int .i64 0]) ?_ 1 _ rfl; refine blk_put (cs := #[.int .i64 0, .int .i64 0]) ?_ 0 _ rfl; exact BR.out) Try.underlying32 rfl (by kernel_rfl)) rfl ?_
  exact ⟨rfl, zbs (zbs HB.out GR.out) GR.out⟩
 rw [if_neg c1] at h
 have c1b0 : (er == 0) = false := beq_eq_false_iff_ne.mpr c1
 have c1b1 : (er != 0) = true := bne_iff_ne.mpr c1
 clear c1
 simp only [Option.some.injEq, Prod.mk.injEq] at h
 obtain ⟨rfl, rfl, rfl⟩ := h
 go_enter Try.func29, Try.ntmps29
 go_wp2_with (first | ((with_reducible refine zgd (N := 3) rfl ?_); refine box_event ?hg (N := 3) ?hd (cs := #[.int .i64 a0, .int .i64 a1]) (t := 32) ?hr ?_; (case hd => rfl); (case hg => rfl); (case hr => first | (go_simp; done) | (go_simp; rfl)); intro ga hg_ w1 hbk hb0; have GA := zam (show w.heap.size ≤ ga by have := zbz HB.out; omega); have nHB := zam (zbt HB.out hb0); have BA := zam hbk; clear HB; have HB := nHB; clear nHB hg_ hbk hb0) | ((with_reducible refine zgd (N := 4) rfl ?_); refine box_event ?hg (N := 4) ?hd (cs := #[.int .i64 n]) (t := 2) ?hr ?_; (case hd => rfl); (case hg => rfl); (case hr => first | (go_simp; done) | (go_simp; rfl)); intro gn hg_ w1 hbk hb0; have GN := zam (show w.heap.size ≤ gn by have := zbz HB.out; omega); have NAN := zam (show ga ≠ gn by have := blk_lt BA.out; omega); have nA := zam (zkb BA.out hb0); have nHB := zam (zbt HB.out hb0); have BN := zam hbk; clear HB BA; have BA := nA; have HB := nHB; clear nHB nA hg_ hbk hb0) | ((with_reducible refine zgd (N := 5) rfl ?_); refine box_event ?hg (N := 5) ?hd (cs := #[.int .i64 d]) (t := 2) ?hr ?_; (case hd => rfl); (case hg => rfl); (case hr => first | (go_simp; done) | (go_simp; rfl)); intro gd hg_ w1 hbk hb0; have GD := zam (show w.heap.size ≤ gd by have := zbz HB.out; omega); have NAD := zam (show ga ≠ gd by have := blk_lt BA.out; omega); have NND := zam (show gn ≠ gd by have := blk_lt BN.out; omega); have nA := zam (zkb BA.out hb0); have nN := zam (zkb BN.out hb0); have nHB := zam (zbt HB.out hb0); have BD := zam hbk; clear HB BA BN; have BA := nA; have BN := nN; have HB := nHB; clear nHB nA nN hg_ hbk hb0) | ((with_reducible refine zgd (N := 6) rfl ?_); refine box_event ?hg (N := 6) ?hd (cs := #[.int .i64 0, .int .i64 0]) (t := 32) ?hr ?_; (case hd => rfl); (case hg => rfl); (case hr => first | (go_simp; done) | (go_simp; rfl)); intro gr hg_ w1 hbk hb0; have GR := zam (show w.heap.size ≤ gr by have := zbz HB.out; omega); have NAR := zam (show ga ≠ gr by have := blk_lt BA.out; omega); have NNR := zam (show gn ≠ gr by have := blk_lt BN.out; omega); have NDR := zam (show gd ≠ gr by have := blk_lt BD.out; omega); have nA := zam (zkb BA.out hb0); have nN := zam (zkb BN.out hb0); have nD := zam (zkb BD.out hb0); have nHB := zam (zbt HB.out hb0); have BR := zam hbk; clear HB BA BN BD; have BA := nA; have BN := nN; have BD := nD; have HB := nHB; clear nHB nA nN nD hg_ hbk hb0; have hzA0 := (zkc BA.out 0).trans rfl; have hfA0 := zkz BA.out 0; have hzA1 := (zkc BA.out 1).trans rfl; have hfA1 := zkz BA.out 1; have hzN0 := (zkc BN.out 0).trans rfl; have hfN0 := zkz BN.out 0; have hzD0 := (zkc BD.out 0).trans rfl; have hfD0 := zkz BD.out 0; have hzR0 := (zkc BR.out 0).trans rfl; have hfR0 := zkz BR.out 0; have hzR1 := (zkc BR.out 1).trans rfl; have hfR1 := zkz BR.out 1) | ((with_reducible refine zgd (N := 10) rfl ?_); refine Kd.R_lit k32 _ 32 ?hg (N := 10) ?hd (xs := ([(⟨a0, a1⟩ : S32)] : List S32)) (inner := [.int .i64 a0, .int .i64 a1]) (ok := fun _ => True) (okp := fun _ => True) ?hr ?hp (fun _ hk => hk) trivial (Below.refl _ _) (Nat.le_refl _) (by simp) ?_; (case hd => rfl); (case hg => rfl); (case hr => first | (go_simp; done) | (go_simp; rfl)); (case hp => exact (Reps.c2 (show Kd.M k32 _ _ _ (⟨a0, a1⟩ : S32) [.int .i64 a0, .int .i64 a1] from (k32_mkM _ _ _ (⟨a0, a1⟩ : S32))) (Reps.none _ _))); intro v1 w1 ho hb hg_ hnew_; clear hg_ hnew_; obtain ⟨A5, c5, rfl, hl5, hC5⟩ := Kd.R_reads ho; have HL5 := zam hl5; have HC5 := zam hC5; clear ho hl5 hC5; (try clear hzA0 hfA0 hzA1 hfA1 hzN0 hfN0 hzD0 hfD0 hzR0 hfR0 hzR1 hfR1); have nA := zam (zkb BA.out hb); have nN := zam (zkb BN.out hb); have nD := zam (zkb BD.out hb); have nR := zam (zkb BR.out hb); have nHB := zam (zbt HB.out hb); clear HB BA BN BD BR hb; have BA := nA; have BN := nN; have BD := nD; have BR := nR; have HB := nHB; clear nHB nA nN nD nR; have hzA0 := (zkc BA.out 0).trans rfl; have hfA0 := zkz BA.out 0; have hzA1 := (zkc BA.out 1).trans rfl; have hfA1 := zkz BA.out 1; have hzN0 := (zkc BN.out 0).trans rfl; have hfN0 := zkz BN.out 0; have hzD0 := (zkc BD.out 0).trans rfl; have hfD0 := zkz BD.out 0; have hzR0 := (zkc BR.out 0).trans rfl; have hfR0 := zkz BR.out 0; have hzR1 := (zkc BR.out 1).trans rfl; have hfR1 := zkz BR.out 1) | (go_at_call 80; (refine (bound_check.calls k A5 c5 [(⟨a0, a1⟩ : S32)] er _ HC5.out HL5.out EC.out).mono ?_); rintro e w2 ⟨rfl, hb⟩; (try clear hzA0 hfA0 hzA1 hfA1 hzN0 hfN0 hzD0 hfD0 hzR0 hfR0 hzR1 hfR1); have nA := zam (zkb BA.out hb); have nN := zam (zkb BN.out hb); have nD := zam (zkb BD.out hb); have nR := zam (zkb BR.out hb); have nHB := zam (zbt HB.out hb); clear HB BA BN BD BR hb; have BA := nA; have BN := nN; have BD := nD; have BR := nR; have HB := nHB; clear nHB nA nN nD nR; have hzA0 := (zkc BA.out 0).trans rfl; have hfA0 := zkz BA.out 0; have hzA1 := (zkc BA.out 1).trans rfl; have hfA1 := zkz BA.out 1; have hzN0 := (zkc BN.out 0).trans rfl; have hfN0 := zkz BN.out 0; have hzD0 := (zkc BD.out 0).trans rfl; have hfD0 := zkz BD.out 0; have hzR0 := (zkc BR.out 0).trans rfl; have hfR0 := zkz BR.out 0; have hzR1 := (zkc BR.out 1).trans rfl; have hfR1 := zkz BR.out 1))
 refine zbr (results_ct rfl _ _ gr 32 #[.int .i64 0, .int .i64 0] (0, 0) _ rfl (by refine blk_put (cs := #[.int .i64 0, .int .i64 0]) ?_ 1 _ rfl; refine blk_put (cs := #[.int .i64 0, .int .i64 0]) ?_ 0 _ rfl; exact BR.out) Try.underlying32 rfl (by kernel_rfl)) rfl ?_
 exact ⟨rfl, zbs (zbs HB.out GR.out) GR.out⟩
def isobathref01_Grow.f (a0_0 : Int) (a0_1 : Int) (a1 : Int) : Option (Int × Int × Int) := (isobathref01_Valid.f a0_0 a0_1).bind fun t103 => (if t103 = true then ((isobathref01_Within.f a1 0 1073741824).bind fun t104 => (if t104 = true then ((isobathref01_result.f (wrap64 (a0_0 - a1)) (wrap64 (a0_1 + a1))).bind fun bt105 => (some (bt105.1, bt105.2.1, bt105.2.2))) else (some (0, 0, 3)))) else (some (0, 0, 2)))
mutual
def isobathref01_Line.j0 : Nat → Int → Int → Int → Bool → Int → Int → Int → Int → Option (Int × Int × Int)
 | 0, _, _, _, _, _, _, _, _ => none
 | k + 1, x0, x2, x4, x19, x102000, x102001, x103000, x103001 => if x19 = true then (some (0, 0, 2)) else (if x0 < 0 then (isobathref01_Line.j1 k x0 x2 x4 true x102000 x102001 x103000 x103001) else (if x2 > 1073741824 then (isobathref01_Line.j1 k x0 x2 x4 true x102000 x102001 x103000 x103001) else (if x0 ≥ x2 then (isobathref01_Line.j1 k x0 x2 x4 true x102000 x102001 x103000 x103001) else ((isobathref01_Within.f x4 x0 x2).bind fun t106 => (isobathref01_Line.j1 k x0 x2 x4 (!t106) x102000 x102001 x103000 x103001)))))
def isobathref01_Line.j1 : Nat → Int → Int → Int → Bool → Int → Int → Int → Int → Option (Int × Int × Int)
 | 0, _, _, _, _, _, _, _, _ => none
 | k + 1, x0, x2, x4, x38, x102000, x102001, x103000, x103001 => if x38 = true then (some (0, 0, 3)) else ((isobathref01_Down.f k (wrap64 ((wrap64 (x102000 * (wrap64 (x2 - x4)))) + (wrap64 (x103000 * (wrap64 (x4 - x0)))))) (wrap64 (x2 - x0))).bind fun t107 => ((isobathref01_Up.f k (wrap64 ((wrap64 (x102001 * (wrap64 (x2 - x4)))) + (wrap64 (x103001 * (wrap64 (x4 - x0)))))) (wrap64 (x2 - x0))).bind fun t108 => ((isobathref01_result.f t107 t108).bind fun bt109 => (some (bt109.1, bt109.2.1, bt109.2.2)))))
end
def isobathref01_Line.f (k : Nat) (a0 : Int) (a1_0 : Int) (a1_1 : Int) (a2 : Int) (a3_0 : Int) (a3_1 : Int) (a4 : Int) : Option (Int × Int × Int) := (isobathref01_Valid.f a1_0 a1_1).bind fun t104 => (if t104 = true then ((isobathref01_Valid.f a3_0 a3_1).bind fun t105 => (isobathref01_Line.j0 k a0 a2 a4 (!t105) a1_0 a1_1 a3_0 a3_1)) else (isobathref01_Line.j0 k a0 a2 a4 true a1_0 a1_1 a3_0 a3_1))
def isobathref01_Sqrt.l0 : Nat → Int → Int → Int → Option (Int)
 | 0, _, _, _ => none
 | k + 1, x0, x3, x4 => if x3 < x4 then (if (wrap64 ((wrap64 (Int.tdiv (wrap64 ((wrap64 (x3 + x4)) + 1)) 2)) * (wrap64 (Int.tdiv (wrap64 ((wrap64 (x3 + x4)) + 1)) 2)))) ≤ x0 then (isobathref01_Sqrt.l0 k x0 (wrap64 (Int.tdiv (wrap64 ((wrap64 (x3 + x4)) + 1)) 2)) x4) else (isobathref01_Sqrt.l0 k x0 x3 (wrap64 ((wrap64 (Int.tdiv (wrap64 ((wrap64 (x3 + x4)) + 1)) 2)) - 1)))) else (some x3)
def isobathref01_Sqrt.f (k : Nat) (a0 : Int) : Option (Int) := isobathref01_Sqrt.l0 k a0 0 2147483648
def isobathref01_SqrtUp.f (k : Nat) (a0 : Int) : Option (Int) := (isobathref01_Sqrt.f k a0).bind fun t101 => (if (wrap64 (t101 * t101)) < a0 then (some (wrap64 (t101 + 1))) else (some t101))
def isobathref01_Root.f (k : Nat) (a0_0 : Int) (a0_1 : Int) : Option (Int × Int × Int) := (isobathref01_Valid.f a0_0 a0_1).bind fun t103 => (if t103 = true then (if a0_0 < 0 then (some (0, 0, 3)) else ((isobathref01_Sqrt.f k a0_0).bind fun t104 => ((isobathref01_SqrtUp.f k a0_1).bind fun t105 => ((isobathref01_result.f t104 t105).bind fun bt106 => (some (bt106.1, bt106.2.1, bt106.2.2)))))) else (some (0, 0, 2)))
def isobathref01_Scale.j0 : Nat → Int → Int → Bool → Int → Int → Option (Int × Int × Int)
 | 0, _, _, _, _, _ => none
 | k + 1, x1, x2, x19, x102000, x102001 => if x19 = true then (some (0, 0, 3)) else ((isobathref01_Down.f k (wrap64 (x102000 * x1)) x2).bind fun t106 => ((isobathref01_Down.f k (wrap64 (x102001 * x1)) x2).bind fun t107 => ((isobathref01_Up.f k (wrap64 (x102000 * x1)) x2).bind fun t108 => ((isobathref01_Up.f k (wrap64 (x102001 * x1)) x2).bind fun t109 => ((isobathref01_result.f (mn t106 t107) (mx t108 t109)).bind fun bt110 => (some (bt110.1, bt110.2.1, bt110.2.2)))))))
def isobathref01_Scale.f (k : Nat) (a0_0 : Int) (a0_1 : Int) (a1 : Int) (a2 : Int) : Option (Int × Int × Int) := (isobathref01_Valid.f a0_0 a0_1).bind fun t103 => (if t103 = true then ((isobathref01_Within.f a1 (-1073741824) 1073741824).bind fun t104 => (if t104 = true then ((isobathref01_Within.f a2 1 1073741824).bind fun t105 => (isobathref01_Scale.j0 k a1 a2 (!t105) a0_0 a0_1)) else (isobathref01_Scale.j0 k a1 a2 true a0_0 a0_1))) else (some (0, 0, 2)))
def Bo.scale (a0 a1 n d : Int) : Int × Int × Int := if Bo.v a0 a1 then (if -1073741824 ≤ n ∧ n ≤ 1073741824 ∧ 1 ≤ d ∧ d ≤ 1073741824 then
 Bo.res (min (Bo.fl (a0 * n) d) (Bo.fl (a1 * n) d)) (max (Bo.cl (a0 * n) d) (Bo.cl (a1 * n) d)) else (0, 0, 3)) else (0, 0, 2)
theorem Bo.scale_b (a0 a1 n d : Int) (hn1 : -9223372036854775808 ≤ n) (hn2 : n ≤ 9223372036854775807) {k : Nat} (hk : 20 ≤ k) : bound_Scale.f k a0 a1 n d = some (Bo.scale a0 a1 n d) := by
 unfold bound_Scale.f Bo.scale bound_amount.f
 rw [Bo.check1 _ _ hk, Option.bind_some]
 by_cases h : Bo.v a0 a1
 ·obtain ⟨h1, h2, h3⟩ := id h
  rw [if_pos h, if_pos rfl, if_pos h, Option.bind_some, Bo.mxE]
  by_cases q : -1073741824 ≤ n ∧ n ≤ 1073741824 ∧ 1 ≤ d ∧ d ≤ 1073741824
  ·obtain ⟨q1, q2, q3, q4⟩ := id q
   have w : wrap64 (-n) = -n := wrap_id (by omega) (by omega)
   have m0 := Bo.mul_le (a := a0) (b := n) (by omega) (by omega) (by omega) (by omega)
   have m1 := Bo.mul_le (a := a1) (b := n) (by omega) (by omega) (by omega) (by omega)
   rw [w, if_neg (by omega), if_neg (by omega), if_neg (by omega), if_neg (by omega), if_pos q]
   unfold Bd.scale
   rw [Bo.mul_w (by omega) (by omega) (by omega) (by omega), Bo.mul_w (by omega) (by omega) (by omega) (by omega)]
   rw [Bo.div_f false (by omega) (by omega) (by omega) hk, Bo.div_f false (by omega) (by omega) (by omega) hk, Bo.div_f true (by omega) (by omega) (by omega) hk, Bo.div_f true (by omega) (by omega) (by omega) hk]
   simp only [Option.bind_some, Bool.false_eq_true, if_false, if_true]
   rw [Bo.min_f _ _ (by simp) hk, Option.bind_some, Bo.max_f _ _ (by simp) hk, Option.bind_some, Bo.over _ _ hk]
   rfl
  rw [if_neg q]
  by_cases e : n = -9223372036854775808
  ·subst e
   have w : wrap64 (- -9223372036854775808) = -9223372036854775808 := by unfold wrap64; omega
   rw [w, if_neg (by omega)]
   by_cases e1 : d < 1
   ·rw [if_pos e1]
   rw [if_neg e1]
   by_cases e2 : d > 1073741824
   ·rw [if_pos e2]
   rw [if_neg e2, if_pos rfl]
  have w : wrap64 (-n) = -n := wrap_id (by omega) (by omega)
  rw [w]
  by_cases e0 : max n (-n) > 1073741824
  ·rw [if_pos e0]
  rw [if_neg e0]
  by_cases e1 : d < 1
  ·rw [if_pos e1]
  rw [if_neg e1]
  by_cases e2 : d > 1073741824
  ·rw [if_pos e2]
  exact absurd (by omega) q
 rw [if_neg h, if_neg h]
 rfl
theorem Bo.scale_r (a0 a1 n d : Int) {k : Nat} (hk : 21 ≤ k) : isobathref01_Scale.f k a0 a1 n d = some (Bo.scale a0 a1 n d) := by
 obtain ⟨k, rfl⟩ : ∃ m, k = m + 1 := ⟨k - 1, by omega⟩
 unfold isobathref01_Scale.f Bo.scale
 rw [Bo.valid, Option.bind_some]
 simp only [isobathref01_Scale.j0, Bo.within, Option.bind_some, decide_eq_true_eq]
 by_cases h : Bo.v a0 a1
 ·obtain ⟨h1, h2, h3⟩ := id h
  rw [if_pos h, if_pos h]
  by_cases q : -1073741824 ≤ n ∧ n ≤ 1073741824
  ·rw [if_pos q]
   by_cases q2 : 1 ≤ d ∧ d ≤ 1073741824
   ·have m0 := Bo.mul_le (a := a0) (b := n) (by omega) (by omega) (by omega) (by omega)
    have m1 := Bo.mul_le (a := a1) (b := n) (by omega) (by omega) (by omega) (by omega)
    rw [zdt q2, if_neg (by simp), if_pos ⟨q.1, q.2, q2.1, q2.2⟩]
    rw [Bo.mul_w (by omega) (by omega) (by omega) (by omega), Bo.mul_w (by omega) (by omega) (by omega) (by omega)]
    rw [Bo.down_f (by omega) (by omega) (by omega) (by omega) (by omega) (by omega), Bo.down_f (by omega) (by omega) (by omega) (by omega) (by omega) (by omega), Bo.up_f (by omega) (by omega) (by omega) (by omega) (by omega) (by omega), Bo.up_f (by omega) (by omega) (by omega) (by omega) (by omega) (by omega)]
    simp only [Option.bind_some, Bo.mxE, Bo.mnE, Bo.result]
   rw [zdf q2, if_pos (by rfl), if_neg (fun h => q2 ⟨h.2.2.1, h.2.2.2⟩)]
  rw [if_neg q, if_pos trivial, if_neg (fun h => q ⟨h.1, h.2.1⟩)]
 rw [if_neg h, if_neg h]
theorem Bo.sq_lt {a b : Int} (h : 0 ≤ a) (h1 : a < b) : a * a < b * b := Int.lt_of_le_of_lt (Int.mul_le_mul_of_nonneg_left (show a ≤ b by omega) h) (Int.mul_lt_mul_of_pos_right h1 (by omega))
theorem Bo.root_is {n : Int} (h0 : 0 ≤ n) : 0 ≤ Rt.root n ∧ Rt.root n * Rt.root n ≤ n ∧ n < (Rt.root n + 1) * (Rt.root n + 1) := Rt.root_is h0
theorem Bo.root_le {n M : Int} (hM : 0 ≤ M) (h : n < (M + 1) * (M + 1)) (h0 : 0 ≤ n) : Rt.root n ≤ M := by
 have h1 := Bo.root_is h0
 have := Rt.lt_of_sq (a := Rt.root n) (b := M + 1) (by omega) (by omega)
 omega
theorem Bo.rootUp_le {n M : Int} (hM : 0 ≤ M) (h : n ≤ M * M) (h0 : 0 ≤ n) : 0 ≤ Rt.rootUp n ∧ Rt.rootUp n ≤ M := by
 have h1 := Bo.root_is h0
 unfold Rt.rootUp
 split
 ·next h2 =>
  have := Rt.lt_of_sq (a := Rt.root n) (b := M) hM (by omega)
  omega
 have h2 : M * M < (M + 1) * (M + 1) := Bo.sq_lt hM (by omega)
 have := Bo.root_le hM (by omega) h0
 omega
theorem Bo.rootUp_is {n : Int} (h0 : 0 ≤ n) : 0 ≤ Rt.rootUp n ∧ n ≤ Rt.rootUp n * Rt.rootUp n ∧ (0 < Rt.rootUp n → (Rt.rootUp n - 1) * (Rt.rootUp n - 1) < n) := by
 have h1 := Bo.root_is h0
 unfold Rt.rootUp
 split
 ·next h =>
  refine ⟨by omega, by omega, fun _ => ?_⟩
  rw [show Rt.root n + 1 - 1 = Rt.root n by omega]
  exact h
 next h =>
 refine ⟨by omega, by omega, fun hp => ?_⟩
 have : (Rt.root n - 1) * (Rt.root n - 1) < Rt.root n * Rt.root n := Bo.sq_lt (by omega) (by omega)
 omega
theorem Bo.root_b {n : Int} (h0 : 0 ≤ n) (h1 : n < 2305843009213693952) : bound_round_root.f false n = some (Rt.root n) := by
 unfold bound_round_root.f
 rw [if_pos ⟨h0, h1⟩, if_neg (by simp)]
theorem Bo.rootUp_b {n : Int} (h0 : 0 ≤ n) (h1 : n < 2305843009213693952) : bound_round_root.f true n = some (Rt.rootUp n) := by
 unfold bound_round_root.f
 rw [if_pos ⟨h0, h1⟩, if_pos rfl]
theorem Bo.sqrt_l0 {n : Int} (h0 : 0 ≤ n) : ∀ (d k : Nat) (lo hi : Int), 0 ≤ lo → lo ≤ hi → hi ≤ 2147483648 → hi - lo < 2 ^ d → d < k → lo * lo ≤ n → n < (hi + 1) * (hi + 1) → isobathref01_Sqrt.l0 k n lo hi = some (Rt.root n) := by
 intro d
 induction d with
 | zero =>
  intro k lo hi a b c e hk h1 h2
  obtain ⟨k, rfl⟩ : ∃ m, k = m + 1 := ⟨k - 1, by omega⟩
  have : hi = lo := by simp at e; omega
  subst this
  rw [isobathref01_Sqrt.l0, if_neg (by omega), Rt.root_of ⟨a, h1, h2⟩ h0]
 | succ d ih =>
  intro k lo hi a b c e hk h1 h2
  obtain ⟨k, rfl⟩ : ∃ m, k = m + 1 := ⟨k - 1, by omega⟩
  rw [isobathref01_Sqrt.l0]
  by_cases q : lo < hi
  ·rw [if_pos q]
   obtain ⟨m, hm⟩ : ∃ m, (lo + hi + 1) / 2 = m := ⟨_, rfl⟩
   have w1 : wrap64 (lo + hi) = lo + hi := wrap_id (by omega) (by omega)
   have w2 : wrap64 (lo + hi + 1) = lo + hi + 1 := wrap_id (by omega) (by omega)
   have w3 : wrap64 (Int.tdiv (lo + hi + 1) 2) = m := by
    rw [tdiv_pos (by omega), hm]
    exact wrap_id (by omega) (by omega)
   have hb : 0 ≤ m ∧ m ≤ 2147483648 := by omega
   have hq : m * m ≤ 2147483648 * 2147483648 := Int.mul_le_mul hb.2 hb.2 hb.1 (by omega)
   have hq0 : 0 ≤ m * m := Int.mul_nonneg hb.1 hb.1
   have w4 : wrap64 (m * m) = m * m := wrap_id (by omega) (by omega)
   have w5 : wrap64 (m - 1) = m - 1 := wrap_id (by omega) (by omega)
   have e2 : (2 : Int) ^ (d + 1) = 2 * 2 ^ d := by rw [Int.pow_succ]; omega
   rw [w1, w2, w3, w4, w5]
   by_cases p : m * m ≤ n
   ·rw [if_pos p]
    exact ih k m hi hb.1 (by omega) c (by omega) (by omega) p h2
   rw [if_neg p]
   refine ih k lo (m - 1) a (by omega) (by omega) (by omega) (by omega) h1 ?_
   rw [show m - 1 + 1 = m by omega]
   omega
  rw [if_neg q]
  have : hi = lo := by omega
  subst this
  rw [Rt.root_of ⟨a, h1, h2⟩ h0]
theorem Bo.sqrt_f {n : Int} (h0 : 0 ≤ n) (h1 : n ≤ 4611686018427387904) {k : Nat} (hk : 40 ≤ k) : isobathref01_Sqrt.f k n = some (Rt.root n) := by
 unfold isobathref01_Sqrt.f
 exact Bo.sqrt_l0 h0 32 k 0 2147483648 (by omega) (by omega) (by omega) (by decide) (by omega) (by omega) (by omega)
theorem Bo.sqrtUp_f {n : Int} (h0 : 0 ≤ n) (h1 : n ≤ 4611686018427387904) {k : Nat} (hk : 40 ≤ k) : isobathref01_SqrtUp.f k n = some (Rt.rootUp n) := by
 have hr := Bo.root_is h0
 have hm := Bo.root_le (M := 2147483648) (by omega) (by omega) h0
 unfold isobathref01_SqrtUp.f Rt.rootUp
 have w1 : wrap64 (Rt.root n * Rt.root n) = Rt.root n * Rt.root n := wrap_id (by have := Int.mul_nonneg hr.1 hr.1; omega) (by omega)
 have w2 : wrap64 (Rt.root n + 1) = Rt.root n + 1 := wrap_id (by omega) (by omega)
 rw [Bo.sqrt_f h0 h1 hk, Option.bind_some, w1, w2]
 split <;> rfl
def Bo.root (a0 a1 : Int) : Int × Int × Int := if Bo.v a0 a1 then (if a0 < 0 then (0, 0, 3) else (Rt.root a0, Rt.rootUp a1, 0)) else (0, 0, 2)
theorem Bo.root_res {a0 a1 : Int} (h : Bo.v a0 a1) (h0 : ¬ a0 < 0) : Bo.res (Rt.root a0) (Rt.rootUp a1) = (Rt.root a0, Rt.rootUp a1, 0) := by
 obtain ⟨h1, h2, h3⟩ := h
 have r0 := Bo.root_is (n := a0) (by omega)
 have r1 := Bo.rootUp_le (n := a1) (M := 1073741824) (by omega) (by omega) (by omega)
 have r2 := Bo.rootUp_is (n := a1) (by omega)
 have r3 : Rt.root a0 ≤ Rt.rootUp a1 := by
  have := Rt.lt_of_sq (a := Rt.root a0) (b := Rt.rootUp a1 + 1) (by omega) (by
   have : Rt.rootUp a1 * Rt.rootUp a1 < (Rt.rootUp a1 + 1) * (Rt.rootUp a1 + 1) := Bo.sq_lt (by omega) (by omega)
   omega)
  omega
 unfold Bo.res
 rw [if_pos (by unfold Bo.v; omega)]
theorem Bo.root_b2 (a0 a1 : Int) {k : Nat} (hk : 20 ≤ k) : bound_Root.f k a0 a1 = some (Bo.root a0 a1) := by
 unfold bound_Root.f Bo.root
 rw [Bo.check1 _ _ hk, Option.bind_some]
 by_cases h : Bo.v a0 a1
 ·rw [if_pos h, if_pos rfl, if_pos h]
  by_cases q : a0 < 0
  ·rw [if_pos q, if_pos q]
  obtain ⟨h1, h2, h3⟩ := id h
  rw [if_neg q, if_neg q, Bo.root_b (by omega) (by omega), Option.bind_some, Bo.rootUp_b (by omega) (by omega), Option.bind_some, Bo.over _ _ hk, Bo.root_res h q]
  rfl
 rw [if_neg h, if_neg h]
 rfl
theorem Bo.root_r (a0 a1 : Int) {k : Nat} (hk : 40 ≤ k) : isobathref01_Root.f k a0 a1 = some (Bo.root a0 a1) := by
 unfold isobathref01_Root.f Bo.root
 rw [Bo.valid, Option.bind_some]
 simp only [decide_eq_true_eq]
 by_cases h : Bo.v a0 a1
 ·rw [if_pos h, if_pos h]
  by_cases q : a0 < 0
  ·rw [if_pos q, if_pos q]
  obtain ⟨h1, h2, h3⟩ := id h
  rw [if_neg q, if_neg q, Bo.sqrt_f (by omega) (by omega) hk, Option.bind_some, Bo.sqrtUp_f (by omega) (by omega) hk, Option.bind_some, Bo.result, Bo.root_res h q]
  rfl
 rw [if_neg h, if_neg h]
def Bo.grow (a0 a1 n : Int) : Int × Int × Int := if Bo.v a0 a1 then (if 0 ≤ n ∧ n ≤ 1073741824 then Bo.res (a0 - n) (a1 + n) else (0, 0, 3)) else (0, 0, 2)
theorem Bo.grow_b (a0 a1 n : Int) {k : Nat} (hk : 20 ≤ k) : bound_Grow.f k a0 a1 n = some (Bo.grow a0 a1 n) := by
 unfold bound_Grow.f Bo.grow
 rw [Bo.check1 _ _ hk, Option.bind_some]
 by_cases h : Bo.v a0 a1
 ·obtain ⟨h1, h2, h3⟩ := id h
  rw [if_pos h, if_pos rfl, if_pos h]
  by_cases q : n < 0
  ·rw [if_pos q, if_neg (by omega)]
  rw [if_neg q]
  by_cases q2 : n > 1073741824
  ·rw [if_pos q2, if_neg (by omega)]
  rw [if_neg q2, if_pos (by omega), wrap_id (by omega) (by omega), wrap_id (by omega) (by omega), Bo.over _ _ hk]
  rfl
 rw [if_neg h, if_neg h]
 rfl
theorem Bo.grow_r (a0 a1 n : Int) : isobathref01_Grow.f a0 a1 n = some (Bo.grow a0 a1 n) := by
 unfold isobathref01_Grow.f Bo.grow
 rw [Bo.valid, Option.bind_some, Bo.within, Option.bind_some]
 simp only [decide_eq_true_eq]
 by_cases h : Bo.v a0 a1
 ·obtain ⟨h1, h2, h3⟩ := id h
  rw [if_pos h, if_pos h]
  by_cases q : 0 ≤ n ∧ n ≤ 1073741824
  ·rw [if_pos q, if_pos q, wrap_id (by omega) (by omega), wrap_id (by omega) (by omega), Bo.result]
   rfl
  rw [if_neg q, if_neg q]
 rw [if_neg h, if_neg h]
def Bo.line (t0 a0 a1 t1 b0 b1 t : Int) : Int × Int × Int := Bo.op2 a0 a1 b0 b1 (if 0 ≤ t0 ∧ t1 ≤ 1073741824 ∧ t0 < t1 ∧ t0 ≤ t ∧ t ≤ t1 then
 Bo.res (Bo.fl (a0 * (t1 - t) + b0 * (t - t0)) (t1 - t0)) (Bo.cl (a1 * (t1 - t) + b1 * (t - t0)) (t1 - t0)) else (0, 0, 3))
theorem Bo.line_b (t0 a0 a1 t1 b0 b1 t : Int) {k : Nat} (hk : 21 ≤ k) : bound_Line.f k t0 a0 a1 t1 b0 b1 t = some (Bo.line t0 a0 a1 t1 b0 b1 t) := by
 obtain ⟨k, rfl⟩ : ∃ m, k = m + 1 := ⟨k - 1, by omega⟩
 unfold bound_Line.f Bo.line Bo.op2
 simp only [bound_Line.j0]
 rw [Bo.check2 _ _ _ _ (by omega), Option.bind_some]
 by_cases h : Bo.v a0 a1 ∧ Bo.v b0 b1
 ·obtain ⟨⟨h1, h2, h3⟩, h4, h5, h6⟩ := id h
  rw [if_pos h, if_pos rfl, if_pos h]
  by_cases q0 : t0 < 0
  ·rw [if_pos q0, if_pos trivial, if_neg (by omega)]
  rw [if_neg q0]
  by_cases q1 : t1 > 1073741824
  ·rw [if_pos q1, if_pos trivial, if_neg (by omega)]
  rw [if_neg q1]
  by_cases q2 : t0 ≥ t1
  ·rw [if_pos q2, if_pos trivial, if_neg (by omega)]
  rw [if_neg q2]
  by_cases q3 : t < t0
  ·rw [if_pos q3, if_pos trivial, if_neg (by omega)]
  rw [if_neg q3]
  by_cases q4 : t > t1
  ·rw [zdt q4, if_pos rfl, if_neg (by omega)]
  have m0 := Bo.mul_le (a := a0) (b := t1 - t) (by omega) (by omega) (by omega) (by omega)
  have m1 := Bo.mul_le (a := a1) (b := t1 - t) (by omega) (by omega) (by omega) (by omega)
  have m2 := Bo.mul_le (a := b0) (b := t - t0) (by omega) (by omega) (by omega) (by omega)
  have m3 := Bo.mul_le (a := b1) (b := t - t0) (by omega) (by omega) (by omega) (by omega)
  have u0 : wrap64 (t1 - t) = t1 - t := wrap_id (by omega) (by omega)
  have u1 : wrap64 (t - t0) = t - t0 := wrap_id (by omega) (by omega)
  have u2 : wrap64 (t1 - t0) = t1 - t0 := wrap_id (by omega) (by omega)
  rw [zdf q4, if_neg (by simp), if_pos (by omega), u0, u1, u2, Bo.mul_w (by omega) (by omega) (by omega) (by omega), Bo.mul_w (by omega) (by omega) (by omega) (by omega), Bo.mul_w (by omega) (by omega) (by omega) (by omega), Bo.mul_w (by omega) (by omega) (by omega) (by omega)]
  have u3 : wrap64 (a0 * (t1 - t) + b0 * (t - t0)) = a0 * (t1 - t) + b0 * (t - t0) := wrap_id (by omega) (by omega)
  have u4 : wrap64 (a1 * (t1 - t) + b1 * (t - t0)) = a1 * (t1 - t) + b1 * (t - t0) := wrap_id (by omega) (by omega)
  rw [u3, u4, Bo.div_f false (by omega) (by omega) (by omega) (by omega), Option.bind_some, Bo.div_f true (by omega) (by omega) (by omega) (by omega), Option.bind_some, Bo.over _ _ (by omega)]
  rfl
 rw [if_neg h, if_neg h]
 rfl
theorem Bo.line_r (t0 a0 a1 t1 b0 b1 t : Int) {k : Nat} (hk : 22 ≤ k) : isobathref01_Line.f k t0 a0 a1 t1 b0 b1 t = some (Bo.line t0 a0 a1 t1 b0 b1 t) := by
 obtain ⟨k, rfl⟩ : ∃ m, k = m + 2 := ⟨k - 2, by omega⟩
 unfold isobathref01_Line.f Bo.line Bo.op2
 rw [Bo.both1 a0 a1 b0 b1 fun z => isobathref01_Line.j0 (k + 2) t0 t1 t z a0 a1 b0 b1]
 simp only [isobathref01_Line.j0, isobathref01_Line.j1]
 by_cases h : Bo.v a0 a1 ∧ Bo.v b0 b1
 ·obtain ⟨⟨h1, h2, h3⟩, h4, h5, h6⟩ := id h
  rw [if_pos h, if_neg (by simp), if_pos h]
  by_cases q0 : t0 < 0
  ·rw [if_pos q0, if_pos trivial, if_neg (by omega)]
  rw [if_neg q0]
  by_cases q1 : t1 > 1073741824
  ·rw [if_pos q1, if_pos trivial, if_neg (by omega)]
  rw [if_neg q1]
  by_cases q2 : t0 ≥ t1
  ·rw [if_pos q2, if_pos trivial, if_neg (by omega)]
  rw [if_neg q2, Bo.within, Option.bind_some]
  by_cases q4 : t0 ≤ t ∧ t ≤ t1
  ·have m0 := Bo.mul_le (a := a0) (b := t1 - t) (by omega) (by omega) (by omega) (by omega)
   have m1 := Bo.mul_le (a := a1) (b := t1 - t) (by omega) (by omega) (by omega) (by omega)
   have m2 := Bo.mul_le (a := b0) (b := t - t0) (by omega) (by omega) (by omega) (by omega)
   have m3 := Bo.mul_le (a := b1) (b := t - t0) (by omega) (by omega) (by omega) (by omega)
   have u0 : wrap64 (t1 - t) = t1 - t := wrap_id (by omega) (by omega)
   have u1 : wrap64 (t - t0) = t - t0 := wrap_id (by omega) (by omega)
   have u2 : wrap64 (t1 - t0) = t1 - t0 := wrap_id (by omega) (by omega)
   rw [zdt q4, if_neg (by simp), if_pos (by omega), u0, u1, u2, Bo.mul_w (by omega) (by omega) (by omega) (by omega), Bo.mul_w (by omega) (by omega) (by omega) (by omega), Bo.mul_w (by omega) (by omega) (by omega) (by omega), Bo.mul_w (by omega) (by omega) (by omega) (by omega)]
   have u3 : wrap64 (a0 * (t1 - t) + b0 * (t - t0)) = a0 * (t1 - t) + b0 * (t - t0) := wrap_id (by omega) (by omega)
   have u4 : wrap64 (a1 * (t1 - t) + b1 * (t - t0)) = a1 * (t1 - t) + b1 * (t - t0) := wrap_id (by omega) (by omega)
   rw [u3, u4, Bo.down_f (by omega) (by omega) (by omega) (by omega) (by omega) (by omega), Option.bind_some, Bo.up_f (by omega) (by omega) (by omega) (by omega) (by omega) (by omega), Option.bind_some, Bo.result]
   rfl
  rw [zdf q4, if_pos (by rfl), if_neg (by omega)]
 rw [if_neg h, if_neg h, if_pos trivial]
def bound_All_1.f (a0 : Int) (a1 : Int) : Option (Int) := some (mn a0 a1)
def bound_isAnswer.f (a0 : Int) : Option (Bool) := if a0 ≥ 0 then (some (decide (a0 ≤ 2))) else (some false)
def bound_fold_bound_All_1.l0 : Nat → Int → List Int → Int → Int → Option (Int × Int)
 | 0, _, _, _, _ => none
 | k + 1, x1, x13, x14, x15 => if x15 < x14 then (if 0 ≤ x15 then (if x15 < (x13.length : Int) then ((bound_isAnswer.f (rd x13 x15)).bind fun t102 => (if t102 = true then ((bound_All_1.f x1 (rd x13 x15)).bind fun t103 => (bound_fold_bound_All_1.l0 k t103 x13 x14 (wrap64 (x15 + 1)))) else (some (0, 2)))) else (none)) else (none)) else (some (x1, 0))
def bound_fold_bound_All_1.f (k : Nat) (l0 : List Int) (a1 : Int)  : Option (Int × Int) := if (l0.length : Int) > 256 then (some (0, 6)) else (bound_fold_bound_All_1.l0 k a1 l0 (l0.length : Int) 0)
def bound_All.f (k : Nat) (l0 : List Int) : Option (Int × Int) := (bound_fold_bound_All_1.f k l0 2).bind fun bt101 => (some (bt101.1, bt101.2))
def bound_Any_1.f (a0 : Int) (a1 : Int) : Option (Int) := some (mx a0 a1)
def bound_fold_bound_Any_1.l0 : Nat → Int → List Int → Int → Int → Option (Int × Int)
 | 0, _, _, _, _ => none
 | k + 1, x1, x13, x14, x15 => if x15 < x14 then (if 0 ≤ x15 then (if x15 < (x13.length : Int) then ((bound_isAnswer.f (rd x13 x15)).bind fun t102 => (if t102 = true then ((bound_Any_1.f x1 (rd x13 x15)).bind fun t103 => (bound_fold_bound_Any_1.l0 k t103 x13 x14 (wrap64 (x15 + 1)))) else (some (0, 2)))) else (none)) else (none)) else (some (x1, 0))
def bound_fold_bound_Any_1.f (k : Nat) (l0 : List Int) (a1 : Int)  : Option (Int × Int) := if (l0.length : Int) > 256 then (some (0, 6)) else (bound_fold_bound_Any_1.l0 k a1 l0 (l0.length : Int) 0)
def bound_Any.f (k : Nat) (l0 : List Int) : Option (Int × Int) := (bound_fold_bound_Any_1.f k l0 0).bind fun bt101 => (some (bt101.1, bt101.2))
def bound_CheckBox.f (k : Nat) (a0_0 : Int) (a0_1 : Int) (a0_2 : Int) (a0_3 : Int) : Option (Int) := (bound_check.f k (([(⟨a0_0, a0_1⟩ : S32), (⟨a0_2, a0_3⟩ : S32)] : List (S32)))).bind fun t105 => (if t105 = 0 then ((bound_amount.f a0_0).bind fun t106 => ((bound_amount.f a0_1).bind fun t107 => ((bound_amount.f a0_2).bind fun t108 => ((bound_amount.f a0_3).bind fun t109 => (if (mx (mx (mx t106 t107) t108) t109) > 268435456 then (some 2) else (some 0)))))) else (some t105))
def Bd.join1 (out : List S32) (a : S32) : List S32 :=
 match out.getLast? with
 | some b => if a.f0 ≤ wrap64 (b.f1 + 1) then out.dropLast ++ [⟨b.f0, max b.f1 a.f1⟩] else out ++ [a]
 | none => [a]
def Bd.join (l : List S32) : List S32 := l.foldl Bd.join1 []
theorem Bd.join_snoc (l : List S32) (a : S32) : Bd.join (l ++ [a]) = Bd.join1 (Bd.join l) a := by simp [Bd.join]
theorem Bd.join1_le (out : List S32) (a : S32) : (Bd.join1 out a).length ≤ out.length + 1 := by
 unfold Bd.join1
 split
 ·next b h =>
  split
  ·have : out ≠ [] := by rintro rfl; cases h
   have : 0 < out.length := List.length_pos_iff.2 this
   simp only [List.length_append, List.length_dropLast, List.length_cons, List.length_nil]
   omega
  simp
 simp
theorem Bd.join_le (l : List S32) : (Bd.join l).length ≤ l.length := by
 have h : ∀ (l out : List S32), (l.foldl Bd.join1 out).length ≤ out.length + l.length := by
  intro l
  induction l with
  | nil => intro out; simp
  | cons a l ih =>
   intro out
   have h1 := ih (Bd.join1 out a)
   have h2 := Bd.join1_le out a
   simp only [List.foldl_cons, List.length_cons]
   omega
 have := h l []
 simp only [List.length_nil, Nat.zero_add] at this
 exact this
theorem Bd.join1_merge {ys : List S32} {b x : S32} (q : x.f0 ≤ wrap64 (b.f1 + 1)) : Bd.join1 (ys ++ [b]) x = ys ++ [⟨b.f0, if b.f1 < x.f1 then x.f1 else b.f1⟩] := by
 have e : max b.f1 x.f1 = if b.f1 < x.f1 then x.f1 else b.f1 := by
  split <;> omega
 unfold Bd.join1
 rw [List.getLast?_append, List.getLast?_singleton]
 simp only [Option.some_or]
 rw [if_pos q, List.dropLast_concat, e]
theorem Bd.join1_more {ys : List S32} {b x : S32} (q : ¬ x.f0 ≤ wrap64 (b.f1 + 1)) : Bd.join1 (ys ++ [b]) x = (ys ++ [b]) ++ [x] := by
 unfold Bd.join1
 rw [List.getLast?_append, List.getLast?_singleton]
 simp only [Option.some_or]
 rw [if_neg q]
def Bd.ok (s : S32) : Prop := s.f0 ≤ s.f1 ∧ -1073741824 ≤ s.f0 ∧ s.f1 ≤ 1073741824
def Bd.mem (l : List S32) (n : Int) : Prop := ∃ s ∈ l, s.f0 ≤ n ∧ n ≤ s.f1
def Bd.Normal (l : List S32) : Prop := l.Pairwise (fun s t => s.f1 + 2 ≤ t.f0) ∧ ∀ s ∈ l, Bd.ok s
theorem Bd.mem_nil (n : Int) : ¬ Bd.mem [] n := fun ⟨_, h, _⟩ => by cases h
theorem Bd.mem_cons {s : S32} {l : List S32} {n : Int} : Bd.mem (s :: l) n ↔ (s.f0 ≤ n ∧ n ≤ s.f1) ∨ Bd.mem l n := by
 unfold Bd.mem
 constructor
 ·rintro ⟨t, ht, h⟩
  rcases List.mem_cons.1 ht with rfl | ht
  ·exact .inl h
  exact .inr ⟨t, ht, h⟩
 rintro (h | ⟨t, ht, h⟩)
 ·exact ⟨s, List.mem_cons_self, h⟩
 exact ⟨t, List.mem_cons_of_mem _ ht, h⟩
theorem Bd.mem_append {l m : List S32} {n : Int} : Bd.mem (l ++ m) n ↔ Bd.mem l n ∨ Bd.mem m n := by
 unfold Bd.mem
 constructor
 ·rintro ⟨t, ht, h⟩
  rcases List.mem_append.1 ht with ht | ht
  ·exact .inl ⟨t, ht, h⟩
  exact .inr ⟨t, ht, h⟩
 rintro (⟨t, ht, h⟩ | ⟨t, ht, h⟩)
 ·exact ⟨t, List.mem_append.2 (.inl ht), h⟩
 exact ⟨t, List.mem_append.2 (.inr ht), h⟩
theorem Bd.mem_one {s : S32} {n : Int} : Bd.mem [s] n ↔ (s.f0 ≤ n ∧ n ≤ s.f1) := by
 rw [Bd.mem_cons]
 exact ⟨fun h => h.elim id fun h => absurd h (Bd.mem_nil n), .inl⟩
theorem Bd.Normal.tail {s : S32} {l : List S32} (h : Bd.Normal (s :: l)) : Bd.Normal l := ⟨(List.pairwise_cons.1 h.1).2, fun t ht => h.2 t (List.mem_cons_of_mem _ ht)⟩
theorem Bd.Normal.far {s : S32} {l : List S32} (h : Bd.Normal (s :: l)) {n : Int} (hn : Bd.mem l n) : s.f1 + 2 ≤ n := by
 obtain ⟨t, ht, h1, _⟩ := hn
 have := (List.pairwise_cons.1 h.1).1 t ht
 omega
theorem Bd.Normal.least {s : S32} {l : List S32} (h : Bd.Normal (s :: l)) {n : Int} (hn : Bd.mem (s :: l) n) : s.f0 ≤ n := by
 rcases Bd.mem_cons.1 hn with h1 | h1
 ·exact h1.1
 have := h.far h1
 have := (h.2 s List.mem_cons_self).1
 omega
theorem Bd.Normal.unique : ∀ {l m : List S32}, Bd.Normal l → Bd.Normal m → (∀ n, Bd.mem l n ↔ Bd.mem m n) → l = m
 | [], [], _, _, _ => rfl
 | [], t :: m, _, hm, h => by
  have h1 := (hm.2 t List.mem_cons_self).1
  exact absurd ((h t.f0).2 (Bd.mem_cons.2 (.inl ⟨Int.le_refl _, h1⟩))) (Bd.mem_nil _)
 | s :: l, [], hl, _, h => by
  have h1 := (hl.2 s List.mem_cons_self).1
  exact absurd ((h s.f0).1 (Bd.mem_cons.2 (.inl ⟨Int.le_refl _, h1⟩))) (Bd.mem_nil _)
 | s :: l, t :: m, hl, hm, h => by
  have hs := (hl.2 s List.mem_cons_self).1
  have ht := (hm.2 t List.mem_cons_self).1
  have a1 := hm.least ((h s.f0).1 (Bd.mem_cons.2 (.inl ⟨Int.le_refl _, hs⟩)))
  have a2 := hl.least ((h t.f0).2 (Bd.mem_cons.2 (.inl ⟨Int.le_refl _, ht⟩)))
  have b1 : ¬ s.f1 < t.f1 := fun q => by
   rcases Bd.mem_cons.1 ((h (s.f1 + 1)).2 (Bd.mem_cons.2 (.inl ⟨by omega, by omega⟩))) with h1 | h1
   ·omega
   have := hl.far h1
   omega
  have b2 : ¬ t.f1 < s.f1 := fun q => by
   rcases Bd.mem_cons.1 ((h (t.f1 + 1)).1 (Bd.mem_cons.2 (.inl ⟨by omega, by omega⟩))) with h1 | h1
   ·omega
   have := hm.far h1
   omega
  have e : s = t := by
   cases s
   cases t
   dsimp only at *
   congr 1 <;> omega
  subst e
  refine congrArg _ (Bd.Normal.unique hl.tail hm.tail fun n => ⟨fun hn => ?_, fun hn => ?_⟩)
  ·have := hl.far hn
   exact (Bd.mem_cons.1 ((h n).1 (Bd.mem_cons.2 (.inr hn)))).elim (fun h1 => by omega) id
  have := hm.far hn
  exact (Bd.mem_cons.1 ((h n).2 (Bd.mem_cons.2 (.inr hn)))).elim (fun h1 => by omega) id
theorem Bd.join1_inv {out pre : List S32} {a : S32} (ha : Bd.ok a) (h1 : Bd.Normal out) (h2 : ∀ n, Bd.mem out n ↔ Bd.mem pre n) (h3 : ∀ s ∈ out, ∃ p ∈ pre, s.f0 = p.f0) (h4 : ∀ p ∈ pre, p.f0 ≤ a.f0) :
  Bd.Normal (Bd.join1 out a) ∧ (∀ n, Bd.mem (Bd.join1 out a) n ↔ Bd.mem (pre ++ [a]) n) ∧ ∀ s ∈ Bd.join1 out a, ∃ p ∈ pre ++ [a], s.f0 = p.f0 := by
 have hle : ∀ s ∈ out, s.f0 ≤ a.f0 := fun s hs => by
  obtain ⟨p, hp, e⟩ := h3 s hs
  rw [e]
  exact h4 p hp
 rcases List.eq_nil_or_concat out with rfl | ⟨ys, b, e⟩
 ·have e1 : Bd.join1 [] a = [a] := rfl
  rw [e1]
  refine ⟨⟨List.pairwise_singleton _ _, fun s hs => by rw [List.mem_singleton.1 hs]; exact ha⟩, fun n => ?_, fun s hs => ⟨a, by simp, by rw [List.mem_singleton.1 hs]⟩⟩
  rw [Bd.mem_append, ← h2]
  exact ⟨.inr, fun h => h.elim (fun h => absurd h (Bd.mem_nil n)) id⟩
 rw [List.concat_eq_append] at e
 subst e
 have hb := h1.2 b (by simp)
 have hba := hle b (by simp)
 obtain ⟨p1, p2, p3⟩ := List.pairwise_append.1 h1.1
 have w1 : wrap64 (b.f1 + 1) = b.f1 + 1 := wrap_id (by have := hb.1; have := hb.2.1; omega) (by have := hb.2.2; omega)
 obtain ⟨a1, a2, a3⟩ := ha
 obtain ⟨b1, b2, b3⟩ := hb
 by_cases q : a.f0 ≤ wrap64 (b.f1 + 1)
 ·rw [Bd.join1_merge q]
  rw [w1] at q
  have hm : ∀ m, (if b.f1 < a.f1 then a.f1 else b.f1) = m → b.f1 ≤ m ∧ a.f1 ≤ m ∧ (m = b.f1 ∨ m = a.f1) := fun m hm => by
   split at hm <;> omega
  obtain ⟨m, em⟩ : ∃ m, (if b.f1 < a.f1 then a.f1 else b.f1) = m := ⟨_, rfl⟩
  obtain ⟨m1, m2, m3⟩ := hm m em
  rw [em]
  refine ⟨⟨List.pairwise_append.2 ⟨p1, List.pairwise_singleton _ _, fun s hs t ht => ?_⟩, fun s hs => ?_⟩, fun n => ?_, fun s hs => ?_⟩
  ·rw [List.mem_singleton.1 ht]
   exact p3 s hs b (by simp)
  ·rcases List.mem_append.1 hs with hs | hs
   ·exact h1.2 s (by simp [hs])
   rw [List.mem_singleton.1 hs]
   exact ⟨by show b.f0 ≤ m; omega, b2, by show m ≤ 1073741824; omega⟩
  ·rw [Bd.mem_append (m := [a]), ← h2, Bd.mem_append, Bd.mem_append, Bd.mem_one, Bd.mem_one, Bd.mem_one]
   constructor
   ·rintro (h | ⟨h, h'⟩)
    ·exact .inl (.inl h)
    have h : b.f0 ≤ n := h
    have h' : n ≤ m := h'
    by_cases q2 : n ≤ b.f1
    ·exact .inl (.inr ⟨h, q2⟩)
    exact .inr ⟨by omega, by omega⟩
   rintro ((h | h) | h)
   ·exact .inl h
   ·exact .inr ⟨h.1, by show n ≤ m; omega⟩
   exact .inr ⟨by show b.f0 ≤ n; omega, by show n ≤ m; omega⟩
  rcases List.mem_append.1 hs with hs | hs
  ·obtain ⟨p, hp, e⟩ := h3 s (by simp [hs])
   exact ⟨p, by simp [hp], e⟩
  obtain ⟨p, hp, e⟩ := h3 b (by simp)
  rw [List.mem_singleton.1 hs]
  exact ⟨p, by simp [hp], e⟩
 rw [Bd.join1_more q]
 rw [w1] at q
 refine ⟨⟨List.pairwise_append.2 ⟨h1.1, List.pairwise_singleton _ _, fun s hs t ht => ?_⟩, fun s hs => ?_⟩, fun n => ?_, fun s hs => ?_⟩
 ·rw [List.mem_singleton.1 ht]
  rcases List.mem_append.1 hs with hs | hs
  ·have := p3 s hs b (by simp)
   omega
  rw [List.mem_singleton.1 hs]
  omega
 ·rcases List.mem_append.1 hs with hs | hs
  ·exact h1.2 s hs
  rw [List.mem_singleton.1 hs]
  exact ⟨a1, a2, a3⟩
 ·rw [Bd.mem_append, h2, Bd.mem_append (l := pre)]
 rcases List.mem_append.1 hs with hs | hs
 ·obtain ⟨p, hp, e⟩ := h3 s hs
  exact ⟨p, by simp [hp], e⟩
 exact ⟨a, by simp, by rw [List.mem_singleton.1 hs]⟩
theorem Bd.join_spec (l : List S32) (hs : l.Pairwise fun a b => ¬ b.f0 < a.f0) (ho : ∀ s ∈ l, Bd.ok s) : Bd.Normal (Bd.join l) ∧ (∀ n, Bd.mem (Bd.join l) n ↔ Bd.mem l n) := by
 have h : ∀ (m pre out : List S32), l = pre ++ m → Bd.Normal out → (∀ n, Bd.mem out n ↔ Bd.mem pre n) → (∀ s ∈ out, ∃ p ∈ pre, s.f0 = p.f0) → Bd.Normal (m.foldl Bd.join1 out) ∧ ∀ n, Bd.mem (m.foldl Bd.join1 out) n ↔ Bd.mem l n := by
  intro m
  induction m with
  | nil =>
   intro pre out e h1 h2 h3
   rw [List.append_nil] at e
   rw [e]
   exact ⟨h1, h2⟩
  | cons a m ih =>
   intro pre out e h1 h2 h3
   have ha : Bd.ok a := ho a (by rw [e]; simp)
   have h4 : ∀ p ∈ pre, p.f0 ≤ a.f0 := fun p hp => by
    rw [e] at hs
    have := (List.pairwise_append.1 hs).2.2 p hp a (by simp)
    omega
   obtain ⟨g1, g2, g3⟩ := Bd.join1_inv ha h1 h2 h3 h4
   exact ih (pre ++ [a]) (Bd.join1 out a) (by rw [e]; simp) g1 g2 g3
 exact h l [] [] rfl ⟨List.Pairwise.nil, fun s hs => by cases hs⟩ (fun n => Iff.rfl) (fun s hs => by cases hs)
def Bd.ins (a : S32) : List S32 → List S32
 | [] => [a]
 | b :: l => if a.f0 ≤ b.f0 then a :: b :: l else b :: Bd.ins a l
def Bd.sort : List S32 → List S32
 | [] => []
 | a :: l => Bd.ins a (Bd.sort l)
theorem Bd.ins_perm (a : S32) : ∀ l : List S32, (Bd.ins a l).Perm (a :: l)
 | [] => List.Perm.refl _
 | b :: l => by
  unfold Bd.ins
  split
  ·exact List.Perm.refl _
  exact ((Bd.ins_perm a l).cons b).trans (List.Perm.swap a b l)
theorem Bd.sort_perm : ∀ l : List S32, (Bd.sort l).Perm l
 | [] => List.Perm.refl _
 | a :: l => (Bd.ins_perm a _).trans ((Bd.sort_perm l).cons a)
theorem Bd.ins_sorted (a : S32) : ∀ l : List S32, (l.Pairwise fun a b => ¬ b.f0 < a.f0) → (Bd.ins a l).Pairwise fun a b => ¬ b.f0 < a.f0
 | [], _ => List.pairwise_singleton _ _
 | b :: l, h => by
  obtain ⟨h1, h2⟩ := List.pairwise_cons.1 h
  unfold Bd.ins
  split
  ·next q =>
   refine List.pairwise_cons.2 ⟨fun t ht => ?_, h⟩
   rcases List.mem_cons.1 ht with rfl | ht
   ·omega
   have := h1 t ht
   omega
  next q =>
  refine List.pairwise_cons.2 ⟨fun t ht => ?_, Bd.ins_sorted a l h2⟩
  rcases List.mem_cons.1 ((Bd.ins_perm a l).mem_iff.1 ht) with rfl | ht
  ·omega
  exact h1 t ht
theorem Bd.sort_sorted : ∀ l : List S32, (Bd.sort l).Pairwise fun a b => ¬ b.f0 < a.f0
 | [] => List.Pairwise.nil
 | a :: l => Bd.ins_sorted a _ (Bd.sort_sorted l)
def Bd.cover (l : List S32) : List S32 := Bd.join (Bd.sort l)
theorem Bd.mem_perm {l m : List S32} (h : l.Perm m) (n : Int) : Bd.mem l n ↔ Bd.mem m n :=
 ⟨fun ⟨s, hs, h1⟩ => ⟨s, h.mem_iff.1 hs, h1⟩, fun ⟨s, hs, h1⟩ => ⟨s, h.mem_iff.2 hs, h1⟩⟩
theorem Bd.cover_spec {l : List S32} (ho : ∀ s ∈ l, Bd.ok s) : Bd.Normal (Bd.cover l) ∧ ∀ n, Bd.mem (Bd.cover l) n ↔ Bd.mem l n := by
 have h := Bd.join_spec (Bd.sort l) (Bd.sort_sorted l) fun s hs => ho s ((Bd.sort_perm l).mem_iff.1 hs)
 exact ⟨h.1, fun n => (h.2 n).trans (Bd.mem_perm (Bd.sort_perm l) n)⟩
theorem Bd.join_perm {l ys : List S32} (hp : ys.Perm l) (hs : ys.Pairwise fun a b => ¬ b.f0 < a.f0) (ho : ∀ s ∈ l, Bd.ok s) : Bd.join ys = Bd.cover l := by
 have h := Bd.join_spec ys hs fun s h => ho s (hp.mem_iff.1 h)
 have g := Bd.cover_spec ho
 exact Bd.Normal.unique h.1 g.1 fun n => ((h.2 n).trans (Bd.mem_perm hp n)).trans (g.2 n).symm
end Go.Proofs.Ytlkafgibgipodaa.P
namespace Go.Proofs.Ytlkafgibgipodaa.P
open Go.RowKit Go.Proofs.YtlkafgibgipodaaW.PrintWords Go.Proofs.YtlkafgibgipodaaW.PrintLast Go.Proofs.YtlkafgibgipodaaW.PrintMore
attribute [local go_sem] max2_int min2_int max_two min_two max_three min_three max_four min_four   -- for this text's walks alone
set_option linter.unusedVariables false
set_option linter.unusedSimpArgs false
open Go.Shelf
attribute [local go_sem] Oper.semAt_some
def Bd.flat : List S32 → List Value
 | [] => []
 | x :: xs => .int .i64 x.f0 :: .int .i64 x.f1 :: Bd.flat xs
theorem Bd.flat_length : ∀ xs : List S32, (Bd.flat xs).length = xs.length * 2
 | [] => rfl
 | x :: xs => by
  simp only [Bd.flat, List.length_cons, Bd.flat_length xs]
  omega
theorem Bd.flat_append : ∀ xs ys : List S32, Bd.flat (xs ++ ys) = Bd.flat xs ++ Bd.flat ys
 | [], _ => rfl
 | x :: xs, ys => by
  rw [List.cons_append, Bd.flat, Bd.flat, Bd.flat_append xs ys, List.cons_append, List.cons_append]
theorem bd_results_cell {fn : Func} {p : Tmp} {ty e : TypeId} {P : Program} (h : fn.results = #[.cell p ty]) (tmps : Array Value) (w : World) (g : Nat) (t : TypeId) (v : Value)
  (hp : tmps.getD p undef = .pointer (some ⟨g, 0, none⟩)) (hg : w.heap[g]? = some (.cells #[v] t (0, 0))) (hu : P.underlying ty = some (.slice e)) :
  (results fn tmps).run P w = .ok v w := by
 have hp' : tmps[p]?.getD undef = .pointer (some ⟨g, 0, none⟩) := by simpa using hp
 have hc : w.cell? ⟨g, 0, none⟩ = some v := (zkc hg 0).trans rfl
 have hU := run_underlying (P := P) (w := w) hu
 simp [results, h, hp', asAddr, loadVar, isAgg, hU, go_sem, hc]
structure JoinIn (w : World) (out : List S32) (V : World) : Prop where
 row : ∃ v : Value, V.heap[w.heap.size]? = some (.cells #[v] 44 (0, 0)) ∧ V.ownsRow (w.heap.size + 1) 32 2 v out.length (Bd.flat out)
 below : Below w.heap.size w V
theorem row_cells {V : World} {b ty sz : Nat} {v : Value} {n : Nat} {xs : List Value} (h : V.ownsRow b ty sz v n xs) : ∀ (k : Nat) (o : Obj), v.ownBlock = some k → V.heap[k]? = some o → o.isCells = true := by
 intro k o hk ho
 rcases h.2 with ⟨e, _⟩ | ⟨g, cap, cur, e, _, hcur, _⟩
 ·rw [e] at hk
  cases hk
 rw [e] at hk
 simp only [Value.ownBlock, Option.some.injEq] at hk
 subst hk
 rw [hcur] at ho
 cases ho
 rfl
theorem row_stays {V V' : World} {b ty sz : Nat} {v : Value} {n : Nat} {xs : List Value} {row : Option Nat} (h : V.ownsRow b ty sz v n xs) (hg : V.grownBy V' row) (hr : ∀ r, row = some r → ∃ o : Obj, V.heap[r]? = some o ∧ o.isCells = false) : V'.ownsRow b ty sz v n xs := by
 refine ⟨h.1, h.2.imp id fun ⟨g, cap, cur, e, h2, h3, h4⟩ => ⟨g, cap, cur, e, h2, ?_, h4⟩⟩
 refine (hg.block g (blk_lt h3) fun er => ?_).trans h3
 obtain ⟨o, ho, hc⟩ := hr g er.symm
 rw [h3] at ho
 cases ho
 cases hc
theorem own_at {B k : Nat} {o : Obj} {W W' : World} {row : Option Nat} (hk : k < B) (h : W.heap[k]? = some o) (hg : W.grownBy W' row) (hr : ∀ r, row = some r → B ≤ r ∧ ∃ o : Obj, W.heap[r]? = some o ∧ o.isCells = false) : W'.heap[k]? = some o := by
 refine (hg.block k (blk_lt h) (fun e => ?_)).trans h
 have := (hr k e.symm).1
 omega
theorem joinIn_own (w : World) {B : Nat} (hB : w.heap.size + 1 ≤ B) : OwnFrom B (fun (pre : List S32) V => JoinIn w (Bd.join pre) V) := by
 intro pre V V' row hs hg hr
 obtain ⟨v, h1, h2⟩ := hs.row
 exact ⟨⟨v, own_at (B := B) (by omega) h1 hg hr, row_stays h2 hg fun r e => (hr r e).2⟩, ownFrom_below (β := Unit) (Nat.le_refl _) (by omega) () V V' row hs.below hg hr⟩
theorem bd_uponIn_inRound {F : Fence} {n : Nat} {P : Program} {o : Oper} {a : Act} {K K' : Act → World → Prop} {Q : Exit → Act → World → Prop} (l : Nat) (hK : ∀ a w, K a w → K' a w) : ∀ r : Result Next, o.uponIn F n P a K Q r → o.uponIn (F.inRound l) n P a K' Q r
 | .ok (.value v) w', h => hK _ _ h
 | .ok .skip w', h => hK _ _ h
 | .ok (.defer d) w', h => hK _ _ h
 | .ok (.enter f args) w', h => ⟨h.1, CallsIn.inRound l (h.2.mono fun e w'' he => by cases e <;> first | exact hK _ _ he | exact he)⟩
 | .ok (.row row args) w', h => ⟨h.1, h.2.mono fun v w'' he => hK _ _ he⟩
 | .ok (.round l' f tmps assign body) w', h => ⟨h.1, h.2.mono fun e w'' he => by cases e <;> first | exact hK _ _ he | exact he⟩
 | .halt (.panic v) w', h => h
 | .halt (.fatal _) _, h => h.elim
theorem bd_wpIn_inRound {F : Fence} {n : Nat} {P : Program} {o : Oper} {a : Act} {K K' : Act → World → Prop} {Q : Exit → Act → World → Prop} {w : World} (l : Nat) (hro : F.round = none) (hd : ∀ c, o.op ≠ .defer c) (hK : ∀ a w, K a w → K' a w) (h : o.wpIn F n P a w K Q) : o.wpIn (F.inRound l) n P a w K' Q := by
 refine ⟨h.1, ?_⟩
 have h2 := h.2
 rw [hro] at h2
 rw [Fence.inRound_round, Oper.semAt_eq _ _ _ hd]
 exact bd_uponIn_inRound l hK _ h2
theorem bd_wpAnyIn_inRound {F : Fence} {n : Nat} {P : Program} {md : Region.Mode} {ops : Array Oper} {Q : Exit → Act → World → Prop} (l : Nat) (hro : F.round = none) (hd : ∀ (i : Nat) (o : Oper), ops[i]? = some o → ∀ c, o.op ≠ .defer c) : ∀ (fuel : Nat) (listed : Array Bool) (a : Act) (w : World), wpAnyIn F n P md ops Q fuel listed a w → wpAnyIn (F.inRound l) n P md ops Q fuel listed a w
 | 0, _, _, _, h => h
 | fuel + 1, listed, a, w, h => by
  refine ⟨h.1, fun i hi => ?_⟩
  have h2 := h.2 i hi
  unfold wpOpIn at h2 ⊢
  split
  ·next e =>
   rw [e] at h2
   exact bd_wpAnyIn_inRound l hro hd fuel _ _ _ h2
  next o e =>
  rw [e] at h2
  dsimp only at h2
  split
  ·next hw =>
   rw [if_pos hw] at h2
   exact bd_wpIn_inRound l hro (hd i o e) (fun a w h => bd_wpAnyIn_inRound l hro hd fuel _ a w h) h2
  next hw =>
  rw [if_neg hw] at h2
  exact ⟨h2.1, bd_wpAnyIn_inRound l hro hd fuel _ _ _ h2.2⟩
def noDefer (ops : List Oper) : Bool := ops.all fun o => match o.op with | .defer _ => false | _ => true
theorem noDefer_at {l : List Oper} (h : noDefer l = true) (i : Nat) (o : Oper) (ho : l.toArray[i]? = some o) (c : Call) : o.op ≠ .defer c := by
 intro e
 have hm : o ∈ l := by
  have := List.mem_of_getElem? (by simpa using ho)
  exact this
 have h2 := List.all_eq_true.1 h o hm
 rw [e] at h2
 cases h2
theorem wpIn_region_quiet_round {F : Fence} {n : Nat} {P : Program} {id : Nat} {Q : Exit → Act → World → Prop} {a : Act} {w : World} {ops : List Oper} (l : Nat) (hro : F.round = none) (hm : P.follows .mixedOrders = true) (hd : noDefer ops = true) (hB : Region.lexB .any ops.toArray = true)
  (h : wpQuietIn F n P ops.toArray (fun w' => ∃ n, w' = w.drewN n) (fun a' => ∀ w', (∃ n, w' = w.drewN n) → Q .normal a' w') ops a) : (Code.region id ops.toArray true).wpIn (F.inRound l) n P Q a w := by
 simp only [Region.lexB, Bool.and_eq_true] at hB
 refine wpIn_region_any hm (bd_wpAnyIn_inRound l hro (noDefer_at hd) _ _ _ _ (wpAnyIn_of_quiet (Q := fun a' => ∀ w', (∃ n, w' = w.drewN n) → Q .normal a' w') hro (fun _ w' hw' h => h w' hw') _ _ _ _ ⟨1, rfl⟩ ?_))
 have := wpAnyQIn_lex (F := F) (n := n) (C := fun w' => ∃ n, w' = w.drewN n) (md := .any) hB.1 ops 0 (Array.replicate ops.toArray.size false) a (by simp) (by simpa using hB.2) h
 exact this
def edgeTo (md : Region.Mode) (o : Oper) (i : Nat) : Bool := o.after.any fun e => Region.binds md e && e.on == i
def backOk (md : Region.Mode) (ops : Array Oper) (i : Nat) : Bool := match ops[i]? with | some o => o.guard.isNone && o.after.all fun e => !Region.binds md e || decide (e.on < i) | none => true
def waitOk (md : Region.Mode) (ops : Array Oper) (k : Nat) (o : Oper) (i : Nat) : Bool := edgeTo md o i || (List.range k).any fun j => edgeTo md o j && match ops[j]? with | some o' => edgeTo md o' i | none => false
def lastOk (md : Region.Mode) (ops : Array Oper) (k : Nat) (ok : Oper) : Bool := ops.size == k + 1 && (List.range ops.size).all (backOk md ops) && (List.range k).all (waitOk md ops k ok)
section
variable {F : Fence} {n : Nat} {P : Program} {md : Region.Mode} {ops : Array Oper} {C : World → Prop}
def closedL (md : Region.Mode) (ops : Array Oper) (listed : Array Bool) : Prop := ∀ (i : Nat) (o : Oper), ops[i]? = some o → listed.getD i true = true → ∀ e ∈ o.after, Region.binds md e = true → listed.getD e.on false = true
theorem edgeTo_spec {o : Oper} {i : Nat} (h : edgeTo md o i = true) : ∃ e ∈ o.after, Region.binds md e = true ∧ e.on = i := by
 unfold edgeTo at h
 rw [Array.any_eq_true'] at h
 obtain ⟨e, he, h2⟩ := h
 simp only [Bool.and_eq_true, beq_iff_eq] at h2
 exact ⟨e, he, h2.1, h2.2⟩
theorem backOk_spec {k : Nat} {ok : Oper} (h : lastOk md ops k ok = true) (i : Nat) (o : Oper) (ho : ops[i]? = some o) : o.guard = none ∧ ∀ e ∈ o.after, Region.binds md e = true → e.on < i := by
 unfold lastOk at h
 simp only [Bool.and_eq_true] at h
 have hi : i < ops.size := (Array.getElem?_eq_some_iff.1 ho).1
 have h2 := List.all_eq_true.1 h.1.2 i (List.mem_range.2 hi)
 unfold backOk at h2
 rw [ho] at h2
 simp only [Bool.and_eq_true, Option.isNone_iff_eq_none, Array.all_eq_true', Bool.or_eq_true, Bool.not_eq_true', decide_eq_true_eq] at h2
 refine ⟨h2.1, fun e he hb => ?_⟩
 rcases h2.2 e he with h3 | h3
 ·rw [hb] at h3
  cases h3
 exact h3
theorem getD_listed {listed : Array Bool} {i : Nat} (hi : i < listed.size) (b c : Bool) : listed.getD i b = listed.getD i c := by
 simp [Array.getD, hi]
theorem ready_some {k : Nat} {ok : Oper} (h : lastOk md ops k ok = true) {listed : Array Bool} (hs : listed.size = ops.size) : ∀ (i : Nat), i < ops.size → listed.getD i true = false → Region.ready md ops listed ≠ [] := by
 intro i
 induction i using Nat.strongRecOn with
 | ind i ih =>
  intro hi hf
  by_cases hall : ∀ e ∈ (ops[i]'hi).after, Region.binds md e = true → listed.getD e.on false = true
  ·intro e
   have hm : i ∈ Region.ready md ops listed := mem_ready.2 ⟨hf, _, Array.getElem?_eq_getElem hi, hall⟩
   rw [e] at hm
   cases hm
  simp only [Classical.not_forall] at hall
  obtain ⟨e, he, hb, hn⟩ := hall
  have hlt := (backOk_spec h i _ (Array.getElem?_eq_getElem hi)).2 e he hb
  refine ih e.on hlt (by omega) ?_
  rw [getD_listed (by omega) true false]
  simpa using hn
theorem all_listed {k : Nat} {ok : Oper} (hk : ops[k]? = some ok) (h : lastOk md ops k ok = true) {listed : Array Bool} (hs : listed.size = ops.size) (hc : closedL md ops listed) (hr : k ∈ Region.ready md ops listed) (i : Nat) (hi : i < k) : listed.getD i true = true := by
 obtain ⟨_, o, ho, hall⟩ := mem_ready.1 hr
 rw [hk] at ho
 cases ho
 have hsz : k < ops.size := (Array.getElem?_eq_some_iff.1 hk).1
 have h2 := h
 unfold lastOk at h2
 simp only [Bool.and_eq_true] at h2
 have h3 := List.all_eq_true.1 h2.2 i (List.mem_range.2 hi)
 unfold waitOk at h3
 rw [getD_listed (by omega) true false]
 simp only [Bool.or_eq_true, List.any_eq_true, List.mem_range, Bool.and_eq_true] at h3
 rcases h3 with h3 | ⟨j, hj, hj1, hj2⟩
 ·obtain ⟨e, he, hb, rfl⟩ := edgeTo_spec h3
  exact hall e he hb
 obtain ⟨e, he, hb, rfl⟩ := edgeTo_spec hj1
 have hl := hall e he hb
 cases ho : ops[e.on]? with
 | none => rw [ho] at hj2; cases hj2
 | some o' =>
  rw [ho] at hj2
  obtain ⟨e', he', hb', rfl⟩ := edgeTo_spec hj2
  exact hc e.on o' ho (by rw [getD_listed (by omega) true false]; exact hl) e' he' hb'
theorem closed_set {listed : Array Bool} (hs : listed.size = ops.size) (hc : closedL md ops listed) {i : Nat} (hr : i ∈ Region.ready md ops listed) : closedL md ops (listed.setIfInBounds i true) := by
 intro j o ho hj e he hb
 have keep : ∀ m, listed.getD m false = true → (listed.setIfInBounds i true).getD m false = true := fun m hm => by
  by_cases q : i = m
  ·subst q
   by_cases q2 : i < listed.size
   ·simp [Array.getD, q2]
   simp [Array.getD, q2] at hm
  rw [getD_set_ne false q]
  exact hm
 by_cases q : i = j
 ·subst q
  obtain ⟨_, o', ho', hall⟩ := mem_ready.1 hr
  rw [ho] at ho'
  cases ho'
  exact keep _ (hall e he hb)
 rw [getD_set_ne true q] at hj
 exact keep _ (hc j o ho hj e he hb)
def hushed (ok : Oper) : Oper := { ok with dst := none, op := .assign (.const undef) }
theorem wpAnyIn_of_quiet_last {k : Nat} {ok : Oper} (hk : ops[k]? = some ok) (h : lastOk md ops k ok = true) (hro : F.round = none) {Q : Exit → Act → World → Prop} :
  ∀ (fuel : Nat) (listed : Array Bool) (a : Act) (w : World), C w → listed.size = ops.size → listed.getD k true = false → closedL md ops listed →
   wpAnyQIn F n P md (ops.setIfInBounds k (hushed ok)) C (fun a' => ∀ w', C w' → ∀ K : Act → World → Prop, (∀ a w, Q .normal a w → K a w) → ok.wpIn F n P a' w' K Q) fuel listed a → wpAnyIn F n P md ops Q fuel listed a w := by
 have hsz : k < ops.size := (Array.getElem?_eq_some_iff.1 hk).1
 have hsz1 : ops.size = k + 1 := by
  have h2 := h
  unfold lastOk at h2
  simp only [Bool.and_eq_true, beq_iff_eq] at h2
  exact h2.1.1
 have hop : ∀ i, i ≠ k → (ops.setIfInBounds k (hushed ok))[i]? = ops[i]? := fun i hi => by rw [Array.getElem?_setIfInBounds_ne (Ne.symm hi)]
 have hopk : (ops.setIfInBounds k (hushed ok))[k]? = some (hushed ok) := by rw [Array.getElem?_setIfInBounds_self]; simp [hsz]
 have hready : ∀ listed, Region.ready md (ops.setIfInBounds k (hushed ok)) listed = Region.ready md ops listed := fun listed => by
  unfold Region.ready
  rw [Array.size_setIfInBounds]
  refine List.filter_congr fun i hi => ?_
  by_cases q : i = k
  ·subst q
   rw [hopk, hk]
   rfl
  rw [hop i q]
 intro fuel
 induction fuel with
 | zero =>
  intro listed a w hw hs hf hc hq
  exact absurd (by rw [← hready]; exact hq.1) (ready_some h hs k hsz hf)
 | succ fuel ih =>
  intro listed a w hw hs hf hc hq
  refine ⟨fun e => absurd e (ready_some h hs k hsz hf), fun i hi => ?_⟩
  have h2 := hq.2 i (by rw [hready]; exact hi)
  by_cases q : i = k
  ·subst q
   unfold qOpIn at h2
   rw [hopk] at h2
   have hg : Region.wanted ok (yielded ops a.tmps) = true := by
    unfold Region.wanted
    rw [(backOk_spec h i ok hk).1]
   have hg2 : Region.wanted (hushed ok) (yielded (ops.setIfInBounds i (hushed ok)) a.tmps) = true := by
    unfold Region.wanted hushed
    dsimp only
    rw [(backOk_spec h i ok hk).1]
   dsimp only at h2
   rw [if_pos hg2] at h2
   obtain ⟨_, v, _, h3⟩ := h2
   have h4 : wpAnyQIn F n P md (ops.setIfInBounds i (hushed ok)) C (fun a' => ∀ w', C w' → ∀ K : Act → World → Prop, (∀ a w, Q .normal a w → K a w) → ok.wpIn F n P a' w' K Q) fuel (listed.setIfInBounds i true) a := h3
   have hnil : Region.ready md ops (listed.setIfInBounds i true) = [] := by
    refine List.eq_nil_iff_forall_not_mem.2 fun j hj => ?_
    obtain ⟨hj1, o, ho, _⟩ := mem_ready.1 hj
    have hjs : j < ops.size := (Array.getElem?_eq_some_iff.1 ho).1
    by_cases q2 : i = j
    ·subst q2
     rw [getD_listed (by rw [Array.size_setIfInBounds]; omega) true false] at hj1
     simp [Array.getD, hs, hsz] at hj1
    rw [getD_set_ne true q2] at hj1
    have := all_listed hk h hs hc hi j (by omega)
    rw [hj1] at this
    cases this
   have hQ : ∀ K : Act → World → Prop, (∀ a w, Q .normal a w → K a w) → ok.wpIn F n P a w K Q := by
    cases fuel with
    | zero => exact h4.2 w hw
    | succ f => exact h4.1 (by rw [hready]; exact hnil) w hw
   unfold wpOpIn
   rw [hk]
   dsimp only
   rw [if_pos hg]
   refine hQ _ fun a' w' hq' => ?_
   cases fuel with
   | zero => exact ⟨hnil, hq'⟩
   | succ f => exact ⟨fun _ => hq', fun j hj => by rw [hnil] at hj; cases hj⟩
  obtain ⟨hi1, o, ho, _⟩ := mem_ready.1 hi
  have hg : ∀ ops' : Array Oper, Region.wanted o (yielded ops' a.tmps) = true := fun ops' => by
   unfold Region.wanted
   rw [(backOk_spec h i o ho).1]
  unfold qOpIn at h2
  rw [hop i q, ho] at h2
  dsimp only at h2
  rw [if_pos (hg _)] at h2
  unfold wpOpIn
  rw [ho]
  dsimp only
  rw [if_pos (hg _)]
  refine Oper.wpIn_of_quiet hro hw (fun a' w' hw' hK => ih _ a' w' hw' (by rw [Array.size_setIfInBounds]; exact hs) ?_ (closed_set hs hc hi) hK) h2.1 h2.2
  rw [getD_set_ne true q]
  exact hf
end
theorem wpIn_region_last_round {F : Fence} {n : Nat} {P : Program} {id : Nat} {Q : Exit → Act → World → Prop} {a : Act} {w : World} {ops qs : List Oper} {ok : Oper} (l k : Nat) (hro : F.round = none) (hm : P.follows .mixedOrders = true) (hk : ops[k]? = some ok) (hq : ops.set k (hushed ok) = qs) (hd : noDefer ops = true) (hL : lastOk .any ops.toArray k ok = true) (hB : Region.lexB .any qs.toArray = true)
  (h : wpQuietIn F n P qs.toArray (fun w' => ∃ n, w' = w.drewN n) (fun a' => ∀ w', (∃ n, w' = w.drewN n) → ∀ K : Act → World → Prop, (∀ a w, Q .normal a w → K a w) → ok.wpIn F n P a' w' K Q) qs a) : (Code.region id ops.toArray true).wpIn (F.inRound l) n P Q a w := by
 subst hq
 simp only [Region.lexB, Bool.and_eq_true] at hB
 have hsz : k < ops.length := (List.getElem?_eq_some_iff.1 hk).1
 refine wpIn_region_any hm (bd_wpAnyIn_inRound l hro (noDefer_at hd) _ _ _ _ (wpAnyIn_of_quiet_last (C := fun w' => ∃ n, w' = w.drewN n) (k := k) (by simpa using hk) hL hro _ _ _ _ ⟨1, rfl⟩ (by simp) ?_ ?_ ?_))
 ·simp [Array.getD, hsz]
 ·intro i o ho hi
  have : i < ops.length := by simpa using (Array.getElem?_eq_some_iff.1 ho).1
  simp [Array.getD, this] at hi
 have := wpAnyQIn_lex (F := F) (n := n) (C := fun w' => ∃ n, w' = w.drewN n) (md := .any) hB.1 (ops.set k (hushed ok)) 0 (Array.replicate ops.toArray.size false) a (by simp) (by simpa using hB.2) h
 rw [show ops.toArray.setIfInBounds k (hushed ok) = (ops.set k (hushed ok)).toArray by simp]
 rw [List.length_set] at this
 exact this
theorem bd_cells_new (W : World) (a b : Value) (t : TypeId) (j : Nat) (u : Value) (h : [a, b][j]? = some u) : (W.alloc (.cells #[a, b] t)).cell? (Addr.add ⟨W.heap.size, 0, none⟩ j) = some u := by
 match j, h with
 | 0, h => exact (zkc (blk_new W (.cells #[a, b] t)) 0).trans h
 | 1, h => exact (zkc (blk_new W (.cells #[a, b] t)) 1).trans h
theorem bd_info_span : (Try.prog.info? 32).map (fun i => (i.zero, i.size, i.bytes)) = some (some (.agg #[.int .i64 0, .int .i64 0]), 2, 16) := by kernel_rfl
theorem join_box {w W V' : World} {v : Value} {n nq : Nat} {cs : List Value} {o : Obj} (hbox : W.heap[w.heap.size]? = some (.cells #[v] 44 (0, 0))) (hrow : W.ownsRow (w.heap.size + 1) 32 2 v n cs) (hg : ((W.drewN nq).alloc o).grownBy V' v.ownBlock) : V'.heap[w.heap.size]? = some (.cells #[v] 44 (0, 0)) := by
 have h1 : ((W.drewN nq).alloc o).heap[w.heap.size]? = some (.cells #[v] 44 (0, 0)) := zka (w := W.drewN nq) hbox o
 refine (hg.block _ (blk_lt h1) fun e => ?_).trans h1
 have := own_base hrow _ e.symm
 omega
theorem join_append {w W V' : World} {B : Nat} {v v' : Value} {nq : Nat} {out : List S32} {x : S32} {o : Obj} (hB : Below w.heap.size w W) (hbox : W.heap[w.heap.size]? = some (.cells #[v] 44 (0, 0))) (hrow : W.ownsRow (w.heap.size + 1) 32 2 v out.length (Bd.flat out))
  (hown : V'.ownsRow (w.heap.size + 1) 32 2 v' (out.length + 1) (Bd.flat out ++ [.int .i64 x.f0, .int .i64 x.f1])) (hg : ((W.drewN nq).alloc o).grownBy V' v.ownBlock) :
  KeepsFrom B W (V'.setCell ⟨w.heap.size, 0, none⟩ v') ∧ (∀ k, k < w.heap.size → (V'.setCell ⟨w.heap.size, 0, none⟩ v').heap[k]? = W.heap[k]?) ∧ JoinIn w (out ++ [x]) (V'.setCell ⟨w.heap.size, 0, none⟩ v') := by
 have hb1 := join_box (o := o) hbox hrow hg
 have hwW : w.heap.size < W.heap.size := blk_lt hbox
 have hrow1 : ((W.drewN nq).alloc o).ownsRow (w.heap.size + 1) 32 2 v out.length (Bd.flat out) := World.ownsRow.alloc (w := W.drewN nq) hrow o
 refine ⟨?_, fun k hk => ?_, ⟨⟨v', blk_put hb1 0 v' rfl, ?_⟩, ?_⟩⟩
 ·refine KeepsOthers.from (KeepsOthers.trans (A := W) (B := W.drewN nq) ⟨Nat.le_refl _, fun _ _ h _ => h⟩ ((KeepsOthers.alloc _ o).trans ((KeepsOthers.of_grownBy hg fun j o hj ho => row_cells hrow1 j o hj ho).trans (KeepsOthers.setCell _ _ _)))) _
 ·rw [Below.heap_setCell _ _ _ k (by show k ≠ w.heap.size; omega)]
  refine (hg.block k (by rw [World.size_alloc]; show k < W.heap.size + 1; omega) fun e => ?_).trans (Below.heap_alloc (W.drewN nq) o k (by show k < W.heap.size; omega))
  have := own_base hrow k e.symm
  omega
 ·refine own_move (w := V') ?_ fun k hk => Below.heap_setCell _ _ _ k ?_
  ·rw [List.length_append, List.length_cons, List.length_nil, Bd.flat_append]
   exact hown
  show k ≠ w.heap.size
  have := own_base hown k hk
  omega
 exact zbs (Below.grown (zba (W := W.drewN nq) ⟨hB.os, hB.tape, hB.output, hB.size, hB.block⟩ o) hg (by rw [World.size_alloc]; show w.heap.size ≤ W.heap.size + 1; omega) fun k e => by have := own_base hrow k e; omega) (Nat.le_refl _)
theorem bd_last {W : World} {base n c : Nat} {A : Option Addr} {ys : List S32} {b : S32} (h : W.ownsRow base 32 2 (.slice A n c) n (Bd.flat (ys ++ [b]))) : ∃ (gr : Nat) (cur : Array Value), A = some ⟨gr, 0, none⟩ ∧ base ≤ gr ∧ W.heap[gr]? = some (.cells cur 32 (0, 0)) ∧ cur.toList.take (n * 2) = Bd.flat (ys ++ [b]) ∧ n ≤ c ∧ c ≤ maxLen ∧ cur.size = c * 2 ∧
  W.cell? ⟨gr, ys.length * 2, none⟩ = some (.int .i64 b.f0) ∧ W.cell? ⟨gr, ys.length * 2 + 1, none⟩ = some (.int .i64 b.f1) := by
 have hl := Bd.flat_length ys
 have hn : n = ys.length + 1 := by
  have := h.1
  rw [Bd.flat_length, List.length_append, List.length_cons, List.length_nil] at this
  omega
 rcases h.2 with ⟨_, e⟩ | ⟨gr, cap, cur, e, hb, hcur, h1, h2, h3, h4⟩
 ·omega
 cases e
 have hg : ∀ j, j < n * 2 → cur[j]? = (Bd.flat (ys ++ [b]))[j]? := fun j hj => by
  rw [← h4, List.getElem?_take, if_pos hj, Array.getElem?_toList]
 refine ⟨gr, cur, rfl, hb, hcur, h4, h1, h2, h3, (zkc hcur _).trans ?_, (zkc hcur _).trans ?_⟩
 ·rw [hg _ (by omega), Bd.flat_append, List.getElem?_append_right (by omega), hl, Nat.sub_self]
  rfl
 rw [hg _ (by omega), Bd.flat_append, List.getElem?_append_right (by omega), hl, show ys.length * 2 + 1 - ys.length * 2 = 1 by omega]
 rfl
theorem join_merge {w W : World} {B n c gr nq : Nat} {cur : Array Value} {ys : List S32} {b : S32} {m : Int} (hn : n = ys.length + 1) (hB : Below w.heap.size w W) (hbox : W.heap[w.heap.size]? = some (.cells #[.slice (some ⟨gr, 0, none⟩) n c] 44 (0, 0))) (hgr : w.heap.size + 1 ≤ gr) (hcur : W.heap[gr]? = some (.cells cur 32 (0, 0))) (htake : cur.toList.take (n * 2) = Bd.flat (ys ++ [b])) (hnc : n ≤ c) (hcm : c ≤ maxLen) (hcs : cur.size = c * 2) :
  KeepsFrom B W ((W.drewN nq).setCell ⟨gr, ys.length * 2 + 1, none⟩ (.int .i64 m)) ∧ (∀ k, k < w.heap.size → ((W.drewN nq).setCell ⟨gr, ys.length * 2 + 1, none⟩ (.int .i64 m)).heap[k]? = W.heap[k]?) ∧ JoinIn w (ys ++ [⟨b.f0, m⟩]) ((W.drewN nq).setCell ⟨gr, ys.length * 2 + 1, none⟩ (.int .i64 m)) := by
 have hl := Bd.flat_length ys
 refine ⟨?_, fun k hk => ?_, ⟨⟨.slice (some ⟨gr, 0, none⟩) n c, ?_, ?_, .inr ⟨gr, c, cur.setIfInBounds (ys.length * 2 + 1) (.int .i64 m), ?_, hgr, ?_, ?_, hcm, ?_, ?_⟩⟩, ?_⟩⟩
 ·exact KeepsOthers.from (KeepsOthers.trans (A := W) (B := W.drewN nq) ⟨Nat.le_refl _, fun _ _ h _ => h⟩ (KeepsOthers.setCell _ _ _)) _
 ·exact Below.heap_setCell (W.drewN nq) _ _ k (by show k ≠ gr; omega)
 ·exact (Below.heap_setCell (W.drewN nq) _ _ _ (by show w.heap.size ≠ gr; omega)).trans hbox
 ·rw [Bd.flat_length]
 ·rw [List.length_append, List.length_cons, List.length_nil, hn]
 ·exact blk_put (w := W.drewN nq) hcur _ _ rfl
 ·rw [List.length_append, List.length_cons, List.length_nil]
  omega
 ·rw [Array.size_setIfInBounds]
  exact hcs
 ·rw [List.length_append, List.length_cons, List.length_nil, ← hn, Array.toList_setIfInBounds, List.take_set, htake, Bd.flat_append, Bd.flat_append, List.set_append_right _ _ (by omega), hl, show ys.length * 2 + 1 - ys.length * 2 = 1 by omega]
  rfl
 exact zbs (W := W.drewN nq) ⟨hB.os, hB.tape, hB.output, hB.size, hB.block⟩ (by show w.heap.size ≤ gr; omega)
def joinAct (f : Value) (B g : Nat) (x : S32) : Act := { tmps := #[f, undef, .pointer (some ⟨B, 0, none⟩), .pointer (some ⟨g, 0, none⟩), undef, f, .agg #[.int .i64 x.f0, .int .i64 x.f1], undef, undef, undef, undef, undef, undef, undef, undef, undef, undef, undef, undef, undef, undef, undef, undef, undef, undef, undef, undef, undef, undef, undef, undef, undef, undef, undef, undef, undef, undef, undef, undef, undef], defers := [] }
set_option maxRecDepth 100000 in
set_option maxHeartbeats 4000000 in
theorem bound_join_in (fn0 : FuncId → Prop) (dep : Option Nat) (al : Bool) (n : Nat) (h90 : fn0 90) (hn : 2 ≤ n) (gf : Nat) (hgf : fn0 gf) (eg : ∀ args w, (callFunc gf args).run Try.prog w = .ok (.enter gf args) w) (lb : Array Value) (Kp : World → World → Prop) (S Sp : List S32 → Prop) (N : Nat) (hN : N ≤ 1000000) (w : World)
  (hseq : SeqStopsK (Fence.mk fn0 dep al none) (n - 1) Try.prog gf lb (fun x : S32 => #[Value.agg #[.int .i64 x.f0, .int .i64 x.f1]]) Kp S Sp N w)
  (hKt : ∀ {A B C : World}, Kp A B → Kp B C → Kp A C) (hK : ∀ W W' : World, (∀ k, k < w.heap.size → W'.heap[k]? = W.heap[k]?) → Kp W W') :
  CallsIn (Fence.mk fn0 dep al none) n Try.prog 90 #[.func (.func gf) #[] lb] w fun e w' =>
   ∃ (v : Value) (xs : List S32), e = .returned v ∧ S xs ∧ w'.ownsRow (w.heap.size + 1) 32 2 v (Bd.join xs).length (Bd.flat (Bd.join xs)) ∧ Below w.heap.size w w' := by
 refine callsIn_of_wp_marks Try.func90 rfl h90 ?_ rfl
 simp only [Try.ntmps90, List.size_toArray, List.length_cons, List.length_nil, Nat.reduceAdd, Nat.reduceSub, Array.replicate_succ, Array.replicate_zero, List.push_toArray, List.append_toArray, List.nil_append, List.cons_append]
 have hn1 : 1 ≤ n := by omega
 gi_wp2
 refine wpIn_rangeFunc_ownH rfl hn1 (gf := gf) (lb := lb) rfl hgf eg hseq hKt (fun V l o o' hl _ _ _ => hK _ _ fun k hk => by have : l ≠ k := (by have := hl; simp at this; omega); simp [World.putObj, this]) (zba (Below.refl _ _) _) (fun _ => rfl)
  (fun pre V => JoinIn w (Bd.join pre) V) (fun _ _ _ => False) (joinIn_own w (by simp)) (fun _ _ _ _ _ hs _ _ => hs) ?h0
  (fun x a' V => ∃ g, a' = joinAct (.func (.func gf) #[] lb) w.heap.size g x ∧ w.heap.size < g ∧ V.heap[g]? = some (.cells #[.int .i64 x.f0, .int .i64 x.f1] 32 (0, 0))) ?hAx ?assign ?body ?done ?stop
 case h0 =>
  exact ⟨⟨_, blk_new w _, World.ownsRow_nil _ _ _ _⟩, zba (Below.refl _ _) _⟩
 case hAx =>
  rintro x a' u V V' row ⟨g, e, hg, hc⟩ hgr hr
  refine ⟨g, e, hg, (hgr.block g (blk_lt hc) fun er => ?_).trans hc⟩
  obtain ⟨_, o, ho, hcs⟩ := hr g er.symm
  rw [hc] at ho
  cases ho
  cases hcs
 case assign =>
  intro l pre x W K hI hK'
  gi_wp2
  have hsz : w.heap.size < W.heap.size := by obtain ⟨v, h1, _⟩ := hI.row; exact blk_lt h1
  refine hK' _ _ ((KeepsOthers.alloc W _).from _) (hK _ _ fun k hk => Below.heap_alloc W _ k (by omega)) ?_ ⟨_, rfl, hsz, blk_new W _⟩
  obtain ⟨v, h1, h2⟩ := hI.row
  exact ⟨⟨v, zka h1 _, h2.alloc _⟩, zba hI.below _⟩
 case body =>
  rintro l pre x a' W hl ⟨r, hlr⟩ hI ⟨g, rfl, hg, hc⟩ hlen
  unfold joinAct
  obtain ⟨v, hbox, hrow⟩ := hI.row
  have hx0 : W.cell? ⟨g, 0, none⟩ = some (.int .i64 x.f0) := (zkc hc 0).trans rfl
  have hx1 : W.cell? ⟨g, 1, none⟩ = some (.int .i64 x.f1) := (zkc hc 1).trans rfl
  obtain ⟨A, c, rfl⟩ := own_slice hrow
  have JA := fun (V' : World) (v' : Value) (nq : Nat) => join_append (w := w) (W := W) (V' := V') (B := (w.alloc (Obj.cells #[Value.slice none 0 0] 44)).heap.size) (v' := v') (nq := nq) (out := Bd.join pre) (x := x) (o := .cells #[.int .i64 x.f0, .int .i64 x.f1] 32) hI.below hbox hrow
  have JA := zam JA
  obtain ⟨i0, hi, hzz0, hzz1, hzz2⟩ := info_parts bd_info_span
  have hmax : 1000000 ≤ maxLen := by decide
  have hsz := blk_lt hc
  have hz : W.cell? ⟨w.heap.size, 0, none⟩ = some (.slice A (Bd.join pre).length c) := (zkc hbox 0).trans rfl
  have hfz := zkz hbox 0
  have hln := Bd.join_le pre
  obtain ⟨out, hout⟩ : ∃ out, Bd.join pre = out := ⟨_, rfl⟩
  rw [hout] at hrow hz hbox hln
  rcases List.eq_nil_or_concat out with rfl | ⟨ys, b, eo⟩
  ·have w1 : IntKind.i64.wrap (((0 : Nat) : Int) - 1) = -1 := by decide
   gi_wp2
   refine wpIn_region_quiet_round l rfl (by kernel_rfl) (by kernel_rfl) (by kernel_rfl) ?_
   repeat (gi_big_quiet_step (fail))
   refine wpQuietIn_nil ?_
   intro _ hw'
   obtain ⟨nq, hw''⟩ := hw'
   subst hw''
   gi_wp2_with (gi_at_builtin; refine wpListIn_append_own _ rfl _ _ 44 rfl (w.heap.size + 1) 32 i0 (.agg #[.int .i64 0, .int .i64 0]) 2 16 Try.underlying44 hi hzz0 hzz1 hzz2 rfl (by decide) _ _ _ rfl (hrow.alloc _) ⟨W.heap.size, 0, none⟩ 1 1 [.int .i64 x.f0, .int .i64 x.f1] rfl rfl (bd_cells_new _ _ _ _) (by simp [Value.oneCell']) (by omega) (by omega) (by simp; omega) ?_; intro v' W1 hown' hgrow _; obtain ⟨A', c', rfl⟩ := own_slice hown'; have hb1 := join_box hbox hrow hgrow; have hfz1 := zkz hb1 0; have hz1 : W1.cell? ⟨w.heap.size, 0, none⟩ = some (.slice A 0 c) := (zkc hb1 0).trans rfl)
   rw [hout] at JA
   obtain ⟨g1, g2, g3⟩ := JA.out W1 _ nq hown' hgrow
   refine ⟨g1, hK _ _ g2, ?_⟩
   show JoinIn w (Bd.join (pre ++ [x])) _
   rw [Bd.join_snoc, hout]
   exact g3
  rw [List.concat_eq_append] at eo
  subst eo
  have hlen2 : (ys ++ [b]).length = ys.length + 1 := by simp
  have w1 : IntKind.i64.wrap (((ys ++ [b]).length : Int) - 1) = (ys.length : Int) := by
   rw [hlen2, i64_w, wrap_id (by omega) (by omega)]
   omega
  have p0 : (0 ≤ (ys.length : Int)) = True := eq_true (by omega)
  have p1 : decide (0 ≤ (ys.length : Int)) = true := zdt (by omega)
  have p2 : ((ys.length : Int) < ((ys ++ [b]).length : Int)) = True := eq_true (by rw [hlen2]; omega)
  obtain ⟨gr, cur, rfl, hgr, hcur, htake, hnc, hcm, hcs, hy0, hy1⟩ := bd_last hrow
  by_cases q : x.f0 ≤ wrap64 (b.f1 + 1)
  ·have q1 : decide (x.f0 ≤ wrap64 (b.f1 + 1)) = true := zdt q
   gi_wp2
   refine wpIn_region_quiet_round l rfl (by kernel_rfl) (by kernel_rfl) (by kernel_rfl) ?_
   repeat (gi_big_quiet_step (fail))
   refine wpQuietIn_nil ?_
   intro _ hw'
   obtain ⟨nq, hw''⟩ := hw'
   subst hw''
   have hfr := zkz hcur (ys.length * 2 + 1)
   gi_wp2
   refine wpIn_region_last_round (qs := ?qs) l 12 rfl (by kernel_rfl) rfl ?hq (by kernel_rfl) (by kernel_rfl) ?hB ?h
   case hq =>
    simp only [zss, zsz, hushed]
    rfl
   case hB => kernel_rfl
   repeat (gi_big_quiet_step (fail))
   refine wpQuietIn_nil ?_
   rintro _ ⟨nq2, rfl⟩ K hKK
   go_simp
   refine hKK _ _ ?_
   obtain ⟨m, hm⟩ : ∃ m, (if b.f1 < x.f1 then x.f1 else b.f1) = m := ⟨_, rfl⟩
   rw [hm]
   gi_wp2
   obtain ⟨g1, g2, g3⟩ := join_merge (B := (w.alloc (Obj.cells #[Value.slice none 0 0] 44)).heap.size) (nq := nq + nq2) (m := m) hlen2 hI.below hbox hgr hcur htake hnc hcm hcs
   refine ⟨g1, hK _ _ g2, ?_⟩
   show JoinIn w (Bd.join (pre ++ [x])) _
   rw [Bd.join_snoc, hout, Bd.join1_merge q, hm]
   exact g3
  have q1 : decide (x.f0 ≤ wrap64 (b.f1 + 1)) = false := zdf q
  rw [hlen2] at hrow hbox
  gi_wp2
  refine wpIn_region_quiet_round l rfl (by kernel_rfl) (by kernel_rfl) (by kernel_rfl) ?_
  repeat (gi_big_quiet_step (fail))
  refine wpQuietIn_nil ?_
  intro _ hw'
  obtain ⟨nq, hw''⟩ := hw'
  subst hw''
  gi_wp2_with (gi_at_builtin; refine wpListIn_append_own _ rfl _ _ 44 rfl (w.heap.size + 1) 32 i0 (.agg #[.int .i64 0, .int .i64 0]) 2 16 Try.underlying44 hi hzz0 hzz1 hzz2 rfl (by decide) _ _ _ rfl (hrow.alloc _) ⟨W.heap.size, 0, none⟩ 1 1 [.int .i64 x.f0, .int .i64 x.f1] rfl rfl (bd_cells_new _ _ _ _) (by simp [Value.oneCell']) (by omega) (by omega) (by simp; omega) ?_; intro v' W1 hown' hgrow _; obtain ⟨A', c', rfl⟩ := own_slice hown'; have hb1 := join_box hbox hrow hgrow; have hfz1 := zkz hb1 0; have hz1 : W1.cell? ⟨w.heap.size, 0, none⟩ = some (.slice (some ⟨gr, 0, none⟩) (ys.length + 1) c) := (zkc hb1 0).trans rfl)
  rw [hout, hlen2] at JA
  obtain ⟨g1, g2, g3⟩ := JA.out W1 _ nq hown' hgrow
  refine ⟨g1, hK _ _ g2, ?_⟩
  show JoinIn w (Bd.join (pre ++ [x])) _
  rw [Bd.join_snoc, hout, Bd.join1_more (by omega)]
  exact g3
 case done =>
  rintro D xs V hD hS hI hDV
  obtain ⟨v, hbox, hrow⟩ := hI.row
  obtain ⟨A, c, rfl⟩ := own_slice hrow
  have hz := (zkc hbox 0).trans rfl
  have hfz := zkz hbox 0
  gi_wp2
  have hne : D ≠ w.heap.size := by
   intro e
   rw [e] at hDV
   rw [hDV] at hbox
   cases hbox
  have hDB : w.heap.size ≤ D := by
   have := hD
   simp at this
   omega
  obtain ⟨V2, hV2⟩ : ∃ V2, V.setCell ⟨w.heap.size, 0, none⟩ (.slice A (Bd.join xs).length c) = V2 := ⟨_, rfl⟩
  rw [hV2]
  have k1 : V2.heap[w.heap.size]? = some (.cells #[.slice A (Bd.join xs).length c] 44 (0, 0)) := by rw [← hV2]; exact blk_put hbox 0 _ rfl
  have k2 : V2.heap[D]? = some (.deferred (some [])) := by rw [← hV2, Below.heap_setCell _ _ _ D (by show D ≠ w.heap.size; omega)]; exact hDV
  have k3 : V2.ownsRow (w.heap.size + 1) 32 2 (.slice A (Bd.join xs).length c) (Bd.join xs).length (Bd.flat (Bd.join xs)) := by
   rw [← hV2]
   refine own_move hrow fun k hk => Below.heap_setCell _ _ _ k ?_
   show k ≠ w.heap.size
   have := own_base hrow k hk
   omega
  have k4 : Below w.heap.size w V2 := by rw [← hV2]; exact zbs hI.below (Nat.le_refl _)
  refine ⟨by simp, .inl ⟨D, V2.putObj D (.deferred none), rfl, run_takeDeferred k2, ⟨_, bd_results_cell rfl _ _ w.heap.size 44 _ rfl (by simpa [World.putObj, hne] using k1) Try.underlying44, _, xs, rfl, hS, ownsRow_putObj k3 _ k2 rfl, ?_⟩⟩⟩
  refine k4.trans ⟨rfl, rfl, rfl, by simp [World.putObj], fun k hk => ?_⟩
  have h1 : D ≠ k := by omega
  simp [World.putObj, h1]
 case stop =>
  rintro D c pre V _ _ h _
  exact h.elim
end Go.Proofs.Ytlkafgibgipodaa.P
namespace Go.Proofs.Ytlkafgibgipodaa.P
open Go.RowKit Go.Proofs.YtlkafgibgipodaaW.PrintWords Go.Proofs.YtlkafgibgipodaaW.PrintLast Go.Proofs.YtlkafgibgipodaaW.PrintMore
attribute [local go_sem] max2_int min2_int max_two min_two max_three min_three max_four min_four   -- for this text's walks alone
set_option linter.unusedVariables false
set_option linter.unusedSimpArgs false
open Go.Shelf Go.Lib Go.Sort
theorem lower_grow (a0 a1 b0 b1 : Int) (W : World) : Calls Try.prog 92 #[.agg #[.int .i64 a0, .int .i64 a1], .agg #[.int .i64 b0, .int .i64 b1]] W fun e w' => e = .returned (.bool (decide (a0 < b0))) ∧ ∃ os', w' = grow (W.drewN 0) os' := by
 have hu32 := Try.underlying32
 go_enter Try.func92, Try.ntmps92
 go_wp2
 go_ret
 exact ⟨rfl, _, by rw [alloc_eq_grow, alloc_eq_grow, grow_grow]; rfl⟩
def spanCmp (x y : S32) : Int := if x.f0 < y.f0 then -1 else if y.f0 < x.f0 then 1 else 0
theorem two_boxes (W : World) (a b : Array Value) (ta tb : TypeId) :
  ((W.alloc (.cells a ta)).alloc (.cells b tb)).heap[W.heap.size]? = some (.cells a ta (0, 0)) ∧ ((W.alloc (.cells a ta)).alloc (.cells b tb)).heap[W.heap.size + 1]? = some (.cells b tb (0, 0)) := by
 have h2 := blk_new (W.alloc (.cells a ta)) (.cells b tb)
 rw [World.size_alloc] at h2
 exact ⟨zka (blk_new W _) _, h2⟩
theorem blk_grown0 {W : World} {g : Nat} {o : Obj} (h : W.heap[g]? = some o) (n : Nat) (os : Array Obj) : (grow (W.drewN n) os).heap[g]? = some o := by
 show (W.heap ++ os)[g]? = some o
 rw [Array.getElem?_append_left (blk_lt h)]
 exact h
set_option maxRecDepth 100000 in
set_option maxHeartbeats 4000000 in
theorem cmp_grow (x y : S32) (W : World) : Calls Try.prog 97 #[.agg #[.int .i64 x.f0, .int .i64 x.f1], .agg #[.int .i64 y.f0, .int .i64 y.f1]] W fun e w' => e = .returned (.int .i64 (spanCmp x y)) ∧ ∃ q os', w' = grow (W.drewN q) os' := by
 have hu32 := Try.underlying32
 have L1 := zam (fun W => lower_grow x.f0 x.f1 y.f0 y.f1 W)
 have L2 := zam (fun W => lower_grow y.f0 y.f1 x.f0 x.f1 W)
 have TB := zam (two_boxes W #[.int .i64 x.f0, .int .i64 x.f1] #[.int .i64 y.f0, .int .i64 y.f1] 32 32)
 unfold spanCmp
 by_cases c1 : x.f0 < y.f0
 ·have d1 : decide (x.f0 < y.f0) = true := zdt c1
  rw [if_pos c1]
  clear c1
  rw [d1] at L1
  go_enter Try.func97, Try.ntmps97
  go_wp2_with (go_at_call 92; (refine (L1.out _).mono ?_); rintro e w2 ⟨rfl, os1, rfl⟩)
  go_ret
  exact ⟨rfl, 0, _, by rw [alloc_eq_grow, alloc_eq_grow, grow_grow]; exact congrArg (fun W => grow W os1) rfl |>.trans (grow_grow _ _ _)⟩
 have d1 : decide (x.f0 < y.f0) = false := zdf c1
 rw [if_neg c1]
 clear c1
 rw [d1] at L1
 by_cases c2 : y.f0 < x.f0
 ·have d2 : decide (y.f0 < x.f0) = true := zdt c2
  rw [if_pos c2]
  clear c2
  rw [d2] at L2
  go_enter Try.func97, Try.ntmps97
  go_wp2_with (first | (go_at_call 92; (refine (L1.out _).mono ?_); rintro e w2 ⟨rfl, os1, rfl⟩; have hz0 := (zkc (blk_grown0 TB.out.1 0 os1) 0).trans rfl; have hz1 := (zkc (blk_grown0 TB.out.1 0 os1) 1).trans rfl; have hz2 := (zkc (blk_grown0 TB.out.2 0 os1) 0).trans rfl; have hz3 := (zkc (blk_grown0 TB.out.2 0 os1) 1).trans rfl) | (go_at_call 92; (refine (L2.out _).mono ?_); rintro e w2 ⟨rfl, os2, rfl⟩))
  go_ret
  exact ⟨rfl, 0, _, by rw [alloc_eq_grow, alloc_eq_grow, grow_grow]; exact (congrArg (fun W => grow W os2) (grow_grow _ _ _)).trans (grow_grow _ _ _)⟩
 have d2 : decide (y.f0 < x.f0) = false := zdf c2
 rw [if_neg c2]
 clear c2
 rw [d2] at L2
 go_enter Try.func97, Try.ntmps97
 go_wp2_with (first | (go_at_call 92; (refine (L1.out _).mono ?_); rintro e w2 ⟨rfl, os1, rfl⟩; have hz0 := (zkc (blk_grown0 TB.out.1 0 os1) 0).trans rfl; have hz1 := (zkc (blk_grown0 TB.out.1 0 os1) 1).trans rfl; have hz2 := (zkc (blk_grown0 TB.out.2 0 os1) 0).trans rfl; have hz3 := (zkc (blk_grown0 TB.out.2 0 os1) 1).trans rfl) | (go_at_call 92; (refine (L2.out _).mono ?_); rintro e w2 ⟨rfl, os2, rfl⟩))
 go_ret
 exact ⟨rfl, 0, _, by rw [alloc_eq_grow, alloc_eq_grow, grow_grow]; exact (congrArg (fun W => grow W os2) (grow_grow _ _ _)).trans (grow_grow _ _ _)⟩
end Go.Proofs.Ytlkafgibgipodaa.P
namespace Go.Proofs.Ytlkafgibgipodaa.P
open Go.RowKit Go.Proofs.YtlkafgibgipodaaW.PrintWords Go.Proofs.YtlkafgibgipodaaW.PrintLast Go.Proofs.YtlkafgibgipodaaW.PrintMore
attribute [local go_sem] max2_int min2_int max_two min_two max_three min_three max_four min_four   -- for this text's walks alone
set_option linter.unusedVariables false
set_option linter.unusedSimpArgs false
def laySortSpan_ren : Go.Shelf.Ren := ⟨fun | 6 => 96 | 15 => 124 | 14 => 123 | 28 => 135 | 29 => 136 | 20 => 127 | 21 => 128 | 22 => 129 | 23 => 130 | 24 => 131 | 25 => 132 | 26 => 133 | 27 => 134 | 46 => 138 | 47 => 139 | 48 => 140 | 49 => 141 | 50 => 142 | 57 => 143 | n => n, fun | 22 => 44 | 24 => 32 | 25 => 103 | 3 => 3 | 39 => 29 | 0 => 0 | 53 => 127 | 55 => 129 | 4 => 4 | 46 => 120 | 45 => 119 | 50 => 124 | 5 => 5 | 9 => 9 | 66 => 130 | 70 => 134 | 76 => 136 | 77 => 137 | n => n, fun | n => n⟩
theorem laySortSpan : Go.Proofs.SlLaysF0.n6 Try.prog laySortSpan_ren := {
 mixed := by kernel_rfl,
 f6 := ⟨Try.f96.name, by decide, Try.func96.trans (congrArg some (by kernel_rfl))⟩,
 f14 := ⟨Try.f123.name, by decide, Try.func123.trans (congrArg some (by kernel_rfl))⟩,
 f15 := Try.func124.trans (congrArg some (by kernel_rfl)),
 f20 := ⟨Try.f127.name, by decide, Try.func127.trans (congrArg some (by kernel_rfl))⟩,
 f21 := ⟨Try.f128.name, by decide, Try.func128.trans (congrArg some (by kernel_rfl))⟩,
 f22 := ⟨Try.f129.name, by decide, Try.func129.trans (congrArg some (by kernel_rfl))⟩,
 f23 := ⟨Try.f130.name, by decide, Try.func130.trans (congrArg some (by kernel_rfl))⟩,
 f24 := ⟨Try.f131.name, by decide, Try.func131.trans (congrArg some (by kernel_rfl))⟩,
 f25 := ⟨Try.f132.name, by decide, Try.func132.trans (congrArg some (by kernel_rfl))⟩,
 f26 := ⟨Try.f133.name, by decide, Try.func133.trans (congrArg some (by kernel_rfl))⟩,
 f27 := ⟨Try.f134.name, by decide, Try.func134.trans (congrArg some (by kernel_rfl))⟩,
 f28 := Try.func135.trans (congrArg some (by kernel_rfl)),
 f29 := Try.func136.trans (congrArg some (by kernel_rfl)),
 f46 := ⟨Try.f138.name, by decide, Try.func138.trans (congrArg some (by kernel_rfl))⟩,
 f47 := Try.func139.trans (congrArg some (by kernel_rfl)),
 f48 := Try.func140.trans (congrArg some (by kernel_rfl)),
 f49 := ⟨Try.f141.name, by decide, Try.func141.trans (congrArg some (by kernel_rfl))⟩,
 f50 := ⟨Try.f142.name, by decide, Try.func142.trans (congrArg some (by kernel_rfl))⟩,
 f57 := ⟨Try.f143.name, by decide, Try.func143.trans (congrArg some (by kernel_rfl))⟩,
 t0 := Try.underlying0,
 a0 := Try.isAgg0,
 z0 := Try.sizeOf0,
 v0 := Try.zeroValue0,
 t3 := Try.underlying3,
 a3 := Try.isAgg3,
 z3 := Try.sizeOf3,
 v3 := Try.zeroValue3,
 t4 := Try.underlying4,
 a4 := Try.isAgg4,
 z4 := Try.sizeOf4,
 v4 := Try.zeroValue4,
 t5 := Try.underlying5,
 a5 := Try.isAgg5,
 z5 := Try.sizeOf5,
 v5 := Try.zeroValue5,
 t9 := Try.underlying9,
 a9 := Try.isAgg9,
 z9 := Try.sizeOf9,
 v9 := Try.zeroValue9,
 t22 := Try.underlying44,
 a22 := Try.isAgg44,
 z22 := Try.sizeOf44,
 v22 := Try.zeroValue44,
 t25 := Try.underlying103,
 a25 := Try.isAgg103,
 z25 := Try.sizeOf103,
 v25 := Try.zeroValue103,
 t39 := Try.underlying29,
 a39 := Try.isAgg29,
 z39 := Try.sizeOf29,
 v39 := Try.zeroValue29,
 t45 := Try.underlying119,
 a45 := Try.isAgg119,
 z45 := Try.sizeOf119,
 v45 := Try.zeroValue119,
 t46 := Try.underlying120,
 a46 := Try.isAgg120,
 z46 := Try.sizeOf120,
 v46 := Try.zeroValue120,
 t50 := Try.underlying124,
 a50 := Try.isAgg124,
 z50 := Try.sizeOf124,
 v50 := Try.zeroValue124,
 t53 := Try.underlying127,
 a53 := Try.isAgg127,
 z53 := Try.sizeOf127,
 v53 := Try.zeroValue127,
 t55 := Try.underlying129,
 a55 := Try.isAgg129,
 z55 := Try.sizeOf129,
 v55 := Try.zeroValue129,
 t66 := Try.underlying130,
 a66 := Try.isAgg130,
 z66 := Try.sizeOf130,
 v66 := Try.zeroValue130,
 t70 := Try.underlying134,
 a70 := Try.isAgg134,
 z70 := Try.sizeOf134,
 v70 := Try.zeroValue134,
 t76 := Try.underlying136,
 a76 := Try.isAgg136,
 z76 := Try.sizeOf136,
 v76 := Try.zeroValue136,
 t77 := Try.underlying137,
 a77 := Try.isAgg137,
 z77 := Try.sizeOf137,
 v77 := Try.zeroValue137 }
end Go.Proofs.Ytlkafgibgipodaa.P
