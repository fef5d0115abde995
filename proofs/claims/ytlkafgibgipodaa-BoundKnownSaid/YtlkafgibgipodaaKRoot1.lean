/- The root of the program, and Works. Part 2 of 2. -/
-- Put together by wip/tools/shake.py, a program of this work: out of the words that the kit's print tool (print.sh) writes for a claim and what wip/tools/xprint.py prints, those that this claim reaches, and this work's own texts.
import Derived.Laws.EntriesVeiled
import Derived.Laws.Externs
import Derived.RangeFuncBox
import Derived.RangeFuncNested
import Derived.RangeFuncBound
import Derived.RangeFuncCalls
import Derived.RangeFuncLeaves
import Derived.Shelf.Abstract
import Derived.Shelf.RegionOpen
import Derived.OwnWalkIn
import Derived.TacticsInMore
import Derived.LoopNIn
import Derived.LoopIn
import Derived.Sort.QuietIn
import Derived.Maps.AppendAt
import Derived.Sort.LoopGhostIn
import Derived.Shelf.SlSortCmp.WholeK
import Derived.Deep.Slices
import Derived.OpenShut
import Derived.Test.YtlkafgibgipodaaKRoot0
namespace Go.Proofs.Ytlkafgibgipodaa.P
open Go.RowKit Go.Proofs.YtlkafgibgipodaaW.PrintWords Go.Proofs.YtlkafgibgipodaaW.PrintLast Go.Proofs.YtlkafgibgipodaaW.PrintMore
attribute [local go_sem] max2_int min2_int max_two min_two max_three min_three max_four min_four   -- for this text's walks alone
set_option linter.unusedVariables false
set_option linter.unusedSimpArgs false
def bound_least.f (k : Nat) (l0 : List Int) : Option (Int × Int) := (slices_Min_int64_int64.f k l0).bind fun t102 => ((slices_Max_int64_int64.f k l0).bind fun t103 => (some (t102, t103)))
set_option maxHeartbeats 8000000 in
set_option maxRecDepth 100000 in
theorem bound_least.calls (k : Nat) (A0 : Option Addr) (c0 : Nat) (l0 : List Int) (r1 : Int) (r2 : Int) (w : World) (hr0 : Kd.C (Kd.int .i64) w A0 l0.length l0) (hc0 : l0.length ≤ c0) (h : bound_least.f k l0 = some (r1, r2)) :
  Calls Try.prog 83 #[.slice A0 l0.length c0] w fun e w' => e = .returned (.agg #[.int .i64 r1, .int .i64 r2]) ∧ Below w.heap.size w w' := by
 have hu32 := Try.underlying32
 have HR0 := zam hr0
 have HC0 := zam hc0
 clear hr0 hc0
 have HB := zam (Below.refl w.heap.size w)
 have H : ((slices_Min_int64_int64.f k l0).bind fun t102 => ((slices_Max_int64_int64.f k l0).bind fun t103 => (some (t102, t103)))) = some (r1, r2) := h
 clear h
 replace H := Option.bind_eq_some_iff.mp H
 obtain ⟨t102, A20, H⟩ := H
 replace H : ((slices_Max_int64_int64.f k l0).bind fun t103 => (some (t102, t103))) = some (r1, r2) := H
 have A2 := zam A20
 clear A20
 replace H := Option.bind_eq_some_iff.mp H
 obtain ⟨t103, A30, H⟩ := H
 replace H : (some (t102, t103)) = some (r1, r2) := H
 have A3 := zam A30
 clear A30
 simp only [Option.some.injEq, Prod.mk.injEq] at H
 obtain ⟨rfl, rfl⟩ := H
 go_enter Try.func83, Try.ntmps83
 go_wp2_with (first | ((with_reducible refine zgd (N := 2) rfl ?_); refine box_event ?hg (N := 2) ?hd (cs := #[.int .i64 0, .int .i64 0]) (t := 32) ?hr ?_; (case hd => rfl); (case hg => rfl); (case hr => first | (go_simp; done) | (go_simp; rfl)); intro gb101 hg w4 hbox hb; have n0_ := zam (zbt (by repeat (first | (with_reducible first | exact HB.out | apply zba | apply zbn | apply zb1) | exact HB.out)) hb); have n1_ := zam (hbox); have n2_ := zam ((by rw [hg]; exact (zbz (by repeat (first | (with_reducible first | exact HB.out | apply zba | apply zbn | apply zb1) | exact HB.out))) : w.heap.size ≤ gb101)); have n3_ := zam ((by rw [hg]; exact (zbz (by repeat (first | (with_reducible first | exact HB.out | apply zba | apply zbn | apply zb1) | exact HB.out))) : w.heap.size ≤ gb101)); clear HB; have HB := n0_; have BK101 := n1_; have GW101 := n2_; have GE101 := n3_; clear n0_ n1_ n2_ n3_; clear hb hbox hg) | ((with_reducible refine zgc (f := 119) rfl ?_); refine goesL_ (some 4) rfl rfl Try.func119 (by kernel_rfl) rfl #[.slice A0 l0.length c0] rfl (by (try simp only [zmt, List.map_cons, List.map_nil]); first | done | rfl | (simp only [zld, zlt]; rfl)) ?_; (with_reducible refine (slices_Min_int64_int64.calls k _ _ l0 t102 _ ?side1 ?side2 A2.out).mono ?_); (case side1 => repeat (first | exact (Kd.C_below HR0.out HB.out) | (with_reducible refine Kd.C_alloc ?_ _) | (with_reducible refine Kd.C_drewN ?_ _) | (with_reducible refine Kd.C_drew ?_))); (case side2 => exact HC0.out); rintro e w5 ⟨rfl, hb⟩; refine ⟨_, rfl, ?_⟩; have n0_ := zam (zkb (g := gb101) (o := .cells #[.int .i64 0, .int .i64 0] 32 (0, 0)) (by (with_reducible repeat (first | refine zkn ?_ _ | refine zkd ?_ | refine zka ?_ _)); exact BK101.out) hb); have n1_ := zam (zbt (by repeat (first | (with_reducible first | exact HB.out | apply zba | apply zbn | apply zb1 | refine zbs ?_ GE101.out) | exact HB.out)) hb); clear BK101; clear HB; have BK101 := n0_; have HB := n1_; clear n0_ n1_; (try clear hb); (try clear hb2); (try clear hk); (try clear hi)) | ((with_reducible refine zgc (f := 120) rfl ?_); refine goesL_ (some 6) rfl rfl Try.func120 (by kernel_rfl) rfl #[.slice A0 l0.length c0] rfl (by (try simp only [zmt, List.map_cons, List.map_nil]); first | done | rfl | (simp only [zld, zlt]; rfl)) ?_; (with_reducible refine (slices_Max_int64_int64.calls k _ _ l0 t103 _ ?side1 ?side2 A3.out).mono ?_); (case side1 => repeat (first | exact (Kd.C_below HR0.out HB.out) | (with_reducible refine Kd.C_alloc ?_ _) | (with_reducible refine Kd.C_drewN ?_ _) | (with_reducible refine Kd.C_drew ?_))); (case side2 => exact HC0.out); rintro e w6 ⟨rfl, hb⟩; refine ⟨_, rfl, ?_⟩; have n0_ := zam (zkb (g := gb101) (o := .cells #[.int .i64 0, .int .i64 0] 32 (0, 0)) (by (with_reducible repeat (first | refine zkn ?_ _ | refine zkd ?_ | refine zka ?_ _)); exact BK101.out) hb); have n1_ := zam (zbt (by repeat (first | (with_reducible first | exact HB.out | apply zba | apply zbn | apply zb1 | refine zbs ?_ GE101.out) | exact HB.out)) hb); clear BK101; clear HB; have BK101 := n0_; have HB := n1_; clear n0_ n1_; (try clear hb); (try clear hb2); (try clear hk); (try clear hi); have hcz7_0 : w6.cell? ⟨gb101, 0, none⟩ = some (.int .i64 0) := (zkc BK101.out 0).trans rfl; have hcz7_1 : w6.cell? ⟨gb101, 1, none⟩ = some (.int .i64 0) := (zkc BK101.out 1).trans rfl; have hfz7_0 := zkz BK101.out 0; have hfz7_1 := zkz BK101.out 1))
 refine zbr (results_cell_row rfl _ _ gb101 32 #[.int .i64 t102, .int .i64 t103] (0, 0) _ rfl (by (with_reducible repeat (first | refine zkn ?_ _ | refine zkd ?_ | refine zka ?_ _)); refine blk_put (cs := #[.int .i64 t102, .int .i64 0]) ?_ 1 _ rfl; (with_reducible repeat (first | refine zkn ?_ _ | refine zkd ?_ | refine zka ?_ _)); refine blk_put (cs := #[.int .i64 0, .int .i64 0]) ?_ 0 _ rfl; (with_reducible repeat (first | refine zkn ?_ _ | refine zkd ?_ | refine zka ?_ _)); exact BK101.out) Try.underlying32 rfl (by kernel_rfl)) rfl ?_
 exact ⟨by first | rfl | (simp [errW_none, errW_some] <;> rfl) | (simp [*, errW_none, errW_some] <;> rfl), by repeat (first | (with_reducible first | exact HB.out | apply zba | apply zbn | apply zb1 | refine zbs ?_ GE101.out) | exact HB.out)⟩
def bound_Mul.f (k : Nat) (a0_0 : Int) (a0_1 : Int) (a1_0 : Int) (a1_1 : Int) : Option (Int × Int × Int) := (bound_check.f k (([(⟨a0_0, a0_1⟩ : S32), (⟨a1_0, a1_1⟩ : S32)] : List (S32)))).bind fun t107 => (if t107 = 0 then ((bound_least.f k (([wrap64 (a0_0 * a1_0), wrap64 (a0_0 * a1_1), wrap64 (a0_1 * a1_0), wrap64 (a0_1 * a1_1)] : List Int))).bind fun bt111 => ((bound_over.f k bt111.1 bt111.2).bind fun bt113 => (some (bt113.1, bt113.2.1, bt113.2.2)))) else (some (0, 0, t107)))
set_option maxHeartbeats 8000000 in
set_option maxRecDepth 100000 in
theorem bound_Mul.calls (k : Nat) (a0_0 : Int) (a0_1 : Int) (a1_0 : Int) (a1_1 : Int) (r1 : Int) (r2 : Int) (r3 : Int) (w : World) (h : bound_Mul.f k a0_0 a0_1 a1_0 a1_1 = some (r1, r2, r3)) :
  Calls Try.prog 28 #[.agg #[.int .i64 a0_0, .int .i64 a0_1], .agg #[.int .i64 a1_0, .int .i64 a1_1]] w fun e w' => e = .returned (.tuple #[.agg #[.int .i64 r1, .int .i64 r2], .int .i64 r3]) ∧ Below w.heap.size w w' := by
 have hu32 := Try.underlying32
 have HB := zam (Below.refl w.heap.size w)
 have H : ((bound_check.f k (([(⟨a0_0, a0_1⟩ : S32), (⟨a1_0, a1_1⟩ : S32)] : List (S32)))).bind fun t107 => (if t107 = 0 then ((bound_least.f k (([wrap64 (a0_0 * a1_0), wrap64 (a0_0 * a1_1), wrap64 (a0_1 * a1_0), wrap64 (a0_1 * a1_1)] : List Int))).bind fun bt111 => ((bound_over.f k bt111.1 bt111.2).bind fun bt113 => (some (bt113.1, bt113.2.1, bt113.2.2)))) else (some (0, 0, t107)))) = some (r1, r2, r3) := h
 clear h
 obtain ⟨y104, hy104⟩ : ∃ y_ : List (S32), y_ = (([(⟨a0_0, a0_1⟩ : S32), (⟨a1_0, a1_1⟩ : S32)] : List (S32))) := ⟨_, rfl⟩
 replace H : ((bound_check.f k y104).bind fun t107 => (if t107 = 0 then ((bound_least.f k (([wrap64 (a0_0 * a1_0), wrap64 (a0_0 * a1_1), wrap64 (a0_1 * a1_0), wrap64 (a0_1 * a1_1)] : List Int))).bind fun bt111 => ((bound_over.f k bt111.1 bt111.2).bind fun bt113 => (some (bt113.1, bt113.2.1, bt113.2.2)))) else (some (0, 0, t107)))) = some (r1, r2, r3) := by first | (rw [hy104]; with_reducible exact H) | (have H2_ := (Option.bind_some _ _).symm.trans H; rw [hy104]; with_reducible exact H2_) | (have H2_ := (Option.bind_some _ _).symm.trans H; with_reducible exact H2_) | with_reducible exact H | (rw [hy104]; exact H) | exact H
 have Ny104 := zam hy104
 clear hy104
 replace H := Option.bind_eq_some_iff.mp H
 obtain ⟨t107, A30, H⟩ := H
 replace H : (if t107 = 0 then ((bound_least.f k (([wrap64 (a0_0 * a1_0), wrap64 (a0_0 * a1_1), wrap64 (a0_1 * a1_0), wrap64 (a0_1 * a1_1)] : List Int))).bind fun bt111 => ((bound_over.f k bt111.1 bt111.2).bind fun bt113 => (some (bt113.1, bt113.2.1, bt113.2.2)))) else (some (0, 0, t107))) = some (r1, r2, r3) := H
 have A3 := zam A30
 clear A30
 by_cases c4 : t107 = 0
 ·rw [if_pos c4] at H
  have c4b0 : (t107 == 0) = true := beq_iff_eq.mpr c4
  have c4b1 : (t107 != 0) = false := bne_eq_false_iff_eq.mpr c4
  clear c4
  obtain ⟨y108, hy108⟩ : ∃ y_ : List Int, y_ = (([wrap64 (a0_0 * a1_0), wrap64 (a0_0 * a1_1), wrap64 (a0_1 * a1_0), wrap64 (a0_1 * a1_1)] : List Int)) := ⟨_, rfl⟩
  replace H : ((bound_least.f k y108).bind fun bt111 => ((bound_over.f k bt111.1 bt111.2).bind fun bt113 => (some (bt113.1, bt113.2.1, bt113.2.2)))) = some (r1, r2, r3) := by first | (rw [hy108]; with_reducible exact H) | (have H2_ := (Option.bind_some _ _).symm.trans H; rw [hy108]; with_reducible exact H2_) | (have H2_ := (Option.bind_some _ _).symm.trans H; with_reducible exact H2_) | with_reducible exact H | (rw [hy108]; exact H) | exact H
  have Ny108 := zam hy108
  clear hy108
  replace H := Option.bind_eq_some_iff.mp H
  obtain ⟨⟨t111, t112⟩, A50, H⟩ := H
  replace H : ((bound_over.f k t111 t112).bind fun bt113 => (some (bt113.1, bt113.2.1, bt113.2.2))) = some (r1, r2, r3) := H
  have A5 := zam A50
  clear A50
  replace H := Option.bind_eq_some_iff.mp H
  obtain ⟨⟨t113, t114, t115⟩, A60, H⟩ := H
  replace H : (some (t113, t114, t115)) = some (r1, r2, r3) := H
  have A6 := zam A60
  clear A60
  simp only [Option.some.injEq, Prod.mk.injEq] at H
  obtain ⟨rfl, rfl, rfl⟩ := H
  go_enter Try.func28, Try.ntmps28
  go_wp2_with (first | ((with_reducible refine zgd (N := 2) rfl ?_); refine box_event ?hg (N := 2) ?hd (cs := #[.int .i64 a0_0, .int .i64 a0_1]) (t := 32) ?hr ?_; (case hd => rfl); (case hg => rfl); (case hr => first | (go_simp; done) | (go_simp; rfl)); intro gb101 hg w7 hbox hb; have n0_ := zam (zbt (by repeat (first | (with_reducible first | exact HB.out | apply zba | apply zbn | apply zb1) | exact HB.out)) hb); have n1_ := zam (hbox); have n2_ := zam ((by rw [hg]; exact (zbz (by repeat (first | (with_reducible first | exact HB.out | apply zba | apply zbn | apply zb1) | exact HB.out))) : w.heap.size ≤ gb101)); have n3_ := zam ((by rw [hg]; exact (zbz (by repeat (first | (with_reducible first | exact HB.out | apply zba | apply zbn | apply zb1) | exact HB.out))) : w.heap.size ≤ gb101)); clear HB; have HB := n0_; have BK101 := n1_; have GW101 := n2_; have GE101 := n3_; clear n0_ n1_ n2_ n3_; clear hb hbox hg) | ((with_reducible refine zgd (N := 3) rfl ?_); refine box_event ?hg (N := 3) ?hd (cs := #[.int .i64 a1_0, .int .i64 a1_1]) (t := 32) ?hr ?_; (case hd => rfl); (case hg => rfl); (case hr => first | (go_simp; done) | (go_simp; rfl)); intro gb102 hg w8 hbox hb; have n0_ := zam (zkb (g := gb101) (o := .cells #[.int .i64 a0_0, .int .i64 a0_1] 32 (0, 0)) (by (with_reducible repeat (first | refine zkn ?_ _ | refine zkd ?_ | refine zka ?_ _)); exact BK101.out) hb); have n1_ := zam (zbt (by repeat (first | (with_reducible first | exact HB.out | apply zba | apply zbn | apply zb1 | refine zbs ?_ GE101.out) | exact HB.out)) hb); have n2_ := zam (hbox); have n3_ := zam ((by rw [hg]; exact (zbz (by repeat (first | (with_reducible first | exact HB.out | apply zba | apply zbn | apply zb1 | refine zbs ?_ GE101.out) | exact HB.out))) : w.heap.size ≤ gb102)); have n4_ := zam ((by rw [hg]; exact (zbz (by repeat (first | (with_reducible first | exact HB.out | apply zba | apply zbn | apply zb1 | refine zbs ?_ GE101.out) | exact HB.out))) : w.heap.size ≤ gb102)); have n5_ := zam ((by rw [hg]; exact Nat.ne_of_lt (blk_lt (g := gb101) (o := .cells #[.int .i64 a0_0, .int .i64 a0_1] 32 (0, 0)) (by (with_reducible repeat (first | refine zkn ?_ _ | refine zkd ?_ | refine zka ?_ _)); exact BK101.out)) : gb101 ≠ gb102)); have n6_ := zam ((by rw [hg]; exact Nat.ne_of_gt (blk_lt (g := gb101) (o := .cells #[.int .i64 a0_0, .int .i64 a0_1] 32 (0, 0)) (by (with_reducible repeat (first | refine zkn ?_ _ | refine zkd ?_ | refine zka ?_ _)); exact BK101.out)) : gb102 ≠ gb101)); clear BK101; clear HB; have BK101 := n0_; have HB := n1_; have BK102 := n2_; have GW102 := n3_; have GE102 := n4_; have NB101_102 := n5_; have NB102_101 := n6_; clear n0_ n1_ n2_ n3_ n4_ n5_ n6_; clear hb hbox hg) | ((with_reducible refine zgd (N := 4) rfl ?_); refine box_event ?hg (N := 4) ?hd (cs := #[.int .i64 0, .int .i64 0]) (t := 32) ?hr ?_; (case hd => rfl); (case hg => rfl); (case hr => first | (go_simp; done) | (go_simp; rfl)); intro gb103 hg w9 hbox hb; have n0_ := zam (zkb (g := gb101) (o := .cells #[.int .i64 a0_0, .int .i64 a0_1] 32 (0, 0)) (by (with_reducible repeat (first | refine zkn ?_ _ | refine zkd ?_ | refine zka ?_ _)); exact BK101.out) hb); have n1_ := zam (zkb (g := gb102) (o := .cells #[.int .i64 a1_0, .int .i64 a1_1] 32 (0, 0)) (by (with_reducible repeat (first | refine zkn ?_ _ | refine zkd ?_ | refine zka ?_ _)); exact BK102.out) hb); have n2_ := zam (zbt (by repeat (first | (with_reducible first | exact HB.out | apply zba | apply zbn | apply zb1 | refine zbs ?_ GE101.out | refine zbs ?_ GE102.out) | exact HB.out)) hb); have n3_ := zam (hbox); have n4_ := zam ((by rw [hg]; exact (zbz (by repeat (first | (with_reducible first | exact HB.out | apply zba | apply zbn | apply zb1 | refine zbs ?_ GE101.out | refine zbs ?_ GE102.out) | exact HB.out))) : w.heap.size ≤ gb103)); have n5_ := zam ((by rw [hg]; exact (zbz (by repeat (first | (with_reducible first | exact HB.out | apply zba | apply zbn | apply zb1 | refine zbs ?_ GE101.out | refine zbs ?_ GE102.out) | exact HB.out))) : w.heap.size ≤ gb103)); have n6_ := zam ((by rw [hg]; exact Nat.ne_of_lt (blk_lt (g := gb101) (o := .cells #[.int .i64 a0_0, .int .i64 a0_1] 32 (0, 0)) (by (with_reducible repeat (first | refine zkn ?_ _ | refine zkd ?_ | refine zka ?_ _)); exact BK101.out)) : gb101 ≠ gb103)); have n7_ := zam ((by rw [hg]; exact Nat.ne_of_gt (blk_lt (g := gb101) (o := .cells #[.int .i64 a0_0, .int .i64 a0_1] 32 (0, 0)) (by (with_reducible repeat (first | refine zkn ?_ _ | refine zkd ?_ | refine zka ?_ _)); exact BK101.out)) : gb103 ≠ gb101)); have n8_ := zam ((by rw [hg]; exact Nat.ne_of_lt (blk_lt (g := gb102) (o := .cells #[.int .i64 a1_0, .int .i64 a1_1] 32 (0, 0)) (by (with_reducible repeat (first | refine zkn ?_ _ | refine zkd ?_ | refine zka ?_ _)); exact BK102.out)) : gb102 ≠ gb103)); have n9_ := zam ((by rw [hg]; exact Nat.ne_of_gt (blk_lt (g := gb102) (o := .cells #[.int .i64 a1_0, .int .i64 a1_1] 32 (0, 0)) (by (with_reducible repeat (first | refine zkn ?_ _ | refine zkd ?_ | refine zka ?_ _)); exact BK102.out)) : gb103 ≠ gb102)); clear BK101; clear BK102; clear HB; have BK101 := n0_; have BK102 := n1_; have HB := n2_; have BK103 := n3_; have GW103 := n4_; have GE103 := n5_; have NB101_103 := n6_; have NB103_101 := n7_; have NB102_103 := n8_; have NB103_102 := n9_; clear n0_ n1_ n2_ n3_ n4_ n5_ n6_ n7_ n8_ n9_; clear hb hbox hg; have hnb10 := NB101_102.out; have hnc10 := NB102_101.out; have hnb11 := NB101_103.out; have hnc11 := NB103_101.out; have hcz12_0 : w9.cell? ⟨gb101, 0, none⟩ = some (.int .i64 a0_0) := (zkc BK101.out 0).trans rfl; have hcz12_1 : w9.cell? ⟨gb101, 1, none⟩ = some (.int .i64 a0_1) := (zkc BK101.out 1).trans rfl; have hfz12_0 := zkz BK101.out 0; have hfz12_1 := zkz BK101.out 1; have hnb13 := NB102_103.out; have hnc13 := NB103_102.out; have hcz14_0 : w9.cell? ⟨gb102, 0, none⟩ = some (.int .i64 a1_0) := (zkc BK102.out 0).trans rfl; have hcz14_1 : w9.cell? ⟨gb102, 1, none⟩ = some (.int .i64 a1_1) := (zkc BK102.out 1).trans rfl; have hfz14_0 := zkz BK102.out 0; have hfz14_1 := zkz BK102.out 1) | ((with_reducible refine zgd (N := 9) rfl ?_); refine Kd.R_lit k32 _ 32 ?hg (N := 9) ?hd (xs := ([(⟨a0_0, a0_1⟩ : S32), (⟨a1_0, a1_1⟩ : S32)] : List (S32))) (inner := [.int .i64 a0_0, .int .i64 a0_1, .int .i64 a1_0, .int .i64 a1_1]) (ok := fun _ => True) (okp := fun _ => True) ?hr ?hp (fun _ hk => hk) trivial (Below.refl _ _) (Nat.le_refl _) (by simp) ?_; (case hd => rfl); (case hg => rfl); (case hr => first | (go_simp; done) | (go_simp; rfl)); (case hp => exact (Reps.c2 (show Kd.M k32 _ _ _ (⟨a0_0, a0_1⟩ : S32) [.int .i64 a0_0, .int .i64 a0_1] from (k32_mkM _ _ _ (⟨a0_0, a0_1⟩ : S32) )) (Reps.c2 (show Kd.M k32 _ _ _ (⟨a1_0, a1_1⟩ : S32) [.int .i64 a1_0, .int .i64 a1_1] from (k32_mkM _ _ _ (⟨a1_0, a1_1⟩ : S32) )) (Reps.none _ _)))); intro v105 w15 ho16 hb hg_ hnew_; clear hg_ hnew_; (first | rw [← Ny104.out] at ho16 | (simp only [Int.reduceToNat] at ho16; rw [← Ny104.out] at ho16)); have n0_ := zam (Kd.R_lower (Kd.R_newB (Kd.R_newB (Kd.R_newB ho16 (g := gb101) (o := .cells #[.int .i64 a0_0, .int .i64 a0_1] 32 (0, 0)) (by (with_reducible repeat (first | refine zkn ?_ _ | refine zkd ?_ | refine zka ?_ _)); exact BK101.out)) (g := gb102) (o := .cells #[.int .i64 a1_0, .int .i64 a1_1] 32 (0, 0)) (by (with_reducible repeat (first | refine zkn ?_ _ | refine zkd ?_ | refine zka ?_ _)); exact BK102.out)) (g := gb103) (o := .cells #[.int .i64 0, .int .i64 0] 32 (0, 0)) (by (with_reducible repeat (first | refine zkn ?_ _ | refine zkd ?_ | refine zka ?_ _)); exact BK103.out)) (zbz (by repeat (first | (with_reducible first | exact HB.out | apply zba | apply zbn | apply zb1 | refine zbs ?_ GE101.out | refine zbs ?_ GE102.out | refine zbs ?_ GE103.out) | exact HB.out)))); have n1_ := zam (zkb (g := gb101) (o := .cells #[.int .i64 a0_0, .int .i64 a0_1] 32 (0, 0)) (by (with_reducible repeat (first | refine zkn ?_ _ | refine zkd ?_ | refine zka ?_ _)); exact BK101.out) hb); have n2_ := zam (zkb (g := gb102) (o := .cells #[.int .i64 a1_0, .int .i64 a1_1] 32 (0, 0)) (by (with_reducible repeat (first | refine zkn ?_ _ | refine zkd ?_ | refine zka ?_ _)); exact BK102.out) hb); have n3_ := zam (zkb (g := gb103) (o := .cells #[.int .i64 0, .int .i64 0] 32 (0, 0)) (by (with_reducible repeat (first | refine zkn ?_ _ | refine zkd ?_ | refine zka ?_ _)); exact BK103.out) hb); have n4_ := zam (zbt (by repeat (first | (with_reducible first | exact HB.out | apply zba | apply zbn | apply zb1 | refine zbs ?_ GE101.out | refine zbs ?_ GE102.out | refine zbs ?_ GE103.out) | exact HB.out)) hb); clear BK101; clear BK102; clear BK103; clear HB; have HO106 := n0_; have BK101 := n1_; have BK102 := n2_; have BK103 := n3_; have HB := n4_; clear n0_ n1_ n2_ n3_ n4_; clear hb ho16; obtain ⟨Ao17, co17, eo17⟩ := Kd.R_slice HO106.out; subst eo17) | ((with_reducible refine zgc (f := 80) rfl ?_); refine goesL_ (some 10) rfl rfl Try.func80 (by kernel_rfl) rfl #[.slice Ao17 y104.length co17] rfl (by (try simp only [zmt, List.map_cons, List.map_nil]); first | done | rfl | (simp only [zld, zlt]; rfl)) ?_; (with_reducible refine (bound_check.calls k _ _ y104 t107 _ ?side1 ?side2 A3.out).mono ?_); (case side1 => repeat (first | exact (Kd.R_reads' HO106.out).2.2 | (with_reducible refine Kd.C_alloc ?_ _) | (with_reducible refine Kd.C_drewN ?_ _) | (with_reducible refine Kd.C_drew ?_))); (case side2 => exact (Kd.R_reads' HO106.out).2.1); rintro e w18 ⟨rfl, hb⟩; refine ⟨_, rfl, ?_⟩; have n0_ := zam (Kd.R_below (by (with_reducible repeat (first | apply zRa | apply zRn | apply zRd)); exact HO106.out) hb); have n1_ := zam (zkb (g := gb101) (o := .cells #[.int .i64 a0_0, .int .i64 a0_1] 32 (0, 0)) (by (with_reducible repeat (first | refine zkn ?_ _ | refine zkd ?_ | refine zka ?_ _)); exact BK101.out) hb); have n2_ := zam (zkb (g := gb102) (o := .cells #[.int .i64 a1_0, .int .i64 a1_1] 32 (0, 0)) (by (with_reducible repeat (first | refine zkn ?_ _ | refine zkd ?_ | refine zka ?_ _)); exact BK102.out) hb); have n3_ := zam (zkb (g := gb103) (o := .cells #[.int .i64 0, .int .i64 0] 32 (0, 0)) (by (with_reducible repeat (first | refine zkn ?_ _ | refine zkd ?_ | refine zka ?_ _)); exact BK103.out) hb); have n4_ := zam (zbt (by repeat (first | (with_reducible first | exact HB.out | apply zba | apply zbn | apply zb1 | refine zbs ?_ GE101.out | refine zbs ?_ GE102.out | refine zbs ?_ GE103.out) | exact HB.out)) hb); clear HO106; clear BK101; clear BK102; clear BK103; clear HB; have HO106 := n0_; have BK101 := n1_; have BK102 := n2_; have BK103 := n3_; have HB := n4_; clear n0_ n1_ n2_ n3_ n4_; (try clear hb); (try clear hb2); (try clear hk); (try clear hi); have hcz19_0 : w18.cell? ⟨gb101, 0, none⟩ = some (.int .i64 a0_0) := (zkc BK101.out 0).trans rfl; have hcz19_1 : w18.cell? ⟨gb101, 1, none⟩ = some (.int .i64 a0_1) := (zkc BK101.out 1).trans rfl; have hfz19_0 := zkz BK101.out 0; have hfz19_1 := zkz BK101.out 1; have hcz20_0 : w18.cell? ⟨gb102, 0, none⟩ = some (.int .i64 a1_0) := (zkc BK102.out 0).trans rfl; have hcz20_1 : w18.cell? ⟨gb102, 1, none⟩ = some (.int .i64 a1_1) := (zkc BK102.out 1).trans rfl; have hfz20_0 := zkz BK102.out 0; have hfz20_1 := zkz BK102.out 1) | ((with_reducible refine zgd (N := 35) rfl ?_); refine Kd.R_lit (Kd.int .i64) _ 2 ?hg (N := 35) ?hd (xs := ([wrap64 (a0_0 * a1_0), wrap64 (a0_0 * a1_1), wrap64 (a0_1 * a1_0), wrap64 (a0_1 * a1_1)] : List Int)) (inner := [.int .i64 (wrap64 (a0_0 * a1_0)), .int .i64 (wrap64 (a0_0 * a1_1)), .int .i64 (wrap64 (a0_1 * a1_0)), .int .i64 (wrap64 (a0_1 * a1_1))]) (ok := fun _ => True) (okp := fun _ => True) ?hr ?hp (fun _ hk => hk) trivial (Below.refl _ _) (Nat.le_refl _) (by simp) ?_; (case hd => rfl); (case hg => rfl); (case hr => first | (go_simp; done) | (go_simp; rfl)); (case hp => exact (Reps.one (show Kd.M (Kd.int .i64) _ _ _ (wrap64 (a0_0 * a1_0)) [.int .i64 (wrap64 (a0_0 * a1_0))] from rfl) (Reps.one (show Kd.M (Kd.int .i64) _ _ _ (wrap64 (a0_0 * a1_1)) [.int .i64 (wrap64 (a0_0 * a1_1))] from rfl) (Reps.one (show Kd.M (Kd.int .i64) _ _ _ (wrap64 (a0_1 * a1_0)) [.int .i64 (wrap64 (a0_1 * a1_0))] from rfl) (Reps.one (show Kd.M (Kd.int .i64) _ _ _ (wrap64 (a0_1 * a1_1)) [.int .i64 (wrap64 (a0_1 * a1_1))] from rfl) (Reps.none _ _)))))); intro v109 w21 ho22 hb hg_ hnew_; clear hg_ hnew_; (first | rw [← Ny108.out] at ho22 | (simp only [Int.reduceToNat] at ho22; rw [← Ny108.out] at ho22)); have n0_ := zam (Kd.R_below (by (with_reducible repeat (first | apply zRa | apply zRn | apply zRd)); exact HO106.out) hb); have n1_ := zam (Kd.R_lower ho22 (zbz (by repeat (first | (with_reducible first | exact HB.out | apply zba | apply zbn | apply zb1 | refine zbs ?_ GE101.out | refine zbs ?_ GE102.out | refine zbs ?_ GE103.out) | exact HB.out)))); have n2_ := zam (zkb (g := gb101) (o := .cells #[.int .i64 a0_0, .int .i64 a0_1] 32 (0, 0)) (by (with_reducible repeat (first | refine zkn ?_ _ | refine zkd ?_ | refine zka ?_ _)); exact BK101.out) hb); have n3_ := zam (zkb (g := gb102) (o := .cells #[.int .i64 a1_0, .int .i64 a1_1] 32 (0, 0)) (by (with_reducible repeat (first | refine zkn ?_ _ | refine zkd ?_ | refine zka ?_ _)); exact BK102.out) hb); have n4_ := zam (zkb (g := gb103) (o := .cells #[.int .i64 0, .int .i64 0] 32 (0, 0)) (by (with_reducible repeat (first | refine zkn ?_ _ | refine zkd ?_ | refine zka ?_ _)); exact BK103.out) hb); have n5_ := zam (zbt (by repeat (first | (with_reducible first | exact HB.out | apply zba | apply zbn | apply zb1 | refine zbs ?_ GE101.out | refine zbs ?_ GE102.out | refine zbs ?_ GE103.out) | exact HB.out)) hb); clear HO106; clear BK101; clear BK102; clear BK103; clear HB; have HO106 := n0_; have HO110 := n1_; have BK101 := n2_; have BK102 := n3_; have BK103 := n4_; have HB := n5_; clear n0_ n1_ n2_ n3_ n4_ n5_; clear hb ho22; obtain ⟨Ao23, co23, eo23⟩ := Kd.R_slice HO110.out; subst eo23) | ((with_reducible refine zgc (f := 83) rfl ?_); refine goesL_ (some 36) rfl rfl Try.func83 (by kernel_rfl) rfl #[.slice Ao23 y108.length co23] rfl (by (try simp only [zmt, List.map_cons, List.map_nil]); first | done | rfl | (simp only [zld, zlt]; rfl)) ?_; (with_reducible refine (bound_least.calls k _ _ y108 t111 t112 _ ?side1 ?side2 A5.out).mono ?_); (case side1 => repeat (first | exact (Kd.R_reads' HO110.out).2.2 | (with_reducible refine Kd.C_alloc ?_ _) | (with_reducible refine Kd.C_drewN ?_ _) | (with_reducible refine Kd.C_drew ?_))); (case side2 => exact (Kd.R_reads' HO110.out).2.1); rintro e w24 ⟨rfl, hb⟩; refine ⟨_, rfl, ?_⟩; have n0_ := zam (Kd.R_below (by (with_reducible repeat (first | apply zRa | apply zRn | apply zRd)); exact HO106.out) hb); have n1_ := zam (Kd.R_below (by (with_reducible repeat (first | apply zRa | apply zRn | apply zRd)); exact HO110.out) hb); have n2_ := zam (zkb (g := gb101) (o := .cells #[.int .i64 a0_0, .int .i64 a0_1] 32 (0, 0)) (by (with_reducible repeat (first | refine zkn ?_ _ | refine zkd ?_ | refine zka ?_ _)); exact BK101.out) hb); have n3_ := zam (zkb (g := gb102) (o := .cells #[.int .i64 a1_0, .int .i64 a1_1] 32 (0, 0)) (by (with_reducible repeat (first | refine zkn ?_ _ | refine zkd ?_ | refine zka ?_ _)); exact BK102.out) hb); have n4_ := zam (zkb (g := gb103) (o := .cells #[.int .i64 0, .int .i64 0] 32 (0, 0)) (by (with_reducible repeat (first | refine zkn ?_ _ | refine zkd ?_ | refine zka ?_ _)); exact BK103.out) hb); have n5_ := zam (zbt (by repeat (first | (with_reducible first | exact HB.out | apply zba | apply zbn | apply zb1 | refine zbs ?_ GE101.out | refine zbs ?_ GE102.out | refine zbs ?_ GE103.out) | exact HB.out)) hb); clear HO106; clear HO110; clear BK101; clear BK102; clear BK103; clear HB; have HO106 := n0_; have HO110 := n1_; have BK101 := n2_; have BK102 := n3_; have BK103 := n4_; have HB := n5_; clear n0_ n1_ n2_ n3_ n4_ n5_; (try clear hb); (try clear hb2); (try clear hk); (try clear hi)) | ((with_reducible refine zgc (f := 82) rfl ?_); refine goesL_ (some 37) rfl rfl Try.func82 (by kernel_rfl) rfl #[.agg #[.int .i64 t111, .int .i64 t112]] rfl (by (try simp only [zmt, List.map_cons, List.map_nil]); first | done | rfl | (simp only [zld, zlt]; rfl)) ?_; (with_reducible refine (bound_over.calls k t111 t112 t113 t114 t115 _ A6.out).mono ?_); rintro e w25 ⟨rfl, hb⟩; refine ⟨_, rfl, ?_⟩; have n0_ := zam (Kd.R_below (by (with_reducible repeat (first | apply zRa | apply zRn | apply zRd)); exact HO106.out) hb); have n1_ := zam (Kd.R_below (by (with_reducible repeat (first | apply zRa | apply zRn | apply zRd)); exact HO110.out) hb); have n2_ := zam (zkb (g := gb101) (o := .cells #[.int .i64 a0_0, .int .i64 a0_1] 32 (0, 0)) (by (with_reducible repeat (first | refine zkn ?_ _ | refine zkd ?_ | refine zka ?_ _)); exact BK101.out) hb); have n3_ := zam (zkb (g := gb102) (o := .cells #[.int .i64 a1_0, .int .i64 a1_1] 32 (0, 0)) (by (with_reducible repeat (first | refine zkn ?_ _ | refine zkd ?_ | refine zka ?_ _)); exact BK102.out) hb); have n4_ := zam (zkb (g := gb103) (o := .cells #[.int .i64 0, .int .i64 0] 32 (0, 0)) (by (with_reducible repeat (first | refine zkn ?_ _ | refine zkd ?_ | refine zka ?_ _)); exact BK103.out) hb); have n5_ := zam (zbt (by repeat (first | (with_reducible first | exact HB.out | apply zba | apply zbn | apply zb1 | refine zbs ?_ GE101.out | refine zbs ?_ GE102.out | refine zbs ?_ GE103.out) | exact HB.out)) hb); clear HO106; clear HO110; clear BK101; clear BK102; clear BK103; clear HB; have HO106 := n0_; have HO110 := n1_; have BK101 := n2_; have BK102 := n3_; have BK103 := n4_; have HB := n5_; clear n0_ n1_ n2_ n3_ n4_ n5_; (try clear hb); (try clear hb2); (try clear hk); (try clear hi); have hcz26_0 : w25.cell? ⟨gb103, 0, none⟩ = some (.int .i64 0) := (zkc BK103.out 0).trans rfl; have hcz26_1 : w25.cell? ⟨gb103, 1, none⟩ = some (.int .i64 0) := (zkc BK103.out 1).trans rfl; have hfz26_0 := zkz BK103.out 0; have hfz26_1 := zkz BK103.out 1))
  refine zbr (results_ct rfl _ _ gb103 32 #[.int .i64 t113, .int .i64 t114] (0, 0) _ rfl (by (with_reducible repeat (first | refine zkn ?_ _ | refine zkd ?_ | refine zka ?_ _)); refine blk_put (cs := #[.int .i64 t113, .int .i64 0]) ?_ 1 _ rfl; (with_reducible repeat (first | refine zkn ?_ _ | refine zkd ?_ | refine zka ?_ _)); refine blk_put (cs := #[.int .i64 0, .int .i64 0]) ?_ 0 _ rfl; (with_reducible repeat (first | refine zkn ?_ _ | refine zkd ?_ | refine zka ?_ _)); exact BK103.out) Try.underlying32 rfl (by kernel_rfl)) rfl ?_
  exact ⟨by first | rfl | (simp [errW_none, errW_some] <;> rfl) | (simp [*, errW_none, errW_some] <;> rfl), by repeat (first | (with_reducible first | exact HB.out | apply zba | apply zbn | apply zb1 | refine zbs ?_ GE101.out | refine zbs ?_ GE102.out | refine zbs ?_ GE103.out) | exact HB.out)⟩
 rw [if_neg c4] at H
 have c4b0 : (t107 == 0) = false := beq_eq_false_iff_ne.mpr c4
 have c4b1 : (t107 != 0) = true := bne_iff_ne.mpr c4
 simp only [Option.some.injEq, Prod.mk.injEq] at H
 obtain ⟨rfl, rfl, rfl⟩ := H
 go_enter Try.func28, Try.ntmps28
 go_wp2_with (first | ((with_reducible refine zgd (N := 2) rfl ?_); refine box_event ?hg (N := 2) ?hd (cs := #[.int .i64 a0_0, .int .i64 a0_1]) (t := 32) ?hr ?_; (case hd => rfl); (case hg => rfl); (case hr => first | (go_simp; done) | (go_simp; rfl)); intro gb101 hg w27 hbox hb; have n0_ := zam (zbt (by repeat (first | (with_reducible first | exact HB.out | apply zba | apply zbn | apply zb1) | exact HB.out)) hb); have n1_ := zam (hbox); have n2_ := zam ((by rw [hg]; exact (zbz (by repeat (first | (with_reducible first | exact HB.out | apply zba | apply zbn | apply zb1) | exact HB.out))) : w.heap.size ≤ gb101)); have n3_ := zam ((by rw [hg]; exact (zbz (by repeat (first | (with_reducible first | exact HB.out | apply zba | apply zbn | apply zb1) | exact HB.out))) : w.heap.size ≤ gb101)); clear HB; have HB := n0_; have BK101 := n1_; have GW101 := n2_; have GE101 := n3_; clear n0_ n1_ n2_ n3_; clear hb hbox hg) | ((with_reducible refine zgd (N := 3) rfl ?_); refine box_event ?hg (N := 3) ?hd (cs := #[.int .i64 a1_0, .int .i64 a1_1]) (t := 32) ?hr ?_; (case hd => rfl); (case hg => rfl); (case hr => first | (go_simp; done) | (go_simp; rfl)); intro gb102 hg w28 hbox hb; have n0_ := zam (zkb (g := gb101) (o := .cells #[.int .i64 a0_0, .int .i64 a0_1] 32 (0, 0)) (by (with_reducible repeat (first | refine zkn ?_ _ | refine zkd ?_ | refine zka ?_ _)); exact BK101.out) hb); have n1_ := zam (zbt (by repeat (first | (with_reducible first | exact HB.out | apply zba | apply zbn | apply zb1 | refine zbs ?_ GE101.out) | exact HB.out)) hb); have n2_ := zam (hbox); have n3_ := zam ((by rw [hg]; exact (zbz (by repeat (first | (with_reducible first | exact HB.out | apply zba | apply zbn | apply zb1 | refine zbs ?_ GE101.out) | exact HB.out))) : w.heap.size ≤ gb102)); have n4_ := zam ((by rw [hg]; exact (zbz (by repeat (first | (with_reducible first | exact HB.out | apply zba | apply zbn | apply zb1 | refine zbs ?_ GE101.out) | exact HB.out))) : w.heap.size ≤ gb102)); have n5_ := zam ((by rw [hg]; exact Nat.ne_of_lt (blk_lt (g := gb101) (o := .cells #[.int .i64 a0_0, .int .i64 a0_1] 32 (0, 0)) (by (with_reducible repeat (first | refine zkn ?_ _ | refine zkd ?_ | refine zka ?_ _)); exact BK101.out)) : gb101 ≠ gb102)); have n6_ := zam ((by rw [hg]; exact Nat.ne_of_gt (blk_lt (g := gb101) (o := .cells #[.int .i64 a0_0, .int .i64 a0_1] 32 (0, 0)) (by (with_reducible repeat (first | refine zkn ?_ _ | refine zkd ?_ | refine zka ?_ _)); exact BK101.out)) : gb102 ≠ gb101)); clear BK101; clear HB; have BK101 := n0_; have HB := n1_; have BK102 := n2_; have GW102 := n3_; have GE102 := n4_; have NB101_102 := n5_; have NB102_101 := n6_; clear n0_ n1_ n2_ n3_ n4_ n5_ n6_; clear hb hbox hg) | ((with_reducible refine zgd (N := 4) rfl ?_); refine box_event ?hg (N := 4) ?hd (cs := #[.int .i64 0, .int .i64 0]) (t := 32) ?hr ?_; (case hd => rfl); (case hg => rfl); (case hr => first | (go_simp; done) | (go_simp; rfl)); intro gb103 hg w29 hbox hb; have n0_ := zam (zkb (g := gb101) (o := .cells #[.int .i64 a0_0, .int .i64 a0_1] 32 (0, 0)) (by (with_reducible repeat (first | refine zkn ?_ _ | refine zkd ?_ | refine zka ?_ _)); exact BK101.out) hb); have n1_ := zam (zkb (g := gb102) (o := .cells #[.int .i64 a1_0, .int .i64 a1_1] 32 (0, 0)) (by (with_reducible repeat (first | refine zkn ?_ _ | refine zkd ?_ | refine zka ?_ _)); exact BK102.out) hb); have n2_ := zam (zbt (by repeat (first | (with_reducible first | exact HB.out | apply zba | apply zbn | apply zb1 | refine zbs ?_ GE101.out | refine zbs ?_ GE102.out) | exact HB.out)) hb); have n3_ := zam (hbox); have n4_ := zam ((by rw [hg]; exact (zbz (by repeat (first | (with_reducible first | exact HB.out | apply zba | apply zbn | apply zb1 | refine zbs ?_ GE101.out | refine zbs ?_ GE102.out) | exact HB.out))) : w.heap.size ≤ gb103)); have n5_ := zam ((by rw [hg]; exact (zbz (by repeat (first | (with_reducible first | exact HB.out | apply zba | apply zbn | apply zb1 | refine zbs ?_ GE101.out | refine zbs ?_ GE102.out) | exact HB.out))) : w.heap.size ≤ gb103)); have n6_ := zam ((by rw [hg]; exact Nat.ne_of_lt (blk_lt (g := gb101) (o := .cells #[.int .i64 a0_0, .int .i64 a0_1] 32 (0, 0)) (by (with_reducible repeat (first | refine zkn ?_ _ | refine zkd ?_ | refine zka ?_ _)); exact BK101.out)) : gb101 ≠ gb103)); have n7_ := zam ((by rw [hg]; exact Nat.ne_of_gt (blk_lt (g := gb101) (o := .cells #[.int .i64 a0_0, .int .i64 a0_1] 32 (0, 0)) (by (with_reducible repeat (first | refine zkn ?_ _ | refine zkd ?_ | refine zka ?_ _)); exact BK101.out)) : gb103 ≠ gb101)); have n8_ := zam ((by rw [hg]; exact Nat.ne_of_lt (blk_lt (g := gb102) (o := .cells #[.int .i64 a1_0, .int .i64 a1_1] 32 (0, 0)) (by (with_reducible repeat (first | refine zkn ?_ _ | refine zkd ?_ | refine zka ?_ _)); exact BK102.out)) : gb102 ≠ gb103)); have n9_ := zam ((by rw [hg]; exact Nat.ne_of_gt (blk_lt (g := gb102) (o := .cells #[.int .i64 a1_0, .int .i64 a1_1] 32 (0, 0)) (by (with_reducible repeat (first | refine zkn ?_ _ | refine zkd ?_ | refine zka ?_ _)); exact BK102.out)) : gb103 ≠ gb102)); clear BK101; clear BK102; clear HB; have BK101 := n0_; have BK102 := n1_; have HB := n2_; have BK103 := n3_; have GW103 := n4_; have GE103 := n5_; have NB101_103 := n6_; have NB103_101 := n7_; have NB102_103 := n8_; have NB103_102 := n9_; clear n0_ n1_ n2_ n3_ n4_ n5_ n6_ n7_ n8_ n9_; clear hb hbox hg; have hnb30 := NB101_102.out; have hnc30 := NB102_101.out; have hnb31 := NB101_103.out; have hnc31 := NB103_101.out; have hcz32_0 : w29.cell? ⟨gb101, 0, none⟩ = some (.int .i64 a0_0) := (zkc BK101.out 0).trans rfl; have hcz32_1 : w29.cell? ⟨gb101, 1, none⟩ = some (.int .i64 a0_1) := (zkc BK101.out 1).trans rfl; have hfz32_0 := zkz BK101.out 0; have hfz32_1 := zkz BK101.out 1; have hnb33 := NB102_103.out; have hnc33 := NB103_102.out; have hcz34_0 : w29.cell? ⟨gb102, 0, none⟩ = some (.int .i64 a1_0) := (zkc BK102.out 0).trans rfl; have hcz34_1 : w29.cell? ⟨gb102, 1, none⟩ = some (.int .i64 a1_1) := (zkc BK102.out 1).trans rfl; have hfz34_0 := zkz BK102.out 0; have hfz34_1 := zkz BK102.out 1) | ((with_reducible refine zgd (N := 9) rfl ?_); refine Kd.R_lit k32 _ 32 ?hg (N := 9) ?hd (xs := ([(⟨a0_0, a0_1⟩ : S32), (⟨a1_0, a1_1⟩ : S32)] : List (S32))) (inner := [.int .i64 a0_0, .int .i64 a0_1, .int .i64 a1_0, .int .i64 a1_1]) (ok := fun _ => True) (okp := fun _ => True) ?hr ?hp (fun _ hk => hk) trivial (Below.refl _ _) (Nat.le_refl _) (by simp) ?_; (case hd => rfl); (case hg => rfl); (case hr => first | (go_simp; done) | (go_simp; rfl)); (case hp => exact (Reps.c2 (show Kd.M k32 _ _ _ (⟨a0_0, a0_1⟩ : S32) [.int .i64 a0_0, .int .i64 a0_1] from (k32_mkM _ _ _ (⟨a0_0, a0_1⟩ : S32) )) (Reps.c2 (show Kd.M k32 _ _ _ (⟨a1_0, a1_1⟩ : S32) [.int .i64 a1_0, .int .i64 a1_1] from (k32_mkM _ _ _ (⟨a1_0, a1_1⟩ : S32) )) (Reps.none _ _)))); intro v105 w35 ho36 hb hg_ hnew_; clear hg_ hnew_; (first | rw [← Ny104.out] at ho36 | (simp only [Int.reduceToNat] at ho36; rw [← Ny104.out] at ho36)); have n0_ := zam (Kd.R_lower (Kd.R_newB (Kd.R_newB (Kd.R_newB ho36 (g := gb101) (o := .cells #[.int .i64 a0_0, .int .i64 a0_1] 32 (0, 0)) (by (with_reducible repeat (first | refine zkn ?_ _ | refine zkd ?_ | refine zka ?_ _)); exact BK101.out)) (g := gb102) (o := .cells #[.int .i64 a1_0, .int .i64 a1_1] 32 (0, 0)) (by (with_reducible repeat (first | refine zkn ?_ _ | refine zkd ?_ | refine zka ?_ _)); exact BK102.out)) (g := gb103) (o := .cells #[.int .i64 0, .int .i64 0] 32 (0, 0)) (by (with_reducible repeat (first | refine zkn ?_ _ | refine zkd ?_ | refine zka ?_ _)); exact BK103.out)) (zbz (by repeat (first | (with_reducible first | exact HB.out | apply zba | apply zbn | apply zb1 | refine zbs ?_ GE101.out | refine zbs ?_ GE102.out | refine zbs ?_ GE103.out) | exact HB.out)))); have n1_ := zam (zkb (g := gb101) (o := .cells #[.int .i64 a0_0, .int .i64 a0_1] 32 (0, 0)) (by (with_reducible repeat (first | refine zkn ?_ _ | refine zkd ?_ | refine zka ?_ _)); exact BK101.out) hb); have n2_ := zam (zkb (g := gb102) (o := .cells #[.int .i64 a1_0, .int .i64 a1_1] 32 (0, 0)) (by (with_reducible repeat (first | refine zkn ?_ _ | refine zkd ?_ | refine zka ?_ _)); exact BK102.out) hb); have n3_ := zam (zkb (g := gb103) (o := .cells #[.int .i64 0, .int .i64 0] 32 (0, 0)) (by (with_reducible repeat (first | refine zkn ?_ _ | refine zkd ?_ | refine zka ?_ _)); exact BK103.out) hb); have n4_ := zam (zbt (by repeat (first | (with_reducible first | exact HB.out | apply zba | apply zbn | apply zb1 | refine zbs ?_ GE101.out | refine zbs ?_ GE102.out | refine zbs ?_ GE103.out) | exact HB.out)) hb); clear BK101; clear BK102; clear BK103; clear HB; have HO106 := n0_; have BK101 := n1_; have BK102 := n2_; have BK103 := n3_; have HB := n4_; clear n0_ n1_ n2_ n3_ n4_; clear hb ho36; obtain ⟨Ao37, co37, eo37⟩ := Kd.R_slice HO106.out; subst eo37) | ((with_reducible refine zgc (f := 80) rfl ?_); refine goesL_ (some 10) rfl rfl Try.func80 (by kernel_rfl) rfl #[.slice Ao37 y104.length co37] rfl (by (try simp only [zmt, List.map_cons, List.map_nil]); first | done | rfl | (simp only [zld, zlt]; rfl)) ?_; (with_reducible refine (bound_check.calls k _ _ y104 t107 _ ?side1 ?side2 A3.out).mono ?_); (case side1 => repeat (first | exact (Kd.R_reads' HO106.out).2.2 | (with_reducible refine Kd.C_alloc ?_ _) | (with_reducible refine Kd.C_drewN ?_ _) | (with_reducible refine Kd.C_drew ?_))); (case side2 => exact (Kd.R_reads' HO106.out).2.1); rintro e w38 ⟨rfl, hb⟩; refine ⟨_, rfl, ?_⟩; have n0_ := zam (Kd.R_below (by (with_reducible repeat (first | apply zRa | apply zRn | apply zRd)); exact HO106.out) hb); have n1_ := zam (zkb (g := gb101) (o := .cells #[.int .i64 a0_0, .int .i64 a0_1] 32 (0, 0)) (by (with_reducible repeat (first | refine zkn ?_ _ | refine zkd ?_ | refine zka ?_ _)); exact BK101.out) hb); have n2_ := zam (zkb (g := gb102) (o := .cells #[.int .i64 a1_0, .int .i64 a1_1] 32 (0, 0)) (by (with_reducible repeat (first | refine zkn ?_ _ | refine zkd ?_ | refine zka ?_ _)); exact BK102.out) hb); have n3_ := zam (zkb (g := gb103) (o := .cells #[.int .i64 0, .int .i64 0] 32 (0, 0)) (by (with_reducible repeat (first | refine zkn ?_ _ | refine zkd ?_ | refine zka ?_ _)); exact BK103.out) hb); have n4_ := zam (zbt (by repeat (first | (with_reducible first | exact HB.out | apply zba | apply zbn | apply zb1 | refine zbs ?_ GE101.out | refine zbs ?_ GE102.out | refine zbs ?_ GE103.out) | exact HB.out)) hb); clear HO106; clear BK101; clear BK102; clear BK103; clear HB; have HO106 := n0_; have BK101 := n1_; have BK102 := n2_; have BK103 := n3_; have HB := n4_; clear n0_ n1_ n2_ n3_ n4_; (try clear hb); (try clear hb2); (try clear hk); (try clear hi); have hcz39_0 : w38.cell? ⟨gb103, 0, none⟩ = some (.int .i64 0) := (zkc BK103.out 0).trans rfl; have hcz39_1 : w38.cell? ⟨gb103, 1, none⟩ = some (.int .i64 0) := (zkc BK103.out 1).trans rfl; have hfz39_0 := zkz BK103.out 0; have hfz39_1 := zkz BK103.out 1))
 refine zbr (results_ct rfl _ _ gb103 32 #[.int .i64 0, .int .i64 0] (0, 0) _ rfl (by (with_reducible repeat (first | refine zkn ?_ _ | refine zkd ?_ | refine zka ?_ _)); refine blk_put (cs := #[.int .i64 0, .int .i64 0]) ?_ 1 _ rfl; (with_reducible repeat (first | refine zkn ?_ _ | refine zkd ?_ | refine zka ?_ _)); refine blk_put (cs := #[.int .i64 0, .int .i64 0]) ?_ 0 _ rfl; (with_reducible repeat (first | refine zkn ?_ _ | refine zkd ?_ | refine zka ?_ _)); exact BK103.out) Try.underlying32 rfl (by kernel_rfl)) rfl ?_
 exact ⟨by first | rfl | (simp [errW_none, errW_some] <;> rfl) | (simp [*, errW_none, errW_some] <;> rfl), by repeat (first | (with_reducible first | exact HB.out | apply zba | apply zbn | apply zb1 | refine zbs ?_ GE101.out | refine zbs ?_ GE102.out | refine zbs ?_ GE103.out) | exact HB.out)⟩
def isobathref01_Within.f (a0 : Int) (a1 : Int) (a2 : Int) : Option (Bool) := if a0 ≥ a1 then (some (decide (a0 ≤ a2))) else (some false)
def isobathref01_Valid.f (a0_0 : Int) (a0_1 : Int) : Option (Bool) := if a0_0 ≤ a0_1 then ((isobathref01_Within.f a0_0 (-1073741824) 1073741824).bind fun t102 => (if t102 = true then ((isobathref01_Within.f a0_1 (-1073741824) 1073741824).bind fun t103 => (some t103)) else (some false))) else (some false)
def isobathref01_result.f (a0 : Int) (a1 : Int) : Option (Int × Int × Int) := (isobathref01_Valid.f a0 a1).bind fun t103 => (if t103 = true then (some (a0, a1, 0)) else (some (0, 0, 4)))
def isobathref01_Down.f : Nat → Int → Int → Option (Int)
 | 0, _, _ => none
 | k + 1, a0, a1 => if a1 < 0 then ((isobathref01_Down.f k (wrap64 (-a0)) (wrap64 (-a1))).bind fun t101 => (some t101)) else (if a1 = 0 then (none) else (if (Int.tmod a0 a1) < 0 then (some (wrap64 ((wrap64 (Int.tdiv a0 a1)) - 1))) else (some (wrap64 (Int.tdiv a0 a1)))))
def isobathref01_Up.f (k : Nat) (a0 : Int) (a1 : Int) : Option (Int) := (isobathref01_Down.f k (wrap64 (-a0)) a1).bind fun t101 => (some (wrap64 (-t101)))
mutual
def isobathref01_Div.j0 : Nat → Bool → Int → Int → Int → Int → Option (Int × Int × Int)
 | 0, _, _, _, _, _ => none
 | k + 1, x15, x102000, x102001, x103000, x103001 => if x15 = true then (some (0, 0, 2)) else (if x103000 ≤ 0 then (isobathref01_Div.j1 k (decide (x103001 ≥ 0)) x102000 x102001 x103000 x103001) else (isobathref01_Div.j1 k false x102000 x102001 x103000 x103001))
def isobathref01_Div.j1 : Nat → Bool → Int → Int → Int → Int → Option (Int × Int × Int)
 | 0, _, _, _, _, _ => none
 | k + 1, x24, x102000, x102001, x103000, x103001 => if x24 = true then (some (0, 0, 9)) else ((isobathref01_Down.f k x102000 x103000).bind fun t106 => ((isobathref01_Down.f k x102000 x103001).bind fun t107 => ((isobathref01_Down.f k x102001 x103000).bind fun t108 => ((isobathref01_Down.f k x102001 x103001).bind fun t109 => ((isobathref01_Up.f k x102000 x103000).bind fun t110 => ((isobathref01_Up.f k x102000 x103001).bind fun t111 => ((isobathref01_Up.f k x102001 x103000).bind fun t112 => ((isobathref01_Up.f k x102001 x103001).bind fun t113 => ((isobathref01_result.f (mn (mn (mn t106 t107) t108) t109) (mx (mx (mx t110 t111) t112) t113)).bind fun bt114 => (some (bt114.1, bt114.2.1, bt114.2.2)))))))))))
end
def Bo.v (lo hi : Int) : Prop := lo ≤ hi ∧ -1073741824 ≤ lo ∧ hi ≤ 1073741824
instance Bo.vDec (lo hi : Int) : Decidable (Bo.v lo hi) := inferInstanceAs (Decidable (lo ≤ hi ∧ -1073741824 ≤ lo ∧ hi ≤ 1073741824))
def Bo.res (lo hi : Int) : Int × Int × Int := if Bo.v lo hi then (lo, hi, 0) else (0, 0, 4)
theorem Bo.check1 (a b : Int) {k : Nat} (hk : 20 ≤ k) : bound_check.f k [(⟨a, b⟩ : S32)] = some (if Bo.v a b then 0 else 2) := by
 rw [Bnd.check_f (by simp) (by simp; omega)]
 congr 1
 by_cases h : Bo.v a b
 ·rw [if_pos h, if_pos (by simp only [List.all_cons, List.all_nil, Bool.and_true]; exact Bnd.okB_iff.2 h)]
 rw [if_neg h, if_neg (by simp only [List.all_cons, List.all_nil, Bool.and_true]; exact fun e => h (Bnd.okB_iff.1 e))]
theorem Bo.check2 (a b c d : Int) {k : Nat} (hk : 20 ≤ k) : bound_check.f k [(⟨a, b⟩ : S32), (⟨c, d⟩ : S32)] = some (if Bo.v a b ∧ Bo.v c d then 0 else 2) := by
 rw [Bnd.check_f (by simp) (by simp; omega)]
 congr 1
 by_cases h : Bo.v a b ∧ Bo.v c d
 ·rw [if_pos h, if_pos (by simp only [List.all_cons, List.all_nil, Bool.and_true, Bool.and_eq_true]; exact ⟨Bnd.okB_iff.2 h.1, Bnd.okB_iff.2 h.2⟩)]
 rw [if_neg h, if_neg (by simp only [List.all_cons, List.all_nil, Bool.and_true, Bool.and_eq_true]; exact fun e => h ⟨Bnd.okB_iff.1 e.1, Bnd.okB_iff.1 e.2⟩)]
theorem Bo.over (a b : Int) {k : Nat} (hk : 20 ≤ k) : bound_over.f k a b = some (Bo.res a b) := by
 unfold bound_over.f Bo.res
 rw [Bo.check1 a b hk, Option.bind_some]
 by_cases h : Bo.v a b
 ·rw [if_pos h, if_pos h]; rfl
 rw [if_neg h, if_neg h]; rfl
theorem Bo.mxE (a b : Int) : mx a b = max a b := by unfold mx; omega
theorem Bo.mnE (a b : Int) : mn a b = min a b := by unfold mn; omega
def Bo.op2 (a0 a1 b0 b1 : Int) (r : Int × Int × Int) : Int × Int × Int := if Bo.v a0 a1 ∧ Bo.v b0 b1 then r else (0, 0, 2)
def Bo.add (a0 a1 b0 b1 : Int) : Int × Int × Int := Bo.op2 a0 a1 b0 b1 (Bo.res (a0 + b0) (a1 + b1))
theorem Bo.rd0 (a : Int) (l : List Int) : rd (a :: l) 0 = a := rfl
def Bo.least : List Int → Int
 | [] => 0
 | a :: l => l.foldl min a
def Bo.most : List Int → Int
 | [] => 0
 | a :: l => l.foldl max a
theorem Bo.min_l0 (xs : List Int) (hl : xs.length ≤ 9223372036854775807) : ∀ (n k i : Nat) (m : Int), i + n = xs.length → n < k → slices_Min_int64_int64.l0 k xs m (i : Int) = some ((xs.drop i).foldl min m) := by
 intro n
 induction n with
 | zero =>
  intro k i m hi hk
  obtain ⟨k, rfl⟩ : ∃ m, k = m + 1 := ⟨k - 1, by omega⟩
  simp only [slices_Min_int64_int64.l0]
  rw [if_neg (by omega), List.drop_of_length_le (by omega)]
  rfl
 | succ n ih =>
  intro k i m hi hk
  obtain ⟨k, rfl⟩ : ∃ m, k = m + 1 := ⟨k - 1, by omega⟩
  have hlt : i < xs.length := by omega
  simp only [slices_Min_int64_int64.l0]
  rw [if_pos (by omega), if_pos (by omega), wrap_succ hlt hl, ih k (i + 1) _ (by omega) (by omega), rd_nat hlt, drop_cons hlt, List.foldl_cons, Bo.mnE]
theorem Bo.max_l0 (xs : List Int) (hl : xs.length ≤ 9223372036854775807) : ∀ (n k i : Nat) (m : Int), i + n = xs.length → n < k → slices_Max_int64_int64.l0 k xs m (i : Int) = some ((xs.drop i).foldl max m) := by
 intro n
 induction n with
 | zero =>
  intro k i m hi hk
  obtain ⟨k, rfl⟩ : ∃ m, k = m + 1 := ⟨k - 1, by omega⟩
  simp only [slices_Max_int64_int64.l0]
  rw [if_neg (by omega), List.drop_of_length_le (by omega)]
  rfl
 | succ n ih =>
  intro k i m hi hk
  obtain ⟨k, rfl⟩ : ∃ m, k = m + 1 := ⟨k - 1, by omega⟩
  have hlt : i < xs.length := by omega
  simp only [slices_Max_int64_int64.l0]
  rw [if_pos (by omega), if_pos (by omega), wrap_succ hlt hl, ih k (i + 1) _ (by omega) (by omega), rd_nat hlt, drop_cons hlt, List.foldl_cons, Bo.mxE]
theorem Bo.min_f (a : Int) (l : List Int) {k : Nat} (hl : l.length ≤ 10) (hk : 20 ≤ k) : slices_Min_int64_int64.f k (a :: l) = some (Bo.least (a :: l)) := by
 unfold slices_Min_int64_int64.f
 rw [if_neg (by simp only [List.length_cons]; omega), if_pos (by simp only [List.length_cons]; omega)]
 have := Bo.min_l0 (a :: l) (by simp only [List.length_cons]; omega) l.length k 1 (rd (a :: l) 0) (by simp only [List.length_cons]; omega) (by omega)
 rw [Bo.rd0] at this
 exact this
theorem Bo.max_f (a : Int) (l : List Int) {k : Nat} (hl : l.length ≤ 10) (hk : 20 ≤ k) : slices_Max_int64_int64.f k (a :: l) = some (Bo.most (a :: l)) := by
 unfold slices_Max_int64_int64.f
 rw [if_neg (by simp only [List.length_cons]; omega), if_pos (by simp only [List.length_cons]; omega)]
 have := Bo.max_l0 (a :: l) (by simp only [List.length_cons]; omega) l.length k 1 (rd (a :: l) 0) (by simp only [List.length_cons]; omega) (by omega)
 rw [Bo.rd0] at this
 exact this
theorem Bo.least_f (a : Int) (l : List Int) {k : Nat} (hl : l.length ≤ 10) (hk : 20 ≤ k) : bound_least.f k (a :: l) = some (Bo.least (a :: l), Bo.most (a :: l)) := by
 unfold bound_least.f
 rw [Bo.min_f a l hl hk, Option.bind_some, Bo.max_f a l hl hk, Option.bind_some]
theorem Bo.mul_le {a b : Int} (h1 : -1073741824 ≤ a) (h2 : a ≤ 1073741824) (h3 : -1073741824 ≤ b) (h4 : b ≤ 1073741824) : -1152921504606846976 ≤ a * b ∧ a * b ≤ 1152921504606846976 := by
 have h : (a * b).natAbs ≤ 1073741824 * 1073741824 := by
  rw [Int.natAbs_mul]
  exact Nat.mul_le_mul (by omega) (by omega)
 omega
def Bo.mul (a0 a1 b0 b1 : Int) : Int × Int × Int := Bo.op2 a0 a1 b0 b1 (Bo.res (min (min (min (a0 * b0) (a0 * b1)) (a1 * b0)) (a1 * b1)) (max (max (max (a0 * b0) (a0 * b1)) (a1 * b0)) (a1 * b1)))
theorem Bo.mul_w {a b : Int} (h1 : -1073741824 ≤ a) (h2 : a ≤ 1073741824) (h3 : -1073741824 ≤ b) (h4 : b ≤ 1073741824) : wrap64 (a * b) = a * b := by
 have := Bo.mul_le h1 h2 h3 h4
 exact wrap_id (by omega) (by omega)
theorem Bo.mul_b (a0 a1 b0 b1 : Int) {k : Nat} (hk : 20 ≤ k) : bound_Mul.f k a0 a1 b0 b1 = some (Bo.mul a0 a1 b0 b1) := by
 unfold bound_Mul.f Bo.mul Bo.op2
 rw [Bo.check2 _ _ _ _ hk, Option.bind_some]
 by_cases h : Bo.v a0 a1 ∧ Bo.v b0 b1
 ·obtain ⟨⟨h1, h2, h3⟩, h4, h5, h6⟩ := id h
  rw [if_pos h, if_pos rfl, if_pos h, Bo.mul_w (by omega) (by omega) (by omega) (by omega), Bo.mul_w (by omega) (by omega) (by omega) (by omega), Bo.mul_w (by omega) (by omega) (by omega) (by omega), Bo.mul_w (by omega) (by omega) (by omega) (by omega), Bo.least_f _ _ (by simp) hk, Option.bind_some, Bo.over _ _ hk]
  rfl
 rw [if_neg h, if_neg h]
 rfl
def Bo.fl (n d : Int) : Int := if d < 0 then (-n) / (-d) else n / d
def Bo.cl (n d : Int) : Int := -Bo.fl (-n) d
theorem Bo.tdiv_abs {n d M : Int} (hd : d ≠ 0) (h1 : -M ≤ n) (h2 : n ≤ M) : -M ≤ Int.tdiv n d ∧ Int.tdiv n d ≤ M := by
 have := Int.natAbs_tdiv_le_natAbs n d
 omega
theorem Bo.fl_of_rest {n d : Int} (hd : d ≠ 0) : Bo.fl n d = if Int.tmod n d ≠ 0 ∧ (Int.tmod n d < 0 ↔ 0 < d) then Int.tdiv n d - 1 else Int.tdiv n d := by
 have e1 := Int.mul_tdiv_add_tmod n d
 have key : ∀ (m d q r : Int), 0 < d → d * q + r = m → 0 ≤ r → r < d → m / d = q := by
  intro m d q r hd e h0 h1
  refine Int.ediv_eq_iff_of_pos hd |>.2 ?_
  have := Int.mul_comm d q
  have e2 : (q + 1) * d = q * d + d := by rw [Int.add_mul, Int.one_mul]
  omega
 by_cases q : d < 0
 ·have hr : (Int.tmod n d).natAbs < d.natAbs := by
   rw [← Int.natAbs_neg d]
   have := Int.natAbs_tmod n d
   have h3 := Nat.mod_lt n.natAbs (show 0 < d.natAbs by omega)
   omega
  unfold Bo.fl
  rw [if_pos q]
  by_cases c : Int.tmod n d ≠ 0 ∧ (Int.tmod n d < 0 ↔ 0 < d)
  ·rw [if_pos c]
   obtain ⟨c1, c2⟩ := c
   have c3 : ¬ Int.tmod n d < 0 := fun h => by have := c2.1 h; omega
   refine key (-n) (-d) _ (-d - Int.tmod n d) (by omega) ?_ (by omega) (by omega)
   have : -d * (Int.tdiv n d - 1) = -(d * Int.tdiv n d) + d := by
    rw [Int.mul_sub, Int.neg_mul]
    omega
   omega
  rw [if_neg c]
  have c3 : Int.tmod n d ≤ 0 := by
   rcases Int.lt_trichotomy (Int.tmod n d) 0 with h | h | h
   ·omega
   ·omega
   exact absurd ⟨by omega, by constructor <;> intro _ <;> omega⟩ c
  refine key (-n) (-d) _ (-Int.tmod n d) (by omega) ?_ (by omega) (by omega)
  rw [Int.neg_mul]
  omega
 have hr : (Int.tmod n d).natAbs < d.natAbs := by
  have := Int.natAbs_tmod n d
  have h3 := Nat.mod_lt n.natAbs (show 0 < d.natAbs by omega)
  omega
 unfold Bo.fl
 rw [if_neg q]
 by_cases c : Int.tmod n d ≠ 0 ∧ (Int.tmod n d < 0 ↔ 0 < d)
 ·rw [if_pos c]
  obtain ⟨c1, c2⟩ := c
  have c3 : Int.tmod n d < 0 := c2.2 (by omega)
  refine key n d _ (d + Int.tmod n d) (by omega) ?_ (by omega) (by omega)
  have : d * (Int.tdiv n d - 1) = d * Int.tdiv n d - d := by rw [Int.mul_sub, Int.mul_one]
  omega
 rw [if_neg c]
 have c3 : 0 ≤ Int.tmod n d := by
  rcases Int.lt_trichotomy (Int.tmod n d) 0 with h | h | h
  ·exact absurd ⟨by omega, by constructor <;> intro _ <;> omega⟩ c
  ·omega
  omega
 exact key n d _ (Int.tmod n d) (by omega) e1 (by omega) (by omega)
theorem Bo.cl_of_rest {n d : Int} (hd : d ≠ 0) : Bo.cl n d = if Int.tmod n d ≠ 0 ∧ (Int.tmod n d < 0 ↔ d < 0) then Int.tdiv n d + 1 else Int.tdiv n d := by
 unfold Bo.cl
 rw [Bo.fl_of_rest hd, Int.neg_tmod, Int.neg_tdiv]
 by_cases c : Int.tmod n d ≠ 0 ∧ (Int.tmod n d < 0 ↔ d < 0)
 ·rw [if_pos c, if_pos (by omega)]
  omega
 rw [if_neg c, if_neg (by omega)]
 omega
theorem Bo.div_f (up : Bool) {n d : Int} (hd : d ≠ 0) (h1 : -4611686018427387904 ≤ n) (h2 : n ≤ 4611686018427387904) {k : Nat} (hk : 20 ≤ k) : bound_round_div.f k up n d = some (if up = true then Bo.cl n d else Bo.fl n d) := by
 obtain ⟨k, rfl⟩ : ∃ m, k = m + 1 := ⟨k - 1, by omega⟩
 have ht := Bo.tdiv_abs hd h1 h2
 unfold bound_round_div.f
 simp only [bound_round_div.j0]
 have w0 : wrap64 (Int.tdiv n d) = Int.tdiv n d := wrap_id (by omega) (by omega)
 have w1 : wrap64 (Int.tdiv n d + 1) = Int.tdiv n d + 1 := wrap_id (by omega) (by omega)
 have w2 : wrap64 (Int.tdiv n d - 1) = Int.tdiv n d - 1 := wrap_id (by omega) (by omega)
 rw [if_neg hd, Bo.fl_of_rest hd, Bo.cl_of_rest hd, w0, w1, w2]
 by_cases c : Int.tmod n d = 0
 ·rw [if_pos c, if_neg (by simp)]
  cases up <;> simp [c]
 rw [if_neg c]
 by_cases a : Int.tmod n d < 0 <;> by_cases b : d < 0 <;> cases up <;> simp [a, b, c] <;> omega
def Bo.div (a0 a1 b0 b1 : Int) : Int × Int × Int := Bo.op2 a0 a1 b0 b1 (if b0 ≤ 0 ∧ 0 ≤ b1 then (0, 0, 9) else
 Bo.res (min (min (min (Bo.fl a0 b0) (Bo.fl a0 b1)) (Bo.fl a1 b0)) (Bo.fl a1 b1)) (max (max (max (Bo.cl a0 b0) (Bo.cl a0 b1)) (Bo.cl a1 b0)) (Bo.cl a1 b1)))
theorem Bo.div_b (a0 a1 b0 b1 : Int) {k : Nat} (hk : 20 ≤ k) : bound_Div.f k a0 a1 b0 b1 = some (Bo.div a0 a1 b0 b1) := by
 unfold bound_Div.f Bo.div Bo.op2
 rw [Bo.check2 _ _ _ _ hk, Option.bind_some]
 by_cases h : Bo.v a0 a1 ∧ Bo.v b0 b1
 ·obtain ⟨⟨h1, h2, h3⟩, h4, h5, h6⟩ := id h
  rw [if_pos h, if_pos rfl, if_pos h]
  have rest : ¬ (b0 ≤ 0 ∧ 0 ≤ b1) → ((Bd.div k false a0 a1 b0 b1).bind fun lo => (Bd.div k true a0 a1 b0 b1).bind fun hi => (slices_Min_int64_int64.f k lo).bind fun m => (slices_Max_int64_int64.f k hi).bind fun x => bound_over.f k m x) = some (Bo.res (min (min (min (Bo.fl a0 b0) (Bo.fl a0 b1)) (Bo.fl a1 b0)) (Bo.fl a1 b1)) (max (max (max (Bo.cl a0 b0) (Bo.cl a0 b1)) (Bo.cl a1 b0)) (Bo.cl a1 b1))) := by
   intro q
   have n0 : b0 ≠ 0 := by omega
   have n1 : b1 ≠ 0 := by omega
   unfold Bd.div
   rw [Bo.div_f false n0 (by omega) (by omega) hk, Bo.div_f false n1 (by omega) (by omega) hk, Bo.div_f false n0 (by omega) (by omega) hk, Bo.div_f false n1 (by omega) (by omega) hk]
   rw [Bo.div_f true n0 (by omega) (by omega) hk, Bo.div_f true n1 (by omega) (by omega) hk, Bo.div_f true n0 (by omega) (by omega) hk, Bo.div_f true n1 (by omega) (by omega) hk]
   simp only [Option.bind_some, Bool.false_eq_true, if_false, if_true]
   rw [Bo.min_f _ _ (by simp) hk, Option.bind_some, Bo.max_f _ _ (by simp) hk, Option.bind_some, Bo.over _ _ hk]
   rfl
  by_cases q0 : b0 ≤ 0
  ·rw [if_pos q0]
   by_cases q1 : b1 ≥ 0
   ·rw [if_pos q1, if_pos ⟨q0, q1⟩]
   rw [if_neg q1, rest (by omega), if_neg (by omega)]
  rw [if_neg q0, rest (by omega), if_neg (by omega)]
 rw [if_neg h, if_neg h]
 rfl
section
open Ieee
theorem rt_log2_le {m k : Nat} (h0 : m ≠ 0) (h : m < 2 ^ (k + 1)) : m.log2 ≤ k := by
 have := (Nat.log2_lt h0).2 h
 omega
theorem rt_bool_le (b : Bool) : b.toNat ≤ 1 := by cases b <;> decide
theorem kept_lt (m : Nat) (h0 : m ≠ 0) (up drop : Nat) (hd : m.log2 + up = 52 + drop) (hud : up = 0 ∨ drop = 0) : 2 ^ 52 ≤ Toward.even.cut false (m <<< up) drop ∧ Toward.even.cut false (m <<< up) drop ≤ 2 ^ 53 := by
 have hlo : 2 ^ m.log2 ≤ m := Nat.log2_self_le h0
 have hhi : m < 2 ^ (m.log2 + 1) := Nat.lt_log2_self
 unfold Toward.cut
 rcases hud with rfl | rfl
 ·rw [Nat.shiftLeft_zero]
  have e : m.log2 = 52 + drop := by omega
  have hmin : min drop (m.log2 + 2) = drop := by omega
  simp only [hmin, Nat.one_shiftLeft]
  rw [e, Nat.pow_add] at hlo
  rw [e, show 52 + drop + 1 = 53 + drop by omega, Nat.pow_add] at hhi
  have hp : 0 < 2 ^ drop := Nat.two_pow_pos _
  have h1 : 2 ^ 52 ≤ m / 2 ^ drop := (Nat.le_div_iff_mul_le hp).2 hlo
  have h2 : m / 2 ^ drop < 2 ^ 53 := (Nat.div_lt_iff_lt_mul hp).2 hhi
  generalize m / 2 ^ drop = q at h1 h2 ⊢
  have hb := fun b : Bool => rt_bool_le b
  refine ⟨Nat.le_trans h1 (Nat.le_add_right _ _), ?_⟩
  exact Nat.le_trans (Nat.add_le_add_left (hb _) q) h2
 have e : m.log2 + up = 52 := by omega
 have hmin : min 0 ((m <<< up).log2 + 2) = 0 := by omega
 simp only [hmin, Nat.shiftLeft_zero, Nat.div_one, Nat.mod_one, Nat.mul_zero]
 rw [Nat.shiftLeft_eq]
 have h1 : 2 ^ m.log2 * 2 ^ up ≤ m * 2 ^ up := Nat.mul_le_mul_right _ hlo
 rw [← Nat.pow_add, e] at h1
 have h2 : m * 2 ^ up < 2 ^ (m.log2 + 1) * 2 ^ up := Nat.mul_lt_mul_of_pos_right hhi (Nat.two_pow_pos _)
 rw [← Nat.pow_add, show m.log2 + 1 + up = 53 by omega] at h2
 refine ⟨Nat.le_trans h1 (Nat.le_add_right _ _), ?_⟩
 exact Nat.le_trans (Nat.add_le_add_left (rt_bool_le _) _) h2
theorem read_write (m : Nat) (p : Int) (h0 : m ≠ 0) (h1 : -1000 ≤ p + m.log2) (h2 : p + m.log2 ≤ 900) : ∃ (k : Nat) (i : Int), double.read (double.nearest false m p) = .number false k i ∧ 4503599627370496 ≤ k ∧ ((i = p + m.log2 - 52 ∧ k < 9007199254740992) ∨ (i = p + m.log2 - 51 ∧ k = 4503599627370496)) := by
 have e1 : ((double.fractionBits : Nat) : Int) = 52 := rfl
 have e2 : double.leastPlace = -1074 := by decide
 have e3 : double.binade = 4503599627370496 := by decide
 have e4 : double.infRung = 9218868437227405312 := by decide
 have e5 : double.signWeight = 9223372036854775808 := by decide
 obtain ⟨last, hl⟩ : ∃ last : Int, last = p + m.log2 - 52 := ⟨_, rfl⟩
 obtain ⟨c, hc⟩ : ∃ c, c = Toward.even.cut false (m <<< (p - last).toNat) (last - p).toNat := ⟨_, rfl⟩
 have hk := kept_lt m h0 (p - last).toNat (last - p).toNat (by omega) (by omega)
 rw [← hc, show (2 : Nat) ^ 52 = 4503599627370496 by decide, show (2 : Nat) ^ 53 = 9007199254740992 by decide] at hk
 have hlast : max (p + (m.log2 : Int) - (double.fractionBits : Nat)) double.leastPlace = last := by
  rw [e1, e2]
  omega
 obtain ⟨u, hu⟩ : ∃ u : Nat, (last + 1074).toNat = u := ⟨_, rfl⟩
 have hub : 20 ≤ u ∧ u ≤ 1930 := by omega
 have hue : last = (u : Int) - 1074 := by omega
 have hn : double.nearest false m p = u * 4503599627370496 + c := by
  unfold Format.nearest
  rw [if_neg h0]
  simp only [hlast]
  rw [← hc, e2, e3, e4]
  unfold Format.word
  have : (last - -1074).toNat = u := by omega
  rw [this, if_neg (by decide)]
  exact Nat.min_eq_left (by clear hu hl hc hlast hue; omega)
 rw [hn]
 clear hn hc
 unfold Format.read
 simp only [e2, e3, e4, e5]
 have r1 : (u * 4503599627370496 + c) / 9223372036854775808 % 2 = 0 := by omega
 have r2 : (u * 4503599627370496 + c) % 9223372036854775808 = u * 4503599627370496 + c := by omega
 rw [r1, r2]
 rw [if_neg (by omega), if_pos (by omega)]
 by_cases hc3 : c = 9007199254740992
 ·refine ⟨4503599627370496, last + 1, ?_, Nat.le_refl _, .inr ⟨by omega, rfl⟩⟩
  have a1 : (u * 4503599627370496 + c) % 4503599627370496 = 0 := by omega
  have a2 : (u * 4503599627370496 + c) / 4503599627370496 - 1 = u + 1 := by omega
  rw [a1, a2, hue]
  have a3 : (-1074 : Int) + ((u + 1 : Nat) : Int) = (u : Int) - 1074 + 1 := by omega
  rw [a3]
  rfl
 refine ⟨c, last, ?_, hk.1, .inl ⟨hl, by omega⟩⟩
 have a1 : 4503599627370496 + (u * 4503599627370496 + c) % 4503599627370496 = c := by omega
 have a2 : (u * 4503599627370496 + c) / 4503599627370496 - 1 = u := by omega
 rw [a1, a2, hue]
 have a3 : (-1074 : Int) + (u : Int) = (u : Int) - 1074 := by omega
 rw [a3]
 rfl
theorem rootFrom_lt (n : Nat) : ∀ (todo root : Nat), Datum.rootFrom n todo root < root + 2 ^ todo
 | 0, root => by simp [Datum.rootFrom]
 | todo + 1, root => by
  unfold Datum.rootFrom
  have h := rootFrom_lt n todo
  simp only [Nat.one_shiftLeft]
  have e : 2 ^ (todo + 1) = 2 ^ todo + 2 ^ todo := by rw [Nat.pow_succ]; omega
  have hp := Nat.two_pow_pos todo
  by_cases q : (root + 2 ^ todo) * (root + 2 ^ todo) ≤ n
  ·rw [if_pos q]
   have := h (root + 2 ^ todo)
   omega
  rw [if_neg q]
  have := h root
  omega
theorem root_start (n : Nat) (hn : n < 2 ^ 61) : ∃ (r : Nat) (q : Nat), double.sqrt (double.nearest false n 0) = some r ∧ (double.read r).toInt .zero = some (q : Int) ∧ q ≤ 2 ^ 31 := by
 by_cases h0 : n = 0
 ·subst h0
  exact ⟨0, 0, by decide, by decide, by decide⟩
 have hL : n.log2 ≤ 60 := rt_log2_le h0 hn
 obtain ⟨k, i, hr, hk, hki⟩ := read_write n 0 h0 (by omega) (by omega)
 have hk3 : k < 2 ^ 53 := by rw [show (2 : Nat) ^ 53 = 9007199254740992 by decide]; omega
 have hk0 : k ≠ 0 := by omega
 have hkl : k.log2 = 52 := by
  have a := rt_log2_le (k := 52) hk0 hk3
  have b := (Nat.le_log2 hk0 (k := 52)).2 (by rw [show (2 : Nat) ^ 52 = 4503599627370496 by decide]; exact hk)
  omega
 have hi : -52 ≤ i ∧ i ≤ 9 := by omega
 unfold Format.sqrt
 rw [hr]
 simp only [Datum.root, if_neg hk0]
 have e1 : double.fractionBits + 2 = 54 := rfl
 rw [e1, hkl]
 simp only [Bool.false_eq_true, if_false]
 obtain ⟨more, hm⟩ : ∃ more, 2 * 54 - 52 + ((i - ((2 * 54 - 52 : Nat) : Int)) % 2).toNat = more := ⟨_, rfl⟩
 rw [hm]
 have hmb : 56 ≤ more ∧ more ≤ 57 ∧ (i - (more : Int)) % 2 = 0 := by omega
 obtain ⟨N, hN⟩ : ∃ N, k <<< more = N := ⟨_, rfl⟩
 rw [hN]
 have hNb : N < 2 ^ 110 := by
  rw [← hN, Nat.shiftLeft_eq]
  calc k * 2 ^ more < 2 ^ 53 * 2 ^ more := Nat.mul_lt_mul_of_pos_right hk3 (Nat.two_pow_pos _)
   _ ≤ 2 ^ 53 * 2 ^ 57 := Nat.mul_le_mul_left _ (Nat.pow_le_pow_right (by decide) hmb.2.1)
   _ = 2 ^ 110 := by decide
 have hN0 : N ≠ 0 := by
  rw [← hN, Nat.shiftLeft_eq]
  have := Nat.mul_pos (show 0 < k by omega) (Nat.two_pow_pos more)
  omega
 have hNl : N.log2 ≤ 109 := rt_log2_le hN0 hNb
 have hwl := rootFrom_lt N (N.log2 / 2 + 1) 0
 obtain ⟨W, hW⟩ : ∃ W, Datum.rootFrom N (N.log2 / 2 + 1) 0 = W := ⟨_, rfl⟩
 rw [hW] at hwl ⊢
 have hWb : W < 2 ^ 55 := by
  refine Nat.lt_of_lt_of_le hwl ?_
  rw [Nat.zero_add]
  exact Nat.pow_le_pow_right (by decide) (by omega)
 obtain ⟨M, hM⟩ : ∃ M, 2 * W + (W * W != N).toNat = M := ⟨_, rfl⟩
 rw [hM]
 have hMb : M < 2 ^ 56 := by
  have := rt_bool_le (W * W != N)
  omega
 obtain ⟨p, hp⟩ : ∃ p, (i - (more : Int)) / 2 - 1 = p := ⟨_, rfl⟩
 rw [hp]
 have hpb : -60 ≤ p ∧ p ≤ -25 := by omega
 simp only [Option.map_some]
 refine ⟨double.write (.number false M p), ?_⟩
 by_cases hM0 : M = 0
 ·refine ⟨0, rfl, ?_, by decide⟩
  have : Format.write double (.number false M p) = 0 := by
   rw [hM0]
   simp only [Format.write, Format.nearest, if_true]
   rfl
  rw [this]
  decide
 have hML : M.log2 ≤ 55 := rt_log2_le hM0 hMb
 obtain ⟨k2, i2, hr2, hk2, hki2⟩ := read_write M p hM0 (by omega) (by omega)
 have hi2 : i2 ≤ -21 := by omega
 have hk20 : k2 ≠ 0 := by omega
 have hk23 : k2 < 2 ^ 53 := by rw [show (2 : Nat) ^ 53 = 9007199254740992 by decide]; omega
 refine ⟨k2 / 2 ^ (min (-i2).toNat 54), rfl, ?_, ?_⟩
 ·show (double.read (double.nearest false M p)).toInt .zero = _
  rw [hr2]
  unfold Datum.toInt Datum.integral Toward.cut
  have hkl2 : k2.log2 = 52 := by
   have a := rt_log2_le (k := 52) hk20 hk23
   have b := (Nat.le_log2 hk20 (k := 52)).2 (by rw [show (2 : Nat) ^ 52 = 4503599627370496 by decide]; exact hk2)
   omega
  have t0 : i2.toNat = 0 := by omega
  simp [t0, hkl2, signed, Nat.one_shiftLeft]
 by_cases h54 : 54 ≤ (-i2).toNat
 ·rw [Nat.min_eq_right h54, Nat.div_eq_of_lt (by omega)]
  decide
 rw [Nat.min_eq_left (by omega)]
 obtain ⟨d, hd⟩ : ∃ d, (-i2).toNat = d := ⟨_, rfl⟩
 rw [hd]
 by_cases hd22 : 22 ≤ d
 ·have : k2 / 2 ^ d ≤ k2 / 2 ^ 22 := Nat.div_le_div_left (Nat.pow_le_pow_right (by decide) hd22) (by decide)
  refine Nat.le_trans this ?_
  omega
 have hd21 : d = 21 := by omega
 have hk52 : k2 = 4503599627370496 := by omega
 rw [hd21, hk52]
 decide
end
def Rt.IsRoot (n r : Int) : Prop := 0 ≤ r ∧ r * r ≤ n ∧ n < (r + 1) * (r + 1)
theorem Rt.sq_le {a b : Int} (h : 0 ≤ a) (h1 : a ≤ b) : a * a ≤ b * b := Int.mul_le_mul h1 h1 h (by omega)
theorem Rt.lt_of_sq {a b : Int} (hb : 0 ≤ b) (h : a * a < b * b) : a < b := by
 rcases Int.lt_or_le a b with h1 | h1
 ·exact h1
 have := Rt.sq_le hb h1
 omega
theorem Rt.IsRoot.unique {n r s : Int} (h : Rt.IsRoot n r) (h' : Rt.IsRoot n s) : r = s := by
 have a : r < s + 1 := Rt.lt_of_sq (by have := h'.1; omega) (Int.lt_of_le_of_lt h.2.1 h'.2.2)
 have b : s < r + 1 := Rt.lt_of_sq (by have := h.1; omega) (Int.lt_of_le_of_lt h'.2.1 h.2.2)
 omega
def Rt.sq (n : Nat) : Nat → Nat
 | 0 => 0
 | m + 1 => if (m + 1) * (m + 1) ≤ n then m + 1 else Rt.sq n m
theorem Rt.sq_spec (n : Nat) : ∀ m : Nat, Rt.sq n m ≤ m ∧ Rt.sq n m * Rt.sq n m ≤ n ∧ (n < (m + 1) * (m + 1) → n < (Rt.sq n m + 1) * (Rt.sq n m + 1))
 | 0 => ⟨Nat.le_refl _, by simp [Rt.sq], id⟩
 | m + 1 => by
  unfold Rt.sq
  by_cases q : (m + 1) * (m + 1) ≤ n
  ·rw [if_pos q]
   exact ⟨Nat.le_refl _, q, id⟩
  rw [if_neg q]
  obtain ⟨a, b, c⟩ := Rt.sq_spec n m
  exact ⟨by omega, b, fun _ => c (by omega)⟩
def Rt.root (n : Int) : Int := (Rt.sq n.toNat n.toNat : Nat)
def Rt.rootUp (n : Int) : Int := if Rt.root n * Rt.root n < n then Rt.root n + 1 else Rt.root n
theorem Rt.root_is {n : Int} (h0 : 0 ≤ n) : Rt.IsRoot n (Rt.root n) := by
 obtain ⟨a, b, c⟩ := Rt.sq_spec n.toNat n.toNat
 have c := c (by
  have := Nat.mul_le_mul (show 1 ≤ n.toNat + 1 by omega) (Nat.le_refl (n.toNat + 1))
  omega)
 unfold Rt.root
 obtain ⟨r, hr⟩ : ∃ r, Rt.sq n.toNat n.toNat = r := ⟨_, rfl⟩
 rw [hr] at b c ⊢
 refine ⟨by omega, ?_, ?_⟩
 ·have : ((r * r : Nat) : Int) ≤ ((n.toNat : Nat) : Int) := by exact_mod_cast b
  rw [Int.natCast_mul] at this
  omega
 have : ((n.toNat : Nat) : Int) < (((r + 1) * (r + 1) : Nat) : Int) := by exact_mod_cast c
 rw [Int.natCast_mul] at this
 push_cast at this
 omega
theorem Rt.root_of {n r : Int} (h : Rt.IsRoot n r) (h0 : 0 ≤ n) : Rt.root n = r := (Rt.root_is h0).unique h
end Go.Proofs.Ytlkafgibgipodaa.P
namespace Go.Proofs.Ytlkafgibgipodaa.P
open Go.RowKit Go.Proofs.YtlkafgibgipodaaW.PrintWords Go.Proofs.YtlkafgibgipodaaW.PrintLast Go.Proofs.YtlkafgibgipodaaW.PrintMore
attribute [local go_sem] max2_int min2_int max_two min_two max_three min_three max_four min_four   -- for this text's walks alone
set_option linter.unusedVariables false
set_option linter.unusedSimpArgs false
end Go.Proofs.Ytlkafgibgipodaa.P
namespace Go.Proofs.Ytlkafgibgipodaa.P
open Go.RowKit Go.Proofs.YtlkafgibgipodaaW.PrintWords Go.Proofs.YtlkafgibgipodaaW.PrintLast Go.Proofs.YtlkafgibgipodaaW.PrintMore
attribute [local go_sem] max2_int min2_int max_two min_two max_three min_three max_four min_four   -- for this text's walks alone
set_option linter.unusedVariables false
set_option linter.unusedSimpArgs false
theorem conv_float (n : Nat) (w : World) : (convert 2 116 (.int .i64 (n : Int))).run Try.prog w = .ok (.float .f64 (Ieee.double.nearest false n 0)) w := by
 have e : FloatKind.f64.nearest (n : Int) = Ieee.double.nearest false n 0 := by
  show Ieee.double.nearest (decide ((n : Int) < 0)) (n : Int).natAbs 0 = _
  rw [zdf (by omega), Int.natAbs_natCast]
 have h0 : ∀ (n : Int) (w : World), (convert 2 116 (.int .i64 n)).run Try.prog w = .ok (.float .f64 (FloatKind.f64.nearest n)) w := fun _ _ => by kernel_rfl
 rw [h0, e]
theorem conv_int (r q : Nat) (h : (Ieee.double.read r).toInt .zero = some (q : Int)) (hq : q ≤ 2147483648) (w : World) : (convert 116 2 (.float .f64 r)).run Try.prog w = .ok (.int .i64 (q : Int)) w := by
 have e : (Conv.floatToInt .f64 r .i64).run Try.prog w = .ok (.int .i64 (q : Int)) w := by
  unfold Conv.floatToInt
  have h2 : (FloatKind.f64.decode r).toInt .zero = some (q : Int) := h
  simp only [h2]
  have h3 : IntKind.i64.min ≤ (q : Int) ∧ (q : Int) ≤ IntKind.i64.max := by
   have e1 : IntKind.i64.min = -9223372036854775808 := by decide
   have e2 : IntKind.i64.max = 9223372036854775807 := by decide
   rw [e1, e2]
   omega
  rw [if_pos h3]
  rfl
 have h0 : ∀ (r : Nat) (w : World), (convert 116 2 (.float .f64 r)).run Try.prog w = (Conv.floatToInt .f64 r .i64).run Try.prog w := fun _ _ => by kernel_rfl
 rw [h0, e]
theorem call_sqrt (x r : Nat) (h : Ieee.double.sqrt x = some r) (w : World) : (callFunc 137 #[.float .f64 x]).run Try.prog w = .ok (.value (.float .f64 r)) w := by
 rw [run_callFunc_extern Try.func137 (by kernel_rfl) (by kernel_rfl) (by kernel_rfl) (e := Extern.MathSqrt.sqrt) (by kernel_rfl)]
 have e : (Extern.MathSqrt.sqrt #[.float .f64 x]).run Try.prog w = .ok (.float .f64 r) w := by
  have h2 : FloatKind.f64.format.sqrt x = some r := h
  have h0 : ∀ (x : Nat) (w : World), (Extern.MathSqrt.sqrt #[.float .f64 x]).run Try.prog w = ((match FloatKind.f64.format.sqrt x with | some r => pure (.float .f64 r) | none => do pure (.float .f64 (← choose (.nanBits .f64 x x)))) : Sem Value).run Try.prog w := fun _ _ => by kernel_rfl
  rw [h0, h2]
  rfl
 rw [e]
 rfl
theorem math_Sqrt.calls (x r : Nat) (h : Ieee.double.sqrt x = some r) (w : World) : Calls Try.prog 126 #[.float .f64 x] w fun e w' => e = .returned (.float .f64 r) ∧ w' = w := by
 have hs := fun w => call_sqrt x r h w
 go_enter Try.func126, Try.ntmps126
 go_wp2
 go_ret
 exact ⟨rfl, rfl⟩
theorem rt_measure (M s : Nat) (h2 : s < M) (x : Int) (hx : x = (s : Int) + 1) : M - (intOf (.int .i64 x)).toNat < M - (intOf (.int .i64 (s : Int))).toNat := by
 subst hx
 have h3 : ((s : Int) + 1).toNat = s + 1 := (by omega)
 simp only [intOf, h3, Int.toNat_natCast]
 omega
def bound_round_root.f (a0_0 : Bool) (a1 : Int) : Option Int := if 0 ≤ a1 ∧ a1 < 2305843009213693952 then some (if a0_0 = true then Rt.rootUp a1 else Rt.root a1) else none
set_option maxHeartbeats 8000000 in
set_option maxRecDepth 100000 in
theorem bound_round_root.calls (a0_0 : Bool) (a1 : Int) (r : Int) (w : World) (h : bound_round_root.f a0_0 a1 = some r) :
  Calls Try.prog 105 #[.agg #[.bool a0_0], .int .i64 a1] w fun e w' => e = .returned (.int .i64 r) ∧ Below w.heap.size w w' := by
 have hu110 := Try.underlying110
 unfold bound_round_root.f at h
 by_cases c : 0 ≤ a1 ∧ a1 < 2305843009213693952
 ·rw [if_pos c] at h
  obtain rfl := zsi h
  obtain ⟨n, rfl⟩ : ∃ n : Nat, a1 = (n : Int) := ⟨a1.toNat, by omega⟩
  obtain ⟨x, q, hx, hq, hql⟩ := root_start n (by omega)
  have hql2 : q ≤ 2147483648 := by simpa using hql
  have HC := zam c
  have HQL := zam hql2
  have hc1 := conv_float n
  have hc2 := conv_int x q hq hql2
  clear hq hql c h
  have SQ := zam (fun w => math_Sqrt.calls _ x hx w)
  clear hx hql2
  go_enter Try.func105, Try.ntmps105
  go_wp2_with (first | ((with_reducible refine zgd (N := 2) rfl ?_); refine box_event ?hg (N := 2) ?hd (cs := #[.bool a0_0]) (t := 110) ?hr ?_; (case hd => rfl); (case hg => rfl); (case hr => first | (go_simp; done) | (go_simp; rfl)); intro gm hgm w1 hbk hb0; have BM := zam hbk; have HB := zam hb0; clear hgm hbk hb0) | (go_at_call 126; (with_reducible refine (SQ.out _).mono ?_); rintro e w2 ⟨rfl, rfl⟩))
  clear hc1 hc2 SQ
  obtain ⟨M, hM⟩ : ∃ M : Nat, M = 2147483648 := ⟨_, rfl⟩
  have HM := zam hM
  clear hM
  go_loopw [5] (fun v wr => ∃ p : Nat, p ≤ 2147483648 ∧ v = .int .i64 (p : Int) ∧ wr.heap[gm]? = some (.cells #[.bool a0_0] 110 (0, 0)) ∧ Below w.heap.size w wr) (fun v _ => (intOf v).toNat)
  case atStart => exact ⟨q, HQL.out, rfl, BM.out, HB.out⟩
  case round =>
   clear BM HB
   obtain ⟨p, hp, rfl, hbm, hb⟩ := hrel
   have BM := zam hbm
   have HB := zam hb
   have pp := Nat.mul_le_mul hp hp
   have wm : wrap64 ((p : Int) * (p : Int)) = (p : Int) * (p : Int) := wrap_id (by rw [← Int.natCast_mul]; omega) (by rw [← Int.natCast_mul]; omega)
   by_cases hlt : (n : Int) < (p : Int) * (p : Int)
   ·have dl : decide ((n : Int) < (p : Int) * (p : Int)) = true := zdt hlt
    have hp0 : p ≠ 0 := fun e => by subst e; simp at hlt; omega
    have ws : wrap64 ((p : Int) - 1) = ((p - 1 : Nat) : Int) := by rw [wrap_id (by omega) (by omega)]; omega
    clear hbm hb
    go_wp2
    go_roundw
    case rel => exact ⟨p - 1, by omega, congrArg (Value.int .i64) (by omega), BM.out, HB.out⟩
    case measure => (simp only [intOf]; omega)
   have dl : decide ((n : Int) < (p : Int) * (p : Int)) = false := zdf hlt
   have HLE : Aside0 ((p : Int) * (p : Int) ≤ (n : Int)) := ⟨by omega⟩
   clear hbm hb hlt
   go_wp2
   clear dl wm pp
   have HP := zam hp
   clear hp
   go_loopw [5] (fun v wr => ∃ s : Nat, (s : Int) * (s : Int) ≤ (n : Int) ∧ v = .int .i64 (s : Int) ∧ wr.heap[gm]? = some (.cells #[.bool a0_0] 110 (0, 0)) ∧ Below w.heap.size w wr) (fun v _ => M - (intOf v).toNat)
   case atStart => exact ⟨p, HLE.out, rfl, BM.out, HB.out⟩
   case round =>
    clear BM HB
    obtain ⟨s, hs, rfl, hbm, hb⟩ := hrel
    have BM := zam hbm
    have HB := zam hb
    have s31 : (s : Int) < 2147483648 := Rt.lt_of_sq (by omega) (by have := HC.out; omega)
    have s32 : s + 1 ≤ 2147483648 := by omega
    have pp := Nat.mul_le_mul s32 s32
    have pq : ((s : Int) + 1) * ((s : Int) + 1) ≤ 2147483648 * 2147483648 := by
     have : (((s + 1) * (s + 1) : Nat) : Int) ≤ 2147483648 * 2147483648 := by omega
     rw [Int.natCast_mul] at this
     push_cast at this
     exact this
    have p0 : 0 ≤ ((s : Int) + 1) * ((s : Int) + 1) := Int.mul_nonneg (by omega) (by omega)
    have wm : wrap64 (((s : Int) + 1) * ((s : Int) + 1)) = ((s : Int) + 1) * ((s : Int) + 1) := wrap_id (by omega) (by omega)
    have ws : wrap64 ((s : Int) + 1) = (s : Int) + 1 := wrap_id (by omega) (by omega)
    have HS := zam hs
    have S31 := zam s31
    by_cases hlt : ((s : Int) + 1) * ((s : Int) + 1) ≤ (n : Int)
    ·have dl : decide (((s : Int) + 1) * ((s : Int) + 1) ≤ (n : Int)) = true := zdt hlt
     have HLT := zam hlt
     clear hbm hb hs s31 s32 pp pq p0 hlt
     go_wp2
     go_roundw
     case rel => exact ⟨s + 1, (by rw [show ((s + 1 : Nat) : Int) = (s : Int) + 1 by omega]; exact HLT.out), congrArg (Value.int .i64) (by omega), BM.out, HB.out⟩
     case measure => exact rt_measure M s (by have := S31.out; have := HM.out; omega) _ ws
    have dl : decide (((s : Int) + 1) * ((s : Int) + 1) ≤ (n : Int)) = false := zdf hlt
    have HR : Aside0 (Rt.root (n : Int) = (s : Int)) := ⟨Rt.root_of ⟨by omega, hs, by omega⟩ (by omega)⟩
    have hz0 := (zkc hbm 0).trans rfl
    have w0 : 0 ≤ (s : Int) * (s : Int) := Int.mul_nonneg (by omega) (by omega)
    have wm2 : wrap64 ((s : Int) * (s : Int)) = (s : Int) * (s : Int) := wrap_id (by omega) (by have := HC.out; omega)
    have EU : Aside0 (Rt.rootUp (n : Int) = if (s : Int) * (s : Int) < (n : Int) then (s : Int) + 1 else (s : Int)) := ⟨by unfold Rt.rootUp; rw [HR.out]⟩
    clear hbm hb hs s31 s32 pp pq p0 hlt w0
    cases a0_0 with
    | false =>
     go_wp2
     go_ret
     exact ⟨by (rw [HR.out]) <;> rfl, HB.out⟩
    | true =>
     by_cases hu : (s : Int) * (s : Int) < (n : Int)
     ·have du : decide ((s : Int) * (s : Int) < (n : Int)) = true := zdt hu
      have HU := zam hu
      clear hu
      go_wp2
      go_ret
      exact ⟨by (rw [EU.out, if_pos HU.out]) <;> rfl, HB.out⟩
     have du : decide ((s : Int) * (s : Int) < (n : Int)) = false := zdf hu
     have HU := zam hu
     clear hu
     go_wp2
     go_ret
     exact ⟨by (rw [EU.out, if_neg (by have := HU.out; omega)]) <;> rfl, HB.out⟩
 rw [if_neg c] at h
 cases h
mutual
def isobathref01_Line.j0 : Nat → Int → Int → Int → Bool → Int → Int → Int → Int → Option (Int × Int × Int)
 | 0, _, _, _, _, _, _, _, _ => none
 | k + 1, x0, x2, x4, x19, x102000, x102001, x103000, x103001 => if x19 = true then (some (0, 0, 2)) else (if x0 < 0 then (isobathref01_Line.j1 k x0 x2 x4 true x102000 x102001 x103000 x103001) else (if x2 > 1073741824 then (isobathref01_Line.j1 k x0 x2 x4 true x102000 x102001 x103000 x103001) else (if x0 ≥ x2 then (isobathref01_Line.j1 k x0 x2 x4 true x102000 x102001 x103000 x103001) else ((isobathref01_Within.f x4 x0 x2).bind fun t106 => (isobathref01_Line.j1 k x0 x2 x4 (!t106) x102000 x102001 x103000 x103001)))))
def isobathref01_Line.j1 : Nat → Int → Int → Int → Bool → Int → Int → Int → Int → Option (Int × Int × Int)
 | 0, _, _, _, _, _, _, _, _ => none
 | k + 1, x0, x2, x4, x38, x102000, x102001, x103000, x103001 => if x38 = true then (some (0, 0, 3)) else ((isobathref01_Down.f k (wrap64 ((wrap64 (x102000 * (wrap64 (x2 - x4)))) + (wrap64 (x103000 * (wrap64 (x4 - x0)))))) (wrap64 (x2 - x0))).bind fun t107 => ((isobathref01_Up.f k (wrap64 ((wrap64 (x102001 * (wrap64 (x2 - x4)))) + (wrap64 (x103001 * (wrap64 (x4 - x0)))))) (wrap64 (x2 - x0))).bind fun t108 => ((isobathref01_result.f t107 t108).bind fun bt109 => (some (bt109.1, bt109.2.1, bt109.2.2)))))
end
theorem Bo.root_is {n : Int} (h0 : 0 ≤ n) : 0 ≤ Rt.root n ∧ Rt.root n * Rt.root n ≤ n ∧ n < (Rt.root n + 1) * (Rt.root n + 1) := Rt.root_is h0
def Bo.root (a0 a1 : Int) : Int × Int × Int := if Bo.v a0 a1 then (if a0 < 0 then (0, 0, 3) else (Rt.root a0, Rt.rootUp a1, 0)) else (0, 0, 2)
def Bo.grow (a0 a1 n : Int) : Int × Int × Int := if Bo.v a0 a1 then (if 0 ≤ n ∧ n ≤ 1073741824 then Bo.res (a0 - n) (a1 + n) else (0, 0, 3)) else (0, 0, 2)
def Bd.join1 (out : List S32) (a : S32) : List S32 :=
 match out.getLast? with
 | some b => if a.f0 ≤ wrap64 (b.f1 + 1) then out.dropLast ++ [⟨b.f0, max b.f1 a.f1⟩] else out ++ [a]
 | none => [a]
def Bd.join (l : List S32) : List S32 := l.foldl Bd.join1 []
theorem Bd.join_snoc (l : List S32) (a : S32) : Bd.join (l ++ [a]) = Bd.join1 (Bd.join l) a := by simp [Bd.join]
theorem Bd.join1_le (out : List S32) (a : S32) : (Bd.join1 out a).length ≤ out.length + 1 := by
 unfold Bd.join1
 split
 ·next b h =>
  split
  ·have : out ≠ [] := by rintro rfl; cases h
   have : 0 < out.length := List.length_pos_iff.2 this
   simp only [List.length_append, List.length_dropLast, List.length_cons, List.length_nil]
   omega
  simp
 simp
theorem Bd.join_le (l : List S32) : (Bd.join l).length ≤ l.length := by
 have h : ∀ (l out : List S32), (l.foldl Bd.join1 out).length ≤ out.length + l.length := by
  intro l
  induction l with
  | nil => intro out; simp
  | cons a l ih =>
   intro out
   have h1 := ih (Bd.join1 out a)
   have h2 := Bd.join1_le out a
   simp only [List.foldl_cons, List.length_cons]
   omega
 have := h l []
 simp only [List.length_nil, Nat.zero_add] at this
 exact this
theorem Bd.join1_merge {ys : List S32} {b x : S32} (q : x.f0 ≤ wrap64 (b.f1 + 1)) : Bd.join1 (ys ++ [b]) x = ys ++ [⟨b.f0, if b.f1 < x.f1 then x.f1 else b.f1⟩] := by
 have e : max b.f1 x.f1 = if b.f1 < x.f1 then x.f1 else b.f1 := by
  split <;> omega
 unfold Bd.join1
 rw [List.getLast?_append, List.getLast?_singleton]
 simp only [Option.some_or]
 rw [if_pos q, List.dropLast_concat, e]
theorem Bd.join1_more {ys : List S32} {b x : S32} (q : ¬ x.f0 ≤ wrap64 (b.f1 + 1)) : Bd.join1 (ys ++ [b]) x = (ys ++ [b]) ++ [x] := by
 unfold Bd.join1
 rw [List.getLast?_append, List.getLast?_singleton]
 simp only [Option.some_or]
 rw [if_neg q]
def Bd.ok (s : S32) : Prop := s.f0 ≤ s.f1 ∧ -1073741824 ≤ s.f0 ∧ s.f1 ≤ 1073741824
def Bd.mem (l : List S32) (n : Int) : Prop := ∃ s ∈ l, s.f0 ≤ n ∧ n ≤ s.f1
def Bd.Normal (l : List S32) : Prop := l.Pairwise (fun s t => s.f1 + 2 ≤ t.f0) ∧ ∀ s ∈ l, Bd.ok s
theorem Bd.mem_nil (n : Int) : ¬ Bd.mem [] n := fun ⟨_, h, _⟩ => by cases h
theorem Bd.mem_cons {s : S32} {l : List S32} {n : Int} : Bd.mem (s :: l) n ↔ (s.f0 ≤ n ∧ n ≤ s.f1) ∨ Bd.mem l n := by
 unfold Bd.mem
 constructor
 ·rintro ⟨t, ht, h⟩
  rcases List.mem_cons.1 ht with rfl | ht
  ·exact .inl h
  exact .inr ⟨t, ht, h⟩
 rintro (h | ⟨t, ht, h⟩)
 ·exact ⟨s, List.mem_cons_self, h⟩
 exact ⟨t, List.mem_cons_of_mem _ ht, h⟩
theorem Bd.mem_append {l m : List S32} {n : Int} : Bd.mem (l ++ m) n ↔ Bd.mem l n ∨ Bd.mem m n := by
 unfold Bd.mem
 constructor
 ·rintro ⟨t, ht, h⟩
  rcases List.mem_append.1 ht with ht | ht
  ·exact .inl ⟨t, ht, h⟩
  exact .inr ⟨t, ht, h⟩
 rintro (⟨t, ht, h⟩ | ⟨t, ht, h⟩)
 ·exact ⟨t, List.mem_append.2 (.inl ht), h⟩
 exact ⟨t, List.mem_append.2 (.inr ht), h⟩
theorem Bd.mem_one {s : S32} {n : Int} : Bd.mem [s] n ↔ (s.f0 ≤ n ∧ n ≤ s.f1) := by
 rw [Bd.mem_cons]
 exact ⟨fun h => h.elim id fun h => absurd h (Bd.mem_nil n), .inl⟩
theorem Bd.Normal.tail {s : S32} {l : List S32} (h : Bd.Normal (s :: l)) : Bd.Normal l := ⟨(List.pairwise_cons.1 h.1).2, fun t ht => h.2 t (List.mem_cons_of_mem _ ht)⟩
theorem Bd.Normal.far {s : S32} {l : List S32} (h : Bd.Normal (s :: l)) {n : Int} (hn : Bd.mem l n) : s.f1 + 2 ≤ n := by
 obtain ⟨t, ht, h1, _⟩ := hn
 have := (List.pairwise_cons.1 h.1).1 t ht
 omega
theorem Bd.Normal.least {s : S32} {l : List S32} (h : Bd.Normal (s :: l)) {n : Int} (hn : Bd.mem (s :: l) n) : s.f0 ≤ n := by
 rcases Bd.mem_cons.1 hn with h1 | h1
 ·exact h1.1
 have := h.far h1
 have := (h.2 s List.mem_cons_self).1
 omega
theorem Bd.Normal.unique : ∀ {l m : List S32}, Bd.Normal l → Bd.Normal m → (∀ n, Bd.mem l n ↔ Bd.mem m n) → l = m
 | [], [], _, _, _ => rfl
 | [], t :: m, _, hm, h => by
  have h1 := (hm.2 t List.mem_cons_self).1
  exact absurd ((h t.f0).2 (Bd.mem_cons.2 (.inl ⟨Int.le_refl _, h1⟩))) (Bd.mem_nil _)
 | s :: l, [], hl, _, h => by
  have h1 := (hl.2 s List.mem_cons_self).1
  exact absurd ((h s.f0).1 (Bd.mem_cons.2 (.inl ⟨Int.le_refl _, h1⟩))) (Bd.mem_nil _)
 | s :: l, t :: m, hl, hm, h => by
  have hs := (hl.2 s List.mem_cons_self).1
  have ht := (hm.2 t List.mem_cons_self).1
  have a1 := hm.least ((h s.f0).1 (Bd.mem_cons.2 (.inl ⟨Int.le_refl _, hs⟩)))
  have a2 := hl.least ((h t.f0).2 (Bd.mem_cons.2 (.inl ⟨Int.le_refl _, ht⟩)))
  have b1 : ¬ s.f1 < t.f1 := fun q => by
   rcases Bd.mem_cons.1 ((h (s.f1 + 1)).2 (Bd.mem_cons.2 (.inl ⟨by omega, by omega⟩))) with h1 | h1
   ·omega
   have := hl.far h1
   omega
  have b2 : ¬ t.f1 < s.f1 := fun q => by
   rcases Bd.mem_cons.1 ((h (t.f1 + 1)).1 (Bd.mem_cons.2 (.inl ⟨by omega, by omega⟩))) with h1 | h1
   ·omega
   have := hm.far h1
   omega
  have e : s = t := by
   cases s
   cases t
   dsimp only at *
   congr 1 <;> omega
  subst e
  refine congrArg _ (Bd.Normal.unique hl.tail hm.tail fun n => ⟨fun hn => ?_, fun hn => ?_⟩)
  ·have := hl.far hn
   exact (Bd.mem_cons.1 ((h n).1 (Bd.mem_cons.2 (.inr hn)))).elim (fun h1 => by omega) id
  have := hm.far hn
  exact (Bd.mem_cons.1 ((h n).2 (Bd.mem_cons.2 (.inr hn)))).elim (fun h1 => by omega) id
theorem Bd.join1_inv {out pre : List S32} {a : S32} (ha : Bd.ok a) (h1 : Bd.Normal out) (h2 : ∀ n, Bd.mem out n ↔ Bd.mem pre n) (h3 : ∀ s ∈ out, ∃ p ∈ pre, s.f0 = p.f0) (h4 : ∀ p ∈ pre, p.f0 ≤ a.f0) :
  Bd.Normal (Bd.join1 out a) ∧ (∀ n, Bd.mem (Bd.join1 out a) n ↔ Bd.mem (pre ++ [a]) n) ∧ ∀ s ∈ Bd.join1 out a, ∃ p ∈ pre ++ [a], s.f0 = p.f0 := by
 have hle : ∀ s ∈ out, s.f0 ≤ a.f0 := fun s hs => by
  obtain ⟨p, hp, e⟩ := h3 s hs
  rw [e]
  exact h4 p hp
 rcases List.eq_nil_or_concat out with rfl | ⟨ys, b, e⟩
 ·have e1 : Bd.join1 [] a = [a] := rfl
  rw [e1]
  refine ⟨⟨List.pairwise_singleton _ _, fun s hs => by rw [List.mem_singleton.1 hs]; exact ha⟩, fun n => ?_, fun s hs => ⟨a, by simp, by rw [List.mem_singleton.1 hs]⟩⟩
  rw [Bd.mem_append, ← h2]
  exact ⟨.inr, fun h => h.elim (fun h => absurd h (Bd.mem_nil n)) id⟩
 rw [List.concat_eq_append] at e
 subst e
 have hb := h1.2 b (by simp)
 have hba := hle b (by simp)
 obtain ⟨p1, p2, p3⟩ := List.pairwise_append.1 h1.1
 have w1 : wrap64 (b.f1 + 1) = b.f1 + 1 := wrap_id (by have := hb.1; have := hb.2.1; omega) (by have := hb.2.2; omega)
 obtain ⟨a1, a2, a3⟩ := ha
 obtain ⟨b1, b2, b3⟩ := hb
 by_cases q : a.f0 ≤ wrap64 (b.f1 + 1)
 ·rw [Bd.join1_merge q]
  rw [w1] at q
  have hm : ∀ m, (if b.f1 < a.f1 then a.f1 else b.f1) = m → b.f1 ≤ m ∧ a.f1 ≤ m ∧ (m = b.f1 ∨ m = a.f1) := fun m hm => by
   split at hm <;> omega
  obtain ⟨m, em⟩ : ∃ m, (if b.f1 < a.f1 then a.f1 else b.f1) = m := ⟨_, rfl⟩
  obtain ⟨m1, m2, m3⟩ := hm m em
  rw [em]
  refine ⟨⟨List.pairwise_append.2 ⟨p1, List.pairwise_singleton _ _, fun s hs t ht => ?_⟩, fun s hs => ?_⟩, fun n => ?_, fun s hs => ?_⟩
  ·rw [List.mem_singleton.1 ht]
   exact p3 s hs b (by simp)
  ·rcases List.mem_append.1 hs with hs | hs
   ·exact h1.2 s (by simp [hs])
   rw [List.mem_singleton.1 hs]
   exact ⟨by show b.f0 ≤ m; omega, b2, by show m ≤ 1073741824; omega⟩
  ·rw [Bd.mem_append (m := [a]), ← h2, Bd.mem_append, Bd.mem_append, Bd.mem_one, Bd.mem_one, Bd.mem_one]
   constructor
   ·rintro (h | ⟨h, h'⟩)
    ·exact .inl (.inl h)
    have h : b.f0 ≤ n := h
    have h' : n ≤ m := h'
    by_cases q2 : n ≤ b.f1
    ·exact .inl (.inr ⟨h, q2⟩)
    exact .inr ⟨by omega, by omega⟩
   rintro ((h | h) | h)
   ·exact .inl h
   ·exact .inr ⟨h.1, by show n ≤ m; omega⟩
   exact .inr ⟨by show b.f0 ≤ n; omega, by show n ≤ m; omega⟩
  rcases List.mem_append.1 hs with hs | hs
  ·obtain ⟨p, hp, e⟩ := h3 s (by simp [hs])
   exact ⟨p, by simp [hp], e⟩
  obtain ⟨p, hp, e⟩ := h3 b (by simp)
  rw [List.mem_singleton.1 hs]
  exact ⟨p, by simp [hp], e⟩
 rw [Bd.join1_more q]
 rw [w1] at q
 refine ⟨⟨List.pairwise_append.2 ⟨h1.1, List.pairwise_singleton _ _, fun s hs t ht => ?_⟩, fun s hs => ?_⟩, fun n => ?_, fun s hs => ?_⟩
 ·rw [List.mem_singleton.1 ht]
  rcases List.mem_append.1 hs with hs | hs
  ·have := p3 s hs b (by simp)
   omega
  rw [List.mem_singleton.1 hs]
  omega
 ·rcases List.mem_append.1 hs with hs | hs
  ·exact h1.2 s hs
  rw [List.mem_singleton.1 hs]
  exact ⟨a1, a2, a3⟩
 ·rw [Bd.mem_append, h2, Bd.mem_append (l := pre)]
 rcases List.mem_append.1 hs with hs | hs
 ·obtain ⟨p, hp, e⟩ := h3 s hs
  exact ⟨p, by simp [hp], e⟩
 exact ⟨a, by simp, by rw [List.mem_singleton.1 hs]⟩
theorem Bd.join_spec (l : List S32) (hs : l.Pairwise fun a b => ¬ b.f0 < a.f0) (ho : ∀ s ∈ l, Bd.ok s) : Bd.Normal (Bd.join l) ∧ (∀ n, Bd.mem (Bd.join l) n ↔ Bd.mem l n) := by
 have h : ∀ (m pre out : List S32), l = pre ++ m → Bd.Normal out → (∀ n, Bd.mem out n ↔ Bd.mem pre n) → (∀ s ∈ out, ∃ p ∈ pre, s.f0 = p.f0) → Bd.Normal (m.foldl Bd.join1 out) ∧ ∀ n, Bd.mem (m.foldl Bd.join1 out) n ↔ Bd.mem l n := by
  intro m
  induction m with
  | nil =>
   intro pre out e h1 h2 h3
   rw [List.append_nil] at e
   rw [e]
   exact ⟨h1, h2⟩
  | cons a m ih =>
   intro pre out e h1 h2 h3
   have ha : Bd.ok a := ho a (by rw [e]; simp)
   have h4 : ∀ p ∈ pre, p.f0 ≤ a.f0 := fun p hp => by
    rw [e] at hs
    have := (List.pairwise_append.1 hs).2.2 p hp a (by simp)
    omega
   obtain ⟨g1, g2, g3⟩ := Bd.join1_inv ha h1 h2 h3 h4
   exact ih (pre ++ [a]) (Bd.join1 out a) (by rw [e]; simp) g1 g2 g3
 exact h l [] [] rfl ⟨List.Pairwise.nil, fun s hs => by cases hs⟩ (fun n => Iff.rfl) (fun s hs => by cases hs)
def Bd.ins (a : S32) : List S32 → List S32
 | [] => [a]
 | b :: l => if a.f0 ≤ b.f0 then a :: b :: l else b :: Bd.ins a l
def Bd.sort : List S32 → List S32
 | [] => []
 | a :: l => Bd.ins a (Bd.sort l)
theorem Bd.ins_perm (a : S32) : ∀ l : List S32, (Bd.ins a l).Perm (a :: l)
 | [] => List.Perm.refl _
 | b :: l => by
  unfold Bd.ins
  split
  ·exact List.Perm.refl _
  exact ((Bd.ins_perm a l).cons b).trans (List.Perm.swap a b l)
theorem Bd.sort_perm : ∀ l : List S32, (Bd.sort l).Perm l
 | [] => List.Perm.refl _
 | a :: l => (Bd.ins_perm a _).trans ((Bd.sort_perm l).cons a)
theorem Bd.ins_sorted (a : S32) : ∀ l : List S32, (l.Pairwise fun a b => ¬ b.f0 < a.f0) → (Bd.ins a l).Pairwise fun a b => ¬ b.f0 < a.f0
 | [], _ => List.pairwise_singleton _ _
 | b :: l, h => by
  obtain ⟨h1, h2⟩ := List.pairwise_cons.1 h
  unfold Bd.ins
  split
  ·next q =>
   refine List.pairwise_cons.2 ⟨fun t ht => ?_, h⟩
   rcases List.mem_cons.1 ht with rfl | ht
   ·omega
   have := h1 t ht
   omega
  next q =>
  refine List.pairwise_cons.2 ⟨fun t ht => ?_, Bd.ins_sorted a l h2⟩
  rcases List.mem_cons.1 ((Bd.ins_perm a l).mem_iff.1 ht) with rfl | ht
  ·omega
  exact h1 t ht
theorem Bd.sort_sorted : ∀ l : List S32, (Bd.sort l).Pairwise fun a b => ¬ b.f0 < a.f0
 | [] => List.Pairwise.nil
 | a :: l => Bd.ins_sorted a _ (Bd.sort_sorted l)
def Bd.cover (l : List S32) : List S32 := Bd.join (Bd.sort l)
theorem Bd.mem_perm {l m : List S32} (h : l.Perm m) (n : Int) : Bd.mem l n ↔ Bd.mem m n :=
 ⟨fun ⟨s, hs, h1⟩ => ⟨s, h.mem_iff.1 hs, h1⟩, fun ⟨s, hs, h1⟩ => ⟨s, h.mem_iff.2 hs, h1⟩⟩
theorem Bd.cover_spec {l : List S32} (ho : ∀ s ∈ l, Bd.ok s) : Bd.Normal (Bd.cover l) ∧ ∀ n, Bd.mem (Bd.cover l) n ↔ Bd.mem l n := by
 have h := Bd.join_spec (Bd.sort l) (Bd.sort_sorted l) fun s hs => ho s ((Bd.sort_perm l).mem_iff.1 hs)
 exact ⟨h.1, fun n => (h.2 n).trans (Bd.mem_perm (Bd.sort_perm l) n)⟩
theorem Bd.join_perm {l ys : List S32} (hp : ys.Perm l) (hs : ys.Pairwise fun a b => ¬ b.f0 < a.f0) (ho : ∀ s ∈ l, Bd.ok s) : Bd.join ys = Bd.cover l := by
 have h := Bd.join_spec ys hs fun s h => ho s (hp.mem_iff.1 h)
 have g := Bd.cover_spec ho
 exact Bd.Normal.unique h.1 g.1 fun n => ((h.2 n).trans (Bd.mem_perm hp n)).trans (g.2 n).symm
end Go.Proofs.Ytlkafgibgipodaa.P
namespace Go.Proofs.Ytlkafgibgipodaa.P
open Go.RowKit Go.Proofs.YtlkafgibgipodaaW.PrintWords Go.Proofs.YtlkafgibgipodaaW.PrintLast Go.Proofs.YtlkafgibgipodaaW.PrintMore
attribute [local go_sem] max2_int min2_int max_two min_two max_three min_three max_four min_four   -- for this text's walks alone
set_option linter.unusedVariables false
set_option linter.unusedSimpArgs false
open Go.Shelf
attribute [local go_sem] Oper.semAt_some
def Bd.flat : List S32 → List Value
 | [] => []
 | x :: xs => .int .i64 x.f0 :: .int .i64 x.f1 :: Bd.flat xs
theorem Bd.flat_length : ∀ xs : List S32, (Bd.flat xs).length = xs.length * 2
 | [] => rfl
 | x :: xs => by
  simp only [Bd.flat, List.length_cons, Bd.flat_length xs]
  omega
theorem Bd.flat_append : ∀ xs ys : List S32, Bd.flat (xs ++ ys) = Bd.flat xs ++ Bd.flat ys
 | [], _ => rfl
 | x :: xs, ys => by
  rw [List.cons_append, Bd.flat, Bd.flat, Bd.flat_append xs ys, List.cons_append, List.cons_append]
theorem bd_results_cell {fn : Func} {p : Tmp} {ty e : TypeId} {P : Program} (h : fn.results = #[.cell p ty]) (tmps : Array Value) (w : World) (g : Nat) (t : TypeId) (v : Value)
  (hp : tmps.getD p undef = .pointer (some ⟨g, 0, none⟩)) (hg : w.heap[g]? = some (.cells #[v] t (0, 0))) (hu : P.underlying ty = some (.slice e)) :
  (results fn tmps).run P w = .ok v w := by
 have hp' : tmps[p]?.getD undef = .pointer (some ⟨g, 0, none⟩) := by simpa using hp
 have hc : w.cell? ⟨g, 0, none⟩ = some v := (zkc hg 0).trans rfl
 have hU := run_underlying (P := P) (w := w) hu
 simp [results, h, hp', asAddr, loadVar, isAgg, hU, go_sem, hc]
structure JoinIn (w : World) (out : List S32) (V : World) : Prop where
 row : ∃ v : Value, V.heap[w.heap.size]? = some (.cells #[v] 44 (0, 0)) ∧ V.ownsRow (w.heap.size + 1) 32 2 v out.length (Bd.flat out)
 below : Below w.heap.size w V
theorem row_cells {V : World} {b ty sz : Nat} {v : Value} {n : Nat} {xs : List Value} (h : V.ownsRow b ty sz v n xs) : ∀ (k : Nat) (o : Obj), v.ownBlock = some k → V.heap[k]? = some o → o.isCells = true := by
 intro k o hk ho
 rcases h.2 with ⟨e, _⟩ | ⟨g, cap, cur, e, _, hcur, _⟩
 ·rw [e] at hk
  cases hk
 rw [e] at hk
 simp only [Value.ownBlock, Option.some.injEq] at hk
 subst hk
 rw [hcur] at ho
 cases ho
 rfl
theorem row_stays {V V' : World} {b ty sz : Nat} {v : Value} {n : Nat} {xs : List Value} {row : Option Nat} (h : V.ownsRow b ty sz v n xs) (hg : V.grownBy V' row) (hr : ∀ r, row = some r → ∃ o : Obj, V.heap[r]? = some o ∧ o.isCells = false) : V'.ownsRow b ty sz v n xs := by
 refine ⟨h.1, h.2.imp id fun ⟨g, cap, cur, e, h2, h3, h4⟩ => ⟨g, cap, cur, e, h2, ?_, h4⟩⟩
 refine (hg.block g (blk_lt h3) fun er => ?_).trans h3
 obtain ⟨o, ho, hc⟩ := hr g er.symm
 rw [h3] at ho
 cases ho
 cases hc
theorem own_at {B k : Nat} {o : Obj} {W W' : World} {row : Option Nat} (hk : k < B) (h : W.heap[k]? = some o) (hg : W.grownBy W' row) (hr : ∀ r, row = some r → B ≤ r ∧ ∃ o : Obj, W.heap[r]? = some o ∧ o.isCells = false) : W'.heap[k]? = some o := by
 refine (hg.block k (blk_lt h) (fun e => ?_)).trans h
 have := (hr k e.symm).1
 omega
theorem joinIn_own (w : World) {B : Nat} (hB : w.heap.size + 1 ≤ B) : OwnFrom B (fun (pre : List S32) V => JoinIn w (Bd.join pre) V) := by
 intro pre V V' row hs hg hr
 obtain ⟨v, h1, h2⟩ := hs.row
 exact ⟨⟨v, own_at (B := B) (by omega) h1 hg hr, row_stays h2 hg fun r e => (hr r e).2⟩, ownFrom_below (β := Unit) (Nat.le_refl _) (by omega) () V V' row hs.below hg hr⟩
theorem bd_uponIn_inRound {F : Fence} {n : Nat} {P : Program} {o : Oper} {a : Act} {K K' : Act → World → Prop} {Q : Exit → Act → World → Prop} (l : Nat) (hK : ∀ a w, K a w → K' a w) : ∀ r : Result Next, o.uponIn F n P a K Q r → o.uponIn (F.inRound l) n P a K' Q r
 | .ok (.value v) w', h => hK _ _ h
 | .ok .skip w', h => hK _ _ h
 | .ok (.defer d) w', h => hK _ _ h
 | .ok (.enter f args) w', h => ⟨h.1, CallsIn.inRound l (h.2.mono fun e w'' he => by cases e <;> first | exact hK _ _ he | exact he)⟩
 | .ok (.row row args) w', h => ⟨h.1, h.2.mono fun v w'' he => hK _ _ he⟩
 | .ok (.round l' f tmps assign body) w', h => ⟨h.1, h.2.mono fun e w'' he => by cases e <;> first | exact hK _ _ he | exact he⟩
 | .halt (.panic v) w', h => h
 | .halt (.fatal _) _, h => h.elim
theorem bd_wpIn_inRound {F : Fence} {n : Nat} {P : Program} {o : Oper} {a : Act} {K K' : Act → World → Prop} {Q : Exit → Act → World → Prop} {w : World} (l : Nat) (hro : F.round = none) (hd : ∀ c, o.op ≠ .defer c) (hK : ∀ a w, K a w → K' a w) (h : o.wpIn F n P a w K Q) : o.wpIn (F.inRound l) n P a w K' Q := by
 refine ⟨h.1, ?_⟩
 have h2 := h.2
 rw [hro] at h2
 rw [Fence.inRound_round, Oper.semAt_eq _ _ _ hd]
 exact bd_uponIn_inRound l hK _ h2
theorem bd_wpAnyIn_inRound {F : Fence} {n : Nat} {P : Program} {md : Region.Mode} {ops : Array Oper} {Q : Exit → Act → World → Prop} (l : Nat) (hro : F.round = none) (hd : ∀ (i : Nat) (o : Oper), ops[i]? = some o → ∀ c, o.op ≠ .defer c) : ∀ (fuel : Nat) (listed : Array Bool) (a : Act) (w : World), wpAnyIn F n P md ops Q fuel listed a w → wpAnyIn (F.inRound l) n P md ops Q fuel listed a w
 | 0, _, _, _, h => h
 | fuel + 1, listed, a, w, h => by
  refine ⟨h.1, fun i hi => ?_⟩
  have h2 := h.2 i hi
  unfold wpOpIn at h2 ⊢
  split
  ·next e =>
   rw [e] at h2
   exact bd_wpAnyIn_inRound l hro hd fuel _ _ _ h2
  next o e =>
  rw [e] at h2
  dsimp only at h2
  split
  ·next hw =>
   rw [if_pos hw] at h2
   exact bd_wpIn_inRound l hro (hd i o e) (fun a w h => bd_wpAnyIn_inRound l hro hd fuel _ a w h) h2
  next hw =>
  rw [if_neg hw] at h2
  exact ⟨h2.1, bd_wpAnyIn_inRound l hro hd fuel _ _ _ h2.2⟩
def noDefer (ops : List Oper) : Bool := ops.all fun o => match o.op with | .defer _ => false | _ => true
theorem noDefer_at {l : List Oper} (h : noDefer l = true) (i : Nat) (o : Oper) (ho : l.toArray[i]? = some o) (c : Call) : o.op ≠ .defer c := by
 intro e
 have hm : o ∈ l := by
  have := List.mem_of_getElem? (by simpa using ho)
  exact this
 have h2 := List.all_eq_true.1 h o hm
 rw [e] at h2
 cases h2
theorem wpIn_region_quiet_round {F : Fence} {n : Nat} {P : Program} {id : Nat} {Q : Exit → Act → World → Prop} {a : Act} {w : World} {ops : List Oper} (l : Nat) (hro : F.round = none) (hm : P.follows .mixedOrders = true) (hd : noDefer ops = true) (hB : Region.lexB .any ops.toArray = true)
  (h : wpQuietIn F n P ops.toArray (fun w' => ∃ n, w' = w.drewN n) (fun a' => ∀ w', (∃ n, w' = w.drewN n) → Q .normal a' w') ops a) : (Code.region id ops.toArray true).wpIn (F.inRound l) n P Q a w := by
 simp only [Region.lexB, Bool.and_eq_true] at hB
 refine wpIn_region_any hm (bd_wpAnyIn_inRound l hro (noDefer_at hd) _ _ _ _ (wpAnyIn_of_quiet (Q := fun a' => ∀ w', (∃ n, w' = w.drewN n) → Q .normal a' w') hro (fun _ w' hw' h => h w' hw') _ _ _ _ ⟨1, rfl⟩ ?_))
 have := wpAnyQIn_lex (F := F) (n := n) (C := fun w' => ∃ n, w' = w.drewN n) (md := .any) hB.1 ops 0 (Array.replicate ops.toArray.size false) a (by simp) (by simpa using hB.2) h
 exact this
def edgeTo (md : Region.Mode) (o : Oper) (i : Nat) : Bool := o.after.any fun e => Region.binds md e && e.on == i
def backOk (md : Region.Mode) (ops : Array Oper) (i : Nat) : Bool := match ops[i]? with | some o => o.guard.isNone && o.after.all fun e => !Region.binds md e || decide (e.on < i) | none => true
def waitOk (md : Region.Mode) (ops : Array Oper) (k : Nat) (o : Oper) (i : Nat) : Bool := edgeTo md o i || (List.range k).any fun j => edgeTo md o j && match ops[j]? with | some o' => edgeTo md o' i | none => false
def lastOk (md : Region.Mode) (ops : Array Oper) (k : Nat) (ok : Oper) : Bool := ops.size == k + 1 && (List.range ops.size).all (backOk md ops) && (List.range k).all (waitOk md ops k ok)
section
variable {F : Fence} {n : Nat} {P : Program} {md : Region.Mode} {ops : Array Oper} {C : World → Prop}
def closedL (md : Region.Mode) (ops : Array Oper) (listed : Array Bool) : Prop := ∀ (i : Nat) (o : Oper), ops[i]? = some o → listed.getD i true = true → ∀ e ∈ o.after, Region.binds md e = true → listed.getD e.on false = true
theorem edgeTo_spec {o : Oper} {i : Nat} (h : edgeTo md o i = true) : ∃ e ∈ o.after, Region.binds md e = true ∧ e.on = i := by
 unfold edgeTo at h
 rw [Array.any_eq_true'] at h
 obtain ⟨e, he, h2⟩ := h
 simp only [Bool.and_eq_true, beq_iff_eq] at h2
 exact ⟨e, he, h2.1, h2.2⟩
theorem backOk_spec {k : Nat} {ok : Oper} (h : lastOk md ops k ok = true) (i : Nat) (o : Oper) (ho : ops[i]? = some o) : o.guard = none ∧ ∀ e ∈ o.after, Region.binds md e = true → e.on < i := by
 unfold lastOk at h
 simp only [Bool.and_eq_true] at h
 have hi : i < ops.size := (Array.getElem?_eq_some_iff.1 ho).1
 have h2 := List.all_eq_true.1 h.1.2 i (List.mem_range.2 hi)
 unfold backOk at h2
 rw [ho] at h2
 simp only [Bool.and_eq_true, Option.isNone_iff_eq_none, Array.all_eq_true', Bool.or_eq_true, Bool.not_eq_true', decide_eq_true_eq] at h2
 refine ⟨h2.1, fun e he hb => ?_⟩
 rcases h2.2 e he with h3 | h3
 ·rw [hb] at h3
  cases h3
 exact h3
theorem getD_listed {listed : Array Bool} {i : Nat} (hi : i < listed.size) (b c : Bool) : listed.getD i b = listed.getD i c := by
 simp [Array.getD, hi]
theorem ready_some {k : Nat} {ok : Oper} (h : lastOk md ops k ok = true) {listed : Array Bool} (hs : listed.size = ops.size) : ∀ (i : Nat), i < ops.size → listed.getD i true = false → Region.ready md ops listed ≠ [] := by
 intro i
 induction i using Nat.strongRecOn with
 | ind i ih =>
  intro hi hf
  by_cases hall : ∀ e ∈ (ops[i]'hi).after, Region.binds md e = true → listed.getD e.on false = true
  ·intro e
   have hm : i ∈ Region.ready md ops listed := mem_ready.2 ⟨hf, _, Array.getElem?_eq_getElem hi, hall⟩
   rw [e] at hm
   cases hm
  simp only [Classical.not_forall] at hall
  obtain ⟨e, he, hb, hn⟩ := hall
  have hlt := (backOk_spec h i _ (Array.getElem?_eq_getElem hi)).2 e he hb
  refine ih e.on hlt (by omega) ?_
  rw [getD_listed (by omega) true false]
  simpa using hn
theorem all_listed {k : Nat} {ok : Oper} (hk : ops[k]? = some ok) (h : lastOk md ops k ok = true) {listed : Array Bool} (hs : listed.size = ops.size) (hc : closedL md ops listed) (hr : k ∈ Region.ready md ops listed) (i : Nat) (hi : i < k) : listed.getD i true = true := by
 obtain ⟨_, o, ho, hall⟩ := mem_ready.1 hr
 rw [hk] at ho
 cases ho
 have hsz : k < ops.size := (Array.getElem?_eq_some_iff.1 hk).1
 have h2 := h
 unfold lastOk at h2
 simp only [Bool.and_eq_true] at h2
 have h3 := List.all_eq_true.1 h2.2 i (List.mem_range.2 hi)
 unfold waitOk at h3
 rw [getD_listed (by omega) true false]
 simp only [Bool.or_eq_true, List.any_eq_true, List.mem_range, Bool.and_eq_true] at h3
 rcases h3 with h3 | ⟨j, hj, hj1, hj2⟩
 ·obtain ⟨e, he, hb, rfl⟩ := edgeTo_spec h3
  exact hall e he hb
 obtain ⟨e, he, hb, rfl⟩ := edgeTo_spec hj1
 have hl := hall e he hb
 cases ho : ops[e.on]? with
 | none => rw [ho] at hj2; cases hj2
 | some o' =>
  rw [ho] at hj2
  obtain ⟨e', he', hb', rfl⟩ := edgeTo_spec hj2
  exact hc e.on o' ho (by rw [getD_listed (by omega) true false]; exact hl) e' he' hb'
theorem closed_set {listed : Array Bool} (hs : listed.size = ops.size) (hc : closedL md ops listed) {i : Nat} (hr : i ∈ Region.ready md ops listed) : closedL md ops (listed.setIfInBounds i true) := by
 intro j o ho hj e he hb
 have keep : ∀ m, listed.getD m false = true → (listed.setIfInBounds i true).getD m false = true := fun m hm => by
  by_cases q : i = m
  ·subst q
   by_cases q2 : i < listed.size
   ·simp [Array.getD, q2]
   simp [Array.getD, q2] at hm
  rw [getD_set_ne false q]
  exact hm
 by_cases q : i = j
 ·subst q
  obtain ⟨_, o', ho', hall⟩ := mem_ready.1 hr
  rw [ho] at ho'
  cases ho'
  exact keep _ (hall e he hb)
 rw [getD_set_ne true q] at hj
 exact keep _ (hc j o ho hj e he hb)
def hushed (ok : Oper) : Oper := { ok with dst := none, op := .assign (.const undef) }
theorem wpAnyIn_of_quiet_last {k : Nat} {ok : Oper} (hk : ops[k]? = some ok) (h : lastOk md ops k ok = true) (hro : F.round = none) {Q : Exit → Act → World → Prop} :
  ∀ (fuel : Nat) (listed : Array Bool) (a : Act) (w : World), C w → listed.size = ops.size → listed.getD k true = false → closedL md ops listed →
   wpAnyQIn F n P md (ops.setIfInBounds k (hushed ok)) C (fun a' => ∀ w', C w' → ∀ K : Act → World → Prop, (∀ a w, Q .normal a w → K a w) → ok.wpIn F n P a' w' K Q) fuel listed a → wpAnyIn F n P md ops Q fuel listed a w := by
 have hsz : k < ops.size := (Array.getElem?_eq_some_iff.1 hk).1
 have hsz1 : ops.size = k + 1 := by
  have h2 := h
  unfold lastOk at h2
  simp only [Bool.and_eq_true, beq_iff_eq] at h2
  exact h2.1.1
 have hop : ∀ i, i ≠ k → (ops.setIfInBounds k (hushed ok))[i]? = ops[i]? := fun i hi => by rw [Array.getElem?_setIfInBounds_ne (Ne.symm hi)]
 have hopk : (ops.setIfInBounds k (hushed ok))[k]? = some (hushed ok) := by rw [Array.getElem?_setIfInBounds_self]; simp [hsz]
 have hready : ∀ listed, Region.ready md (ops.setIfInBounds k (hushed ok)) listed = Region.ready md ops listed := fun listed => by
  unfold Region.ready
  rw [Array.size_setIfInBounds]
  refine List.filter_congr fun i hi => ?_
  by_cases q : i = k
  ·subst q
   rw [hopk, hk]
   rfl
  rw [hop i q]
 intro fuel
 induction fuel with
 | zero =>
  intro listed a w hw hs hf hc hq
  exact absurd (by rw [← hready]; exact hq.1) (ready_some h hs k hsz hf)
 | succ fuel ih =>
  intro listed a w hw hs hf hc hq
  refine ⟨fun e => absurd e (ready_some h hs k hsz hf), fun i hi => ?_⟩
  have h2 := hq.2 i (by rw [hready]; exact hi)
  by_cases q : i = k
  ·subst q
   unfold qOpIn at h2
   rw [hopk] at h2
   have hg : Region.wanted ok (yielded ops a.tmps) = true := by
    unfold Region.wanted
    rw [(backOk_spec h i ok hk).1]
   have hg2 : Region.wanted (hushed ok) (yielded (ops.setIfInBounds i (hushed ok)) a.tmps) = true := by
    unfold Region.wanted hushed
    dsimp only
    rw [(backOk_spec h i ok hk).1]
   dsimp only at h2
   rw [if_pos hg2] at h2
   obtain ⟨_, v, _, h3⟩ := h2
   have h4 : wpAnyQIn F n P md (ops.setIfInBounds i (hushed ok)) C (fun a' => ∀ w', C w' → ∀ K : Act → World → Prop, (∀ a w, Q .normal a w → K a w) → ok.wpIn F n P a' w' K Q) fuel (listed.setIfInBounds i true) a := h3
   have hnil : Region.ready md ops (listed.setIfInBounds i true) = [] := by
    refine List.eq_nil_iff_forall_not_mem.2 fun j hj => ?_
    obtain ⟨hj1, o, ho, _⟩ := mem_ready.1 hj
    have hjs : j < ops.size := (Array.getElem?_eq_some_iff.1 ho).1
    by_cases q2 : i = j
    ·subst q2
     rw [getD_listed (by rw [Array.size_setIfInBounds]; omega) true false] at hj1
     simp [Array.getD, hs, hsz] at hj1
    rw [getD_set_ne true q2] at hj1
    have := all_listed hk h hs hc hi j (by omega)
    rw [hj1] at this
    cases this
   have hQ : ∀ K : Act → World → Prop, (∀ a w, Q .normal a w → K a w) → ok.wpIn F n P a w K Q := by
    cases fuel with
    | zero => exact h4.2 w hw
    | succ f => exact h4.1 (by rw [hready]; exact hnil) w hw
   unfold wpOpIn
   rw [hk]
   dsimp only
   rw [if_pos hg]
   refine hQ _ fun a' w' hq' => ?_
   cases fuel with
   | zero => exact ⟨hnil, hq'⟩
   | succ f => exact ⟨fun _ => hq', fun j hj => by rw [hnil] at hj; cases hj⟩
  obtain ⟨hi1, o, ho, _⟩ := mem_ready.1 hi
  have hg : ∀ ops' : Array Oper, Region.wanted o (yielded ops' a.tmps) = true := fun ops' => by
   unfold Region.wanted
   rw [(backOk_spec h i o ho).1]
  unfold qOpIn at h2
  rw [hop i q, ho] at h2
  dsimp only at h2
  rw [if_pos (hg _)] at h2
  unfold wpOpIn
  rw [ho]
  dsimp only
  rw [if_pos (hg _)]
  refine Oper.wpIn_of_quiet hro hw (fun a' w' hw' hK => ih _ a' w' hw' (by rw [Array.size_setIfInBounds]; exact hs) ?_ (closed_set hs hc hi) hK) h2.1 h2.2
  rw [getD_set_ne true q]
  exact hf
end
theorem wpIn_region_last_round {F : Fence} {n : Nat} {P : Program} {id : Nat} {Q : Exit → Act → World → Prop} {a : Act} {w : World} {ops qs : List Oper} {ok : Oper} (l k : Nat) (hro : F.round = none) (hm : P.follows .mixedOrders = true) (hk : ops[k]? = some ok) (hq : ops.set k (hushed ok) = qs) (hd : noDefer ops = true) (hL : lastOk .any ops.toArray k ok = true) (hB : Region.lexB .any qs.toArray = true)
  (h : wpQuietIn F n P qs.toArray (fun w' => ∃ n, w' = w.drewN n) (fun a' => ∀ w', (∃ n, w' = w.drewN n) → ∀ K : Act → World → Prop, (∀ a w, Q .normal a w → K a w) → ok.wpIn F n P a' w' K Q) qs a) : (Code.region id ops.toArray true).wpIn (F.inRound l) n P Q a w := by
 subst hq
 simp only [Region.lexB, Bool.and_eq_true] at hB
 have hsz : k < ops.length := (List.getElem?_eq_some_iff.1 hk).1
 refine wpIn_region_any hm (bd_wpAnyIn_inRound l hro (noDefer_at hd) _ _ _ _ (wpAnyIn_of_quiet_last (C := fun w' => ∃ n, w' = w.drewN n) (k := k) (by simpa using hk) hL hro _ _ _ _ ⟨1, rfl⟩ (by simp) ?_ ?_ ?_))
 ·simp [Array.getD, hsz]
 ·intro i o ho hi
  have : i < ops.length := by simpa using (Array.getElem?_eq_some_iff.1 ho).1
  simp [Array.getD, this] at hi
 have := wpAnyQIn_lex (F := F) (n := n) (C := fun w' => ∃ n, w' = w.drewN n) (md := .any) hB.1 (ops.set k (hushed ok)) 0 (Array.replicate ops.toArray.size false) a (by simp) (by simpa using hB.2) h
 rw [show ops.toArray.setIfInBounds k (hushed ok) = (ops.set k (hushed ok)).toArray by simp]
 rw [List.length_set] at this
 exact this
theorem bd_cells_new (W : World) (a b : Value) (t : TypeId) (j : Nat) (u : Value) (h : [a, b][j]? = some u) : (W.alloc (.cells #[a, b] t)).cell? (Addr.add ⟨W.heap.size, 0, none⟩ j) = some u := by
 match j, h with
 | 0, h => exact (zkc (blk_new W (.cells #[a, b] t)) 0).trans h
 | 1, h => exact (zkc (blk_new W (.cells #[a, b] t)) 1).trans h
theorem bd_info_span : (Try.prog.info? 32).map (fun i => (i.zero, i.size, i.bytes)) = some (some (.agg #[.int .i64 0, .int .i64 0]), 2, 16) := by kernel_rfl
theorem join_box {w W V' : World} {v : Value} {n nq : Nat} {cs : List Value} {o : Obj} (hbox : W.heap[w.heap.size]? = some (.cells #[v] 44 (0, 0))) (hrow : W.ownsRow (w.heap.size + 1) 32 2 v n cs) (hg : ((W.drewN nq).alloc o).grownBy V' v.ownBlock) : V'.heap[w.heap.size]? = some (.cells #[v] 44 (0, 0)) := by
 have h1 : ((W.drewN nq).alloc o).heap[w.heap.size]? = some (.cells #[v] 44 (0, 0)) := zka (w := W.drewN nq) hbox o
 refine (hg.block _ (blk_lt h1) fun e => ?_).trans h1
 have := own_base hrow _ e.symm
 omega
theorem join_append {w W V' : World} {B : Nat} {v v' : Value} {nq : Nat} {out : List S32} {x : S32} {o : Obj} (hB : Below w.heap.size w W) (hbox : W.heap[w.heap.size]? = some (.cells #[v] 44 (0, 0))) (hrow : W.ownsRow (w.heap.size + 1) 32 2 v out.length (Bd.flat out))
  (hown : V'.ownsRow (w.heap.size + 1) 32 2 v' (out.length + 1) (Bd.flat out ++ [.int .i64 x.f0, .int .i64 x.f1])) (hg : ((W.drewN nq).alloc o).grownBy V' v.ownBlock) :
  KeepsFrom B W (V'.setCell ⟨w.heap.size, 0, none⟩ v') ∧ (∀ k, k < w.heap.size → (V'.setCell ⟨w.heap.size, 0, none⟩ v').heap[k]? = W.heap[k]?) ∧ JoinIn w (out ++ [x]) (V'.setCell ⟨w.heap.size, 0, none⟩ v') := by
 have hb1 := join_box (o := o) hbox hrow hg
 have hwW : w.heap.size < W.heap.size := blk_lt hbox
 have hrow1 : ((W.drewN nq).alloc o).ownsRow (w.heap.size + 1) 32 2 v out.length (Bd.flat out) := World.ownsRow.alloc (w := W.drewN nq) hrow o
 refine ⟨?_, fun k hk => ?_, ⟨⟨v', blk_put hb1 0 v' rfl, ?_⟩, ?_⟩⟩
 ·refine KeepsOthers.from (KeepsOthers.trans (A := W) (B := W.drewN nq) ⟨Nat.le_refl _, fun _ _ h _ => h⟩ ((KeepsOthers.alloc _ o).trans ((KeepsOthers.of_grownBy hg fun j o hj ho => row_cells hrow1 j o hj ho).trans (KeepsOthers.setCell _ _ _)))) _
 ·rw [Below.heap_setCell _ _ _ k (by show k ≠ w.heap.size; omega)]
  refine (hg.block k (by rw [World.size_alloc]; show k < W.heap.size + 1; omega) fun e => ?_).trans (Below.heap_alloc (W.drewN nq) o k (by show k < W.heap.size; omega))
  have := own_base hrow k e.symm
  omega
 ·refine own_move (w := V') ?_ fun k hk => Below.heap_setCell _ _ _ k ?_
  ·rw [List.length_append, List.length_cons, List.length_nil, Bd.flat_append]
   exact hown
  show k ≠ w.heap.size
  have := own_base hown k hk
  omega
 exact zbs (Below.grown (zba (W := W.drewN nq) ⟨hB.os, hB.tape, hB.output, hB.size, hB.block⟩ o) hg (by rw [World.size_alloc]; show w.heap.size ≤ W.heap.size + 1; omega) fun k e => by have := own_base hrow k e; omega) (Nat.le_refl _)
theorem bd_last {W : World} {base n c : Nat} {A : Option Addr} {ys : List S32} {b : S32} (h : W.ownsRow base 32 2 (.slice A n c) n (Bd.flat (ys ++ [b]))) : ∃ (gr : Nat) (cur : Array Value), A = some ⟨gr, 0, none⟩ ∧ base ≤ gr ∧ W.heap[gr]? = some (.cells cur 32 (0, 0)) ∧ cur.toList.take (n * 2) = Bd.flat (ys ++ [b]) ∧ n ≤ c ∧ c ≤ maxLen ∧ cur.size = c * 2 ∧
  W.cell? ⟨gr, ys.length * 2, none⟩ = some (.int .i64 b.f0) ∧ W.cell? ⟨gr, ys.length * 2 + 1, none⟩ = some (.int .i64 b.f1) := by
 have hl := Bd.flat_length ys
 have hn : n = ys.length + 1 := by
  have := h.1
  rw [Bd.flat_length, List.length_append, List.length_cons, List.length_nil] at this
  omega
 rcases h.2 with ⟨_, e⟩ | ⟨gr, cap, cur, e, hb, hcur, h1, h2, h3, h4⟩
 ·omega
 cases e
 have hg : ∀ j, j < n * 2 → cur[j]? = (Bd.flat (ys ++ [b]))[j]? := fun j hj => by
  rw [← h4, List.getElem?_take, if_pos hj, Array.getElem?_toList]
 refine ⟨gr, cur, rfl, hb, hcur, h4, h1, h2, h3, (zkc hcur _).trans ?_, (zkc hcur _).trans ?_⟩
 ·rw [hg _ (by omega), Bd.flat_append, List.getElem?_append_right (by omega), hl, Nat.sub_self]
  rfl
 rw [hg _ (by omega), Bd.flat_append, List.getElem?_append_right (by omega), hl, show ys.length * 2 + 1 - ys.length * 2 = 1 by omega]
 rfl
theorem join_merge {w W : World} {B n c gr nq : Nat} {cur : Array Value} {ys : List S32} {b : S32} {m : Int} (hn : n = ys.length + 1) (hB : Below w.heap.size w W) (hbox : W.heap[w.heap.size]? = some (.cells #[.slice (some ⟨gr, 0, none⟩) n c] 44 (0, 0))) (hgr : w.heap.size + 1 ≤ gr) (hcur : W.heap[gr]? = some (.cells cur 32 (0, 0))) (htake : cur.toList.take (n * 2) = Bd.flat (ys ++ [b])) (hnc : n ≤ c) (hcm : c ≤ maxLen) (hcs : cur.size = c * 2) :
  KeepsFrom B W ((W.drewN nq).setCell ⟨gr, ys.length * 2 + 1, none⟩ (.int .i64 m)) ∧ (∀ k, k < w.heap.size → ((W.drewN nq).setCell ⟨gr, ys.length * 2 + 1, none⟩ (.int .i64 m)).heap[k]? = W.heap[k]?) ∧ JoinIn w (ys ++ [⟨b.f0, m⟩]) ((W.drewN nq).setCell ⟨gr, ys.length * 2 + 1, none⟩ (.int .i64 m)) := by
 have hl := Bd.flat_length ys
 refine ⟨?_, fun k hk => ?_, ⟨⟨.slice (some ⟨gr, 0, none⟩) n c, ?_, ?_, .inr ⟨gr, c, cur.setIfInBounds (ys.length * 2 + 1) (.int .i64 m), ?_, hgr, ?_, ?_, hcm, ?_, ?_⟩⟩, ?_⟩⟩
 ·exact KeepsOthers.from (KeepsOthers.trans (A := W) (B := W.drewN nq) ⟨Nat.le_refl _, fun _ _ h _ => h⟩ (KeepsOthers.setCell _ _ _)) _
 ·exact Below.heap_setCell (W.drewN nq) _ _ k (by show k ≠ gr; omega)
 ·exact (Below.heap_setCell (W.drewN nq) _ _ _ (by show w.heap.size ≠ gr; omega)).trans hbox
 ·rw [Bd.flat_length]
 ·rw [List.length_append, List.length_cons, List.length_nil, hn]
 ·exact blk_put (w := W.drewN nq) hcur _ _ rfl
 ·rw [List.length_append, List.length_cons, List.length_nil]
  omega
 ·rw [Array.size_setIfInBounds]
  exact hcs
 ·rw [List.length_append, List.length_cons, List.length_nil, ← hn, Array.toList_setIfInBounds, List.take_set, htake, Bd.flat_append, Bd.flat_append, List.set_append_right _ _ (by omega), hl, show ys.length * 2 + 1 - ys.length * 2 = 1 by omega]
  rfl
 exact zbs (W := W.drewN nq) ⟨hB.os, hB.tape, hB.output, hB.size, hB.block⟩ (by show w.heap.size ≤ gr; omega)
def joinAct (f : Value) (B g : Nat) (x : S32) : Act := { tmps := #[f, undef, .pointer (some ⟨B, 0, none⟩), .pointer (some ⟨g, 0, none⟩), undef, f, .agg #[.int .i64 x.f0, .int .i64 x.f1], undef, undef, undef, undef, undef, undef, undef, undef, undef, undef, undef, undef, undef, undef, undef, undef, undef, undef, undef, undef, undef, undef, undef, undef, undef, undef, undef, undef, undef, undef, undef, undef, undef], defers := [] }
set_option maxRecDepth 100000 in
set_option maxHeartbeats 4000000 in
theorem bound_join_in (fn0 : FuncId → Prop) (dep : Option Nat) (al : Bool) (n : Nat) (h90 : fn0 90) (hn : 2 ≤ n) (gf : Nat) (hgf : fn0 gf) (eg : ∀ args w, (callFunc gf args).run Try.prog w = .ok (.enter gf args) w) (lb : Array Value) (Kp : World → World → Prop) (S Sp : List S32 → Prop) (N : Nat) (hN : N ≤ 1000000) (w : World)
  (hseq : SeqStopsK (Fence.mk fn0 dep al none) (n - 1) Try.prog gf lb (fun x : S32 => #[Value.agg #[.int .i64 x.f0, .int .i64 x.f1]]) Kp S Sp N w)
  (hKt : ∀ {A B C : World}, Kp A B → Kp B C → Kp A C) (hK : ∀ W W' : World, (∀ k, k < w.heap.size → W'.heap[k]? = W.heap[k]?) → Kp W W') :
  CallsIn (Fence.mk fn0 dep al none) n Try.prog 90 #[.func (.func gf) #[] lb] w fun e w' =>
   ∃ (v : Value) (xs : List S32), e = .returned v ∧ S xs ∧ w'.ownsRow (w.heap.size + 1) 32 2 v (Bd.join xs).length (Bd.flat (Bd.join xs)) ∧ Below w.heap.size w w' := by
 refine callsIn_of_wp_marks Try.func90 rfl h90 ?_ rfl
 simp only [Try.ntmps90, List.size_toArray, List.length_cons, List.length_nil, Nat.reduceAdd, Nat.reduceSub, Array.replicate_succ, Array.replicate_zero, List.push_toArray, List.append_toArray, List.nil_append, List.cons_append]
 have hn1 : 1 ≤ n := by omega
 gi_wp2
 refine wpIn_rangeFunc_ownH rfl hn1 (gf := gf) (lb := lb) rfl hgf eg hseq hKt (fun V l o o' hl _ _ _ => hK _ _ fun k hk => by have : l ≠ k := (by have := hl; simp at this; omega); simp [World.putObj, this]) (zba (Below.refl _ _) _) (fun _ => rfl)
  (fun pre V => JoinIn w (Bd.join pre) V) (fun _ _ _ => False) (joinIn_own w (by simp)) (fun _ _ _ _ _ hs _ _ => hs) ?h0
  (fun x a' V => ∃ g, a' = joinAct (.func (.func gf) #[] lb) w.heap.size g x ∧ w.heap.size < g ∧ V.heap[g]? = some (.cells #[.int .i64 x.f0, .int .i64 x.f1] 32 (0, 0))) ?hAx ?assign ?body ?done ?stop
 case h0 =>
  exact ⟨⟨_, blk_new w _, World.ownsRow_nil _ _ _ _⟩, zba (Below.refl _ _) _⟩
 case hAx =>
  rintro x a' u V V' row ⟨g, e, hg, hc⟩ hgr hr
  refine ⟨g, e, hg, (hgr.block g (blk_lt hc) fun er => ?_).trans hc⟩
  obtain ⟨_, o, ho, hcs⟩ := hr g er.symm
  rw [hc] at ho
  cases ho
  cases hcs
 case assign =>
  intro l pre x W K hI hK'
  gi_wp2
  have hsz : w.heap.size < W.heap.size := by obtain ⟨v, h1, _⟩ := hI.row; exact blk_lt h1
  refine hK' _ _ ((KeepsOthers.alloc W _).from _) (hK _ _ fun k hk => Below.heap_alloc W _ k (by omega)) ?_ ⟨_, rfl, hsz, blk_new W _⟩
  obtain ⟨v, h1, h2⟩ := hI.row
  exact ⟨⟨v, zka h1 _, h2.alloc _⟩, zba hI.below _⟩
 case body =>
  rintro l pre x a' W hl ⟨r, hlr⟩ hI ⟨g, rfl, hg, hc⟩ hlen
  unfold joinAct
  obtain ⟨v, hbox, hrow⟩ := hI.row
  have hx0 : W.cell? ⟨g, 0, none⟩ = some (.int .i64 x.f0) := (zkc hc 0).trans rfl
  have hx1 : W.cell? ⟨g, 1, none⟩ = some (.int .i64 x.f1) := (zkc hc 1).trans rfl
  obtain ⟨A, c, rfl⟩ := own_slice hrow
  have JA := fun (V' : World) (v' : Value) (nq : Nat) => join_append (w := w) (W := W) (V' := V') (B := (w.alloc (Obj.cells #[Value.slice none 0 0] 44)).heap.size) (v' := v') (nq := nq) (out := Bd.join pre) (x := x) (o := .cells #[.int .i64 x.f0, .int .i64 x.f1] 32) hI.below hbox hrow
  have JA := zam JA
  obtain ⟨i0, hi, hzz0, hzz1, hzz2⟩ := info_parts bd_info_span
  have hmax : 1000000 ≤ maxLen := by decide
  have hsz := blk_lt hc
  have hz : W.cell? ⟨w.heap.size, 0, none⟩ = some (.slice A (Bd.join pre).length c) := (zkc hbox 0).trans rfl
  have hfz := zkz hbox 0
  have hln := Bd.join_le pre
  obtain ⟨out, hout⟩ : ∃ out, Bd.join pre = out := ⟨_, rfl⟩
  rw [hout] at hrow hz hbox hln
  rcases List.eq_nil_or_concat out with rfl | ⟨ys, b, eo⟩
  ·have w1 : IntKind.i64.wrap (((0 : Nat) : Int) - 1) = -1 := by decide
   gi_wp2
   refine wpIn_region_quiet_round l rfl (by kernel_rfl) (by kernel_rfl) (by kernel_rfl) ?_
   repeat (gi_big_quiet_step (fail))
   refine wpQuietIn_nil ?_
   intro _ hw'
   obtain ⟨nq, hw''⟩ := hw'
   subst hw''
   gi_wp2_with (gi_at_builtin; refine wpListIn_append_own _ rfl _ _ 44 rfl (w.heap.size + 1) 32 i0 (.agg #[.int .i64 0, .int .i64 0]) 2 16 Try.underlying44 hi hzz0 hzz1 hzz2 rfl (by decide) _ _ _ rfl (hrow.alloc _) ⟨W.heap.size, 0, none⟩ 1 1 [.int .i64 x.f0, .int .i64 x.f1] rfl rfl (bd_cells_new _ _ _ _) (by simp [Value.oneCell']) (by omega) (by omega) (by simp; omega) ?_; intro v' W1 hown' hgrow _; obtain ⟨A', c', rfl⟩ := own_slice hown'; have hb1 := join_box hbox hrow hgrow; have hfz1 := zkz hb1 0; have hz1 : W1.cell? ⟨w.heap.size, 0, none⟩ = some (.slice A 0 c) := (zkc hb1 0).trans rfl)
   rw [hout] at JA
   obtain ⟨g1, g2, g3⟩ := JA.out W1 _ nq hown' hgrow
   refine ⟨g1, hK _ _ g2, ?_⟩
   show JoinIn w (Bd.join (pre ++ [x])) _
   rw [Bd.join_snoc, hout]
   exact g3
  rw [List.concat_eq_append] at eo
  subst eo
  have hlen2 : (ys ++ [b]).length = ys.length + 1 := by simp
  have w1 : IntKind.i64.wrap (((ys ++ [b]).length : Int) - 1) = (ys.length : Int) := by
   rw [hlen2, i64_w, wrap_id (by omega) (by omega)]
   omega
  have p0 : (0 ≤ (ys.length : Int)) = True := eq_true (by omega)
  have p1 : decide (0 ≤ (ys.length : Int)) = true := zdt (by omega)
  have p2 : ((ys.length : Int) < ((ys ++ [b]).length : Int)) = True := eq_true (by rw [hlen2]; omega)
  obtain ⟨gr, cur, rfl, hgr, hcur, htake, hnc, hcm, hcs, hy0, hy1⟩ := bd_last hrow
  by_cases q : x.f0 ≤ wrap64 (b.f1 + 1)
  ·have q1 : decide (x.f0 ≤ wrap64 (b.f1 + 1)) = true := zdt q
   gi_wp2
   refine wpIn_region_quiet_round l rfl (by kernel_rfl) (by kernel_rfl) (by kernel_rfl) ?_
   repeat (gi_big_quiet_step (fail))
   refine wpQuietIn_nil ?_
   intro _ hw'
   obtain ⟨nq, hw''⟩ := hw'
   subst hw''
   have hfr := zkz hcur (ys.length * 2 + 1)
   gi_wp2
   refine wpIn_region_last_round (qs := ?qs) l 12 rfl (by kernel_rfl) rfl ?hq (by kernel_rfl) (by kernel_rfl) ?hB ?h
   case hq =>
    simp only [zss, zsz, hushed]
    rfl
   case hB => kernel_rfl
   repeat (gi_big_quiet_step (fail))
   refine wpQuietIn_nil ?_
   rintro _ ⟨nq2, rfl⟩ K hKK
   go_simp
   refine hKK _ _ ?_
   obtain ⟨m, hm⟩ : ∃ m, (if b.f1 < x.f1 then x.f1 else b.f1) = m := ⟨_, rfl⟩
   rw [hm]
   gi_wp2
   obtain ⟨g1, g2, g3⟩ := join_merge (B := (w.alloc (Obj.cells #[Value.slice none 0 0] 44)).heap.size) (nq := nq + nq2) (m := m) hlen2 hI.below hbox hgr hcur htake hnc hcm hcs
   refine ⟨g1, hK _ _ g2, ?_⟩
   show JoinIn w (Bd.join (pre ++ [x])) _
   rw [Bd.join_snoc, hout, Bd.join1_merge q, hm]
   exact g3
  have q1 : decide (x.f0 ≤ wrap64 (b.f1 + 1)) = false := zdf q
  rw [hlen2] at hrow hbox
  gi_wp2
  refine wpIn_region_quiet_round l rfl (by kernel_rfl) (by kernel_rfl) (by kernel_rfl) ?_
  repeat (gi_big_quiet_step (fail))
  refine wpQuietIn_nil ?_
  intro _ hw'
  obtain ⟨nq, hw''⟩ := hw'
  subst hw''
  gi_wp2_with (gi_at_builtin; refine wpListIn_append_own _ rfl _ _ 44 rfl (w.heap.size + 1) 32 i0 (.agg #[.int .i64 0, .int .i64 0]) 2 16 Try.underlying44 hi hzz0 hzz1 hzz2 rfl (by decide) _ _ _ rfl (hrow.alloc _) ⟨W.heap.size, 0, none⟩ 1 1 [.int .i64 x.f0, .int .i64 x.f1] rfl rfl (bd_cells_new _ _ _ _) (by simp [Value.oneCell']) (by omega) (by omega) (by simp; omega) ?_; intro v' W1 hown' hgrow _; obtain ⟨A', c', rfl⟩ := own_slice hown'; have hb1 := join_box hbox hrow hgrow; have hfz1 := zkz hb1 0; have hz1 : W1.cell? ⟨w.heap.size, 0, none⟩ = some (.slice (some ⟨gr, 0, none⟩) (ys.length + 1) c) := (zkc hb1 0).trans rfl)
  rw [hout, hlen2] at JA
  obtain ⟨g1, g2, g3⟩ := JA.out W1 _ nq hown' hgrow
  refine ⟨g1, hK _ _ g2, ?_⟩
  show JoinIn w (Bd.join (pre ++ [x])) _
  rw [Bd.join_snoc, hout, Bd.join1_more (by omega)]
  exact g3
 case done =>
  rintro D xs V hD hS hI hDV
  obtain ⟨v, hbox, hrow⟩ := hI.row
  obtain ⟨A, c, rfl⟩ := own_slice hrow
  have hz := (zkc hbox 0).trans rfl
  have hfz := zkz hbox 0
  gi_wp2
  have hne : D ≠ w.heap.size := by
   intro e
   rw [e] at hDV
   rw [hDV] at hbox
   cases hbox
  have hDB : w.heap.size ≤ D := by
   have := hD
   simp at this
   omega
  obtain ⟨V2, hV2⟩ : ∃ V2, V.setCell ⟨w.heap.size, 0, none⟩ (.slice A (Bd.join xs).length c) = V2 := ⟨_, rfl⟩
  rw [hV2]
  have k1 : V2.heap[w.heap.size]? = some (.cells #[.slice A (Bd.join xs).length c] 44 (0, 0)) := by rw [← hV2]; exact blk_put hbox 0 _ rfl
  have k2 : V2.heap[D]? = some (.deferred (some [])) := by rw [← hV2, Below.heap_setCell _ _ _ D (by show D ≠ w.heap.size; omega)]; exact hDV
  have k3 : V2.ownsRow (w.heap.size + 1) 32 2 (.slice A (Bd.join xs).length c) (Bd.join xs).length (Bd.flat (Bd.join xs)) := by
   rw [← hV2]
   refine own_move hrow fun k hk => Below.heap_setCell _ _ _ k ?_
   show k ≠ w.heap.size
   have := own_base hrow k hk
   omega
  have k4 : Below w.heap.size w V2 := by rw [← hV2]; exact zbs hI.below (Nat.le_refl _)
  refine ⟨by simp, .inl ⟨D, V2.putObj D (.deferred none), rfl, run_takeDeferred k2, ⟨_, bd_results_cell rfl _ _ w.heap.size 44 _ rfl (by simpa [World.putObj, hne] using k1) Try.underlying44, _, xs, rfl, hS, ownsRow_putObj k3 _ k2 rfl, ?_⟩⟩⟩
  refine k4.trans ⟨rfl, rfl, rfl, by simp [World.putObj], fun k hk => ?_⟩
  have h1 : D ≠ k := by omega
  simp [World.putObj, h1]
 case stop =>
  rintro D c pre V _ _ h _
  exact h.elim
end Go.Proofs.Ytlkafgibgipodaa.P
namespace Go.Proofs.Ytlkafgibgipodaa.P
open Go.RowKit Go.Proofs.YtlkafgibgipodaaW.PrintWords Go.Proofs.YtlkafgibgipodaaW.PrintLast Go.Proofs.YtlkafgibgipodaaW.PrintMore
attribute [local go_sem] max2_int min2_int max_two min_two max_three min_three max_four min_four   -- for this text's walks alone
set_option linter.unusedVariables false
set_option linter.unusedSimpArgs false
open Go.Shelf Go.Lib Go.Sort
theorem lower_grow (a0 a1 b0 b1 : Int) (W : World) : Calls Try.prog 92 #[.agg #[.int .i64 a0, .int .i64 a1], .agg #[.int .i64 b0, .int .i64 b1]] W fun e w' => e = .returned (.bool (decide (a0 < b0))) ∧ ∃ os', w' = grow (W.drewN 0) os' := by
 have hu32 := Try.underlying32
 go_enter Try.func92, Try.ntmps92
 go_wp2
 go_ret
 exact ⟨rfl, _, by rw [alloc_eq_grow, alloc_eq_grow, grow_grow]; rfl⟩
def spanCmp (x y : S32) : Int := if x.f0 < y.f0 then -1 else if y.f0 < x.f0 then 1 else 0
theorem two_boxes (W : World) (a b : Array Value) (ta tb : TypeId) :
  ((W.alloc (.cells a ta)).alloc (.cells b tb)).heap[W.heap.size]? = some (.cells a ta (0, 0)) ∧ ((W.alloc (.cells a ta)).alloc (.cells b tb)).heap[W.heap.size + 1]? = some (.cells b tb (0, 0)) := by
 have h2 := blk_new (W.alloc (.cells a ta)) (.cells b tb)
 rw [World.size_alloc] at h2
 exact ⟨zka (blk_new W _) _, h2⟩
theorem blk_grown0 {W : World} {g : Nat} {o : Obj} (h : W.heap[g]? = some o) (n : Nat) (os : Array Obj) : (grow (W.drewN n) os).heap[g]? = some o := by
 show (W.heap ++ os)[g]? = some o
 rw [Array.getElem?_append_left (blk_lt h)]
 exact h
set_option maxRecDepth 100000 in
set_option maxHeartbeats 4000000 in
theorem cmp_grow (x y : S32) (W : World) : Calls Try.prog 97 #[.agg #[.int .i64 x.f0, .int .i64 x.f1], .agg #[.int .i64 y.f0, .int .i64 y.f1]] W fun e w' => e = .returned (.int .i64 (spanCmp x y)) ∧ ∃ q os', w' = grow (W.drewN q) os' := by
 have hu32 := Try.underlying32
 have L1 := zam (fun W => lower_grow x.f0 x.f1 y.f0 y.f1 W)
 have L2 := zam (fun W => lower_grow y.f0 y.f1 x.f0 x.f1 W)
 have TB := zam (two_boxes W #[.int .i64 x.f0, .int .i64 x.f1] #[.int .i64 y.f0, .int .i64 y.f1] 32 32)
 unfold spanCmp
 by_cases c1 : x.f0 < y.f0
 ·have d1 : decide (x.f0 < y.f0) = true := zdt c1
  rw [if_pos c1]
  clear c1
  rw [d1] at L1
  go_enter Try.func97, Try.ntmps97
  go_wp2_with (go_at_call 92; (refine (L1.out _).mono ?_); rintro e w2 ⟨rfl, os1, rfl⟩)
  go_ret
  exact ⟨rfl, 0, _, by rw [alloc_eq_grow, alloc_eq_grow, grow_grow]; exact congrArg (fun W => grow W os1) rfl |>.trans (grow_grow _ _ _)⟩
 have d1 : decide (x.f0 < y.f0) = false := zdf c1
 rw [if_neg c1]
 clear c1
 rw [d1] at L1
 by_cases c2 : y.f0 < x.f0
 ·have d2 : decide (y.f0 < x.f0) = true := zdt c2
  rw [if_pos c2]
  clear c2
  rw [d2] at L2
  go_enter Try.func97, Try.ntmps97
  go_wp2_with (first | (go_at_call 92; (refine (L1.out _).mono ?_); rintro e w2 ⟨rfl, os1, rfl⟩; have hz0 := (zkc (blk_grown0 TB.out.1 0 os1) 0).trans rfl; have hz1 := (zkc (blk_grown0 TB.out.1 0 os1) 1).trans rfl; have hz2 := (zkc (blk_grown0 TB.out.2 0 os1) 0).trans rfl; have hz3 := (zkc (blk_grown0 TB.out.2 0 os1) 1).trans rfl) | (go_at_call 92; (refine (L2.out _).mono ?_); rintro e w2 ⟨rfl, os2, rfl⟩))
  go_ret
  exact ⟨rfl, 0, _, by rw [alloc_eq_grow, alloc_eq_grow, grow_grow]; exact (congrArg (fun W => grow W os2) (grow_grow _ _ _)).trans (grow_grow _ _ _)⟩
 have d2 : decide (y.f0 < x.f0) = false := zdf c2
 rw [if_neg c2]
 clear c2
 rw [d2] at L2
 go_enter Try.func97, Try.ntmps97
 go_wp2_with (first | (go_at_call 92; (refine (L1.out _).mono ?_); rintro e w2 ⟨rfl, os1, rfl⟩; have hz0 := (zkc (blk_grown0 TB.out.1 0 os1) 0).trans rfl; have hz1 := (zkc (blk_grown0 TB.out.1 0 os1) 1).trans rfl; have hz2 := (zkc (blk_grown0 TB.out.2 0 os1) 0).trans rfl; have hz3 := (zkc (blk_grown0 TB.out.2 0 os1) 1).trans rfl) | (go_at_call 92; (refine (L2.out _).mono ?_); rintro e w2 ⟨rfl, os2, rfl⟩))
 go_ret
 exact ⟨rfl, 0, _, by rw [alloc_eq_grow, alloc_eq_grow, grow_grow]; exact (congrArg (fun W => grow W os2) (grow_grow _ _ _)).trans (grow_grow _ _ _)⟩
end Go.Proofs.Ytlkafgibgipodaa.P
namespace Go.Proofs.Ytlkafgibgipodaa.P
open Go.RowKit Go.Proofs.YtlkafgibgipodaaW.PrintWords Go.Proofs.YtlkafgibgipodaaW.PrintLast Go.Proofs.YtlkafgibgipodaaW.PrintMore
attribute [local go_sem] max2_int min2_int max_two min_two max_three min_three max_four min_four   -- for this text's walks alone
set_option linter.unusedVariables false
set_option linter.unusedSimpArgs false
def laySortSpan_ren : Go.Shelf.Ren := ⟨fun | 6 => 96 | 15 => 124 | 14 => 123 | 28 => 135 | 29 => 136 | 20 => 127 | 21 => 128 | 22 => 129 | 23 => 130 | 24 => 131 | 25 => 132 | 26 => 133 | 27 => 134 | 46 => 138 | 47 => 139 | 48 => 140 | 49 => 141 | 50 => 142 | 57 => 143 | n => n, fun | 22 => 44 | 24 => 32 | 25 => 103 | 3 => 3 | 39 => 29 | 0 => 0 | 53 => 127 | 55 => 129 | 4 => 4 | 46 => 120 | 45 => 119 | 50 => 124 | 5 => 5 | 9 => 9 | 66 => 130 | 70 => 134 | 76 => 136 | 77 => 137 | n => n, fun | n => n⟩
theorem laySortSpan : Go.Proofs.SlLaysF0.n6 Try.prog laySortSpan_ren := {
 mixed := by kernel_rfl,
 f6 := ⟨Try.f96.name, by decide, Try.func96.trans (congrArg some (by kernel_rfl))⟩,
 f14 := ⟨Try.f123.name, by decide, Try.func123.trans (congrArg some (by kernel_rfl))⟩,
 f15 := Try.func124.trans (congrArg some (by kernel_rfl)),
 f20 := ⟨Try.f127.name, by decide, Try.func127.trans (congrArg some (by kernel_rfl))⟩,
 f21 := ⟨Try.f128.name, by decide, Try.func128.trans (congrArg some (by kernel_rfl))⟩,
 f22 := ⟨Try.f129.name, by decide, Try.func129.trans (congrArg some (by kernel_rfl))⟩,
 f23 := ⟨Try.f130.name, by decide, Try.func130.trans (congrArg some (by kernel_rfl))⟩,
 f24 := ⟨Try.f131.name, by decide, Try.func131.trans (congrArg some (by kernel_rfl))⟩,
 f25 := ⟨Try.f132.name, by decide, Try.func132.trans (congrArg some (by kernel_rfl))⟩,
 f26 := ⟨Try.f133.name, by decide, Try.func133.trans (congrArg some (by kernel_rfl))⟩,
 f27 := ⟨Try.f134.name, by decide, Try.func134.trans (congrArg some (by kernel_rfl))⟩,
 f28 := Try.func135.trans (congrArg some (by kernel_rfl)),
 f29 := Try.func136.trans (congrArg some (by kernel_rfl)),
 f46 := ⟨Try.f138.name, by decide, Try.func138.trans (congrArg some (by kernel_rfl))⟩,
 f47 := Try.func139.trans (congrArg some (by kernel_rfl)),
 f48 := Try.func140.trans (congrArg some (by kernel_rfl)),
 f49 := ⟨Try.f141.name, by decide, Try.func141.trans (congrArg some (by kernel_rfl))⟩,
 f50 := ⟨Try.f142.name, by decide, Try.func142.trans (congrArg some (by kernel_rfl))⟩,
 f57 := ⟨Try.f143.name, by decide, Try.func143.trans (congrArg some (by kernel_rfl))⟩,
 t0 := Try.underlying0,
 a0 := Try.isAgg0,
 z0 := Try.sizeOf0,
 v0 := Try.zeroValue0,
 t3 := Try.underlying3,
 a3 := Try.isAgg3,
 z3 := Try.sizeOf3,
 v3 := Try.zeroValue3,
 t4 := Try.underlying4,
 a4 := Try.isAgg4,
 z4 := Try.sizeOf4,
 v4 := Try.zeroValue4,
 t5 := Try.underlying5,
 a5 := Try.isAgg5,
 z5 := Try.sizeOf5,
 v5 := Try.zeroValue5,
 t9 := Try.underlying9,
 a9 := Try.isAgg9,
 z9 := Try.sizeOf9,
 v9 := Try.zeroValue9,
 t22 := Try.underlying44,
 a22 := Try.isAgg44,
 z22 := Try.sizeOf44,
 v22 := Try.zeroValue44,
 t25 := Try.underlying103,
 a25 := Try.isAgg103,
 z25 := Try.sizeOf103,
 v25 := Try.zeroValue103,
 t39 := Try.underlying29,
 a39 := Try.isAgg29,
 z39 := Try.sizeOf29,
 v39 := Try.zeroValue29,
 t45 := Try.underlying119,
 a45 := Try.isAgg119,
 z45 := Try.sizeOf119,
 v45 := Try.zeroValue119,
 t46 := Try.underlying120,
 a46 := Try.isAgg120,
 z46 := Try.sizeOf120,
 v46 := Try.zeroValue120,
 t50 := Try.underlying124,
 a50 := Try.isAgg124,
 z50 := Try.sizeOf124,
 v50 := Try.zeroValue124,
 t53 := Try.underlying127,
 a53 := Try.isAgg127,
 z53 := Try.sizeOf127,
 v53 := Try.zeroValue127,
 t55 := Try.underlying129,
 a55 := Try.isAgg129,
 z55 := Try.sizeOf129,
 v55 := Try.zeroValue129,
 t66 := Try.underlying130,
 a66 := Try.isAgg130,
 z66 := Try.sizeOf130,
 v66 := Try.zeroValue130,
 t70 := Try.underlying134,
 a70 := Try.isAgg134,
 z70 := Try.sizeOf134,
 v70 := Try.zeroValue134,
 t76 := Try.underlying136,
 a76 := Try.isAgg136,
 z76 := Try.sizeOf136,
 v76 := Try.zeroValue136,
 t77 := Try.underlying137,
 a77 := Try.isAgg137,
 z77 := Try.sizeOf137,
 v77 := Try.zeroValue137 }
end Go.Proofs.Ytlkafgibgipodaa.P
namespace Go.Proofs.Ytlkafgibgipodaa.P
open Go.RowKit Go.Proofs.YtlkafgibgipodaaW.PrintWords Go.Proofs.YtlkafgibgipodaaW.PrintLast Go.Proofs.YtlkafgibgipodaaW.PrintMore
attribute [local go_sem] max2_int min2_int max_two min_two max_three min_three max_four min_four   -- for this text's walks alone
set_option linter.unusedVariables false
set_option linter.unusedSimpArgs false
open Go.Shelf Go.Lib Go.Sort
instance : Inhabited S32 := ⟨z32⟩
def encSpan (x : S32) : List Value := [.int .i64 x.f0, .int .i64 x.f1]
theorem spanCmp_lt (x y : S32) : ltOf spanCmp x y = decide (x.f0 < y.f0) := by
 unfold ltOf spanCmp
 by_cases h1 : x.f0 < y.f0
 ·simp [h1]
 by_cases h2 : y.f0 < x.f0 <;> simp [h1, h2]
theorem spanSwo : SWO (ltOf spanCmp) where
 irrefl x := by rw [spanCmp_lt]; simp
 trans x y z h1 h2 := by rw [spanCmp_lt] at *; simp at *; omega
 ntrans x y z h1 h2 := by rw [spanCmp_lt] at *; simp at *; omega
theorem spanLays (blk off size : Nat) (w : World) : CmpLays Try.prog 97 #[] encSpan 2 spanCmp blk off size w :=
 fun _ _ _ _ x y => cmp_grow x y _
def flatSpan (xs : List S32) : List Value := xs.flatMap encSpan
theorem flat_get : ∀ (xs : List S32) (t : Nat), t < xs.length * 2 → (flatSpan xs)[t]? = some (encSpan (xs[t / 2]?.getD z32))[t % 2]!
 | [], t, h => by simp at h
 | x :: xs, 0, _ => by simp [flatSpan, encSpan]
 | x :: xs, 1, _ => by simp [flatSpan, encSpan]
 | x :: xs, t + 2, h => by
  have ih := flat_get xs t (by simp only [List.length_cons] at h; omega)
  have e1 : (t + 2) / 2 = t / 2 + 1 := by omega
  have e2 : (t + 2) % 2 = t % 2 := by omega
  rw [e1, e2, List.getElem?_cons_succ, ← ih]
  simp [flatSpan, encSpan]
theorem flat_length : ∀ xs : List S32, (flatSpan xs).length = xs.length * 2
 | [] => rfl
 | x :: xs => by
  have := flat_length xs
  simp only [flatSpan, List.flatMap_cons, List.length_append, List.length_cons, encSpan, List.length_nil] at this ⊢
  omega
theorem flatK_span (d : Array S32) : (flatK encSpan 2 d).toList = flatSpan d.toList := by
 apply List.ext_getElem?
 intro t
 by_cases h : t < d.size * 2
 ·rw [flat_get d.toList t (by simpa using h)]
  have hs : t < (flatK encSpan 2 d).size := by simpa using h
  have h1 := get_flatK encSpan 2 d t h
  rw [getElem!_pos _ t hs] at h1
  have hd : t / 2 < d.size := by omega
  rw [Array.getElem?_toList, Array.getElem?_eq_getElem hs, h1]
  simp [hd]
 rw [List.getElem?_eq_none (by simpa using Nat.le_of_not_lt h), List.getElem?_eq_none (by rw [flat_length]; simpa using Nat.le_of_not_lt h)]
theorem own_of_span {e : Nat} {w : World} {base : Nat} {ok : Nat → Prop} {v : Value} {xs : List S32} (h : Kd.R k32 e w base ok v xs) : w.ownsRow base e 2 v xs.length (flatSpan xs) := by
 obtain ⟨_, inner, ho, hr⟩ := h
 have : inner = flatSpan xs := by
  apply List.ext_getElem?
  intro t
  have hil : inner.length = xs.length * 2 := ho.1
  by_cases ht : t < xs.length * 2
  ·rw [flat_get xs t ht]
   have hj : t / 2 < xs.length := by omega
   have h2 := k32_openM (hr.2 (t / 2) xs[t / 2] (List.getElem?_eq_getElem hj))
   have h3 : ((inner.drop (t / 2 * 2)).take 2)[t % 2]? = (encSpan (xs[t / 2]?.getD z32))[t % 2]? := by
    have : (inner.drop (t / 2 * 2)).take 2 = [.int .i64 (xs[t / 2]).f0, .int .i64 (xs[t / 2]).f1] := h2
    rw [this, List.getElem?_eq_getElem hj]
    rfl
   rw [List.getElem?_take, if_pos (by omega), List.getElem?_drop, show t / 2 * 2 + t % 2 = t by omega] at h3
   rw [h3]
   have : t % 2 < 2 := by omega
   rcases (show t % 2 = 0 ∨ t % 2 = 1 by omega) with q | q <;> rw [q] <;> rfl
  rw [List.getElem?_eq_none (by omega), List.getElem?_eq_none (by rw [flat_length]; omega)]
 rw [← this]
 exact ho
theorem span_of_own {e : Nat} {w : World} {base : Nat} {ok : Nat → Prop} {v : Value} {xs : List S32} (h : w.ownsRow base e 2 v xs.length (flatSpan xs)) (hok : ∀ k, v.ownBlock = some k → ok k) : Kd.R k32 e w base ok v xs := by
 refine ⟨hok, _, h, ?_⟩
 refine ⟨flat_length xs, fun j p hj => ?_⟩
 obtain ⟨hl, hp⟩ := List.getElem?_eq_some_iff.1 hj
 have : ((flatSpan xs).drop (j * 2)).take 2 = [.int .i64 p.f0, .int .i64 p.f1] := by
  apply List.ext_getElem?
  intro t
  by_cases ht : t < 2
  ·rw [List.getElem?_take, if_pos ht, List.getElem?_drop, flat_get xs _ (by omega), show (j * 2 + t) / 2 = j by omega, show (j * 2 + t) % 2 = t by omega, hj]
   rcases (show t = 0 ∨ t = 1 by omega) with rfl | rfl <;> rfl
  rw [List.getElem?_eq_none (by rw [zlt]; omega), List.getElem?_eq_none (by simp; omega)]
 show k32.M _ _ _ p (((flatSpan xs).drop (j * 2)).take 2)
 rw [this]
 exact k32_mkM _ _ _ p
theorem holds_span {w : World} {g : Nat} {cur : Array Value} {e : Nat} {xs : List S32} (hcur : w.heap[g]? = some (.cells cur e (0, 0))) (htake : cur.toList.take (xs.length * 2) = flatSpan xs) : HoldsK encSpan 2 w g 0 xs.toArray := by
 intro j hj
 have hj2 : j < xs.length * 2 := by simpa using hj
 refine ⟨?_, by rw [Nat.zero_add]; exact zkz hcur j⟩
 have h1 : cur[j]? = (flatSpan xs)[j]? := by
  rw [← htake, List.getElem?_take, if_pos hj2, Array.getElem?_toList]
 have h2 : (flatK encSpan 2 xs.toArray).toList[j]? = (flatSpan xs)[j]? := by rw [flatK_span]
 rw [Nat.zero_add, (zkc hcur j).trans h1, ← h2, Array.getElem?_toList, Array.getElem?_eq_getElem hj, getElem!_pos _ j hj]
 rfl
theorem sorted_row {w : World} {g : Nat} {cur : Array Value} {e : Nat} (hcur : w.heap[g]? = some (.cells cur e (0, 0))) (n : Nat) (d : Array S32) (os : Array Obj) :
  (sortWorldK encSpan 2 w g 0 n d os).heap[g]? = some (.cells (putCells id 0 (flatK encSpan 2 d) cur) e (0, 0)) := by
 have h1 : (putRowK encSpan 2 (Sort.ahead w n) g 0 d).heap[g]? = some (.cells (putCells id 0 (flatK encSpan 2 d) cur) e (0, 0)) := by
  show ((Sort.ahead w n).heap.modify g _)[g]? = _
  rw [Array.getElem?_modify, if_pos rfl]
  show Option.map _ (w.heap[g]?) = _
  rw [hcur]
  rfl
 show ((putRowK encSpan 2 (Sort.ahead w n) g 0 d).heap ++ os)[g]? = _
 rw [Array.getElem?_append_left (blk_lt h1)]
 exact h1
theorem sorted_below {B : Nat} {w0 w : World} {g : Nat} (hb : Below B w0 w) (hg : B ≤ g) (hB : B ≤ w.heap.size) (n : Nat) (d : Array S32) (os : Array Obj) : Below B w0 (sortWorldK encSpan 2 w g 0 n d os) := by
 refine hb.trans ⟨rfl, rfl, rfl, ?_, fun k hk => ?_⟩
 ·show w.heap.size ≤ ((putRowK encSpan 2 (Sort.ahead w n) g 0 d).heap ++ os).size
  rw [Array.size_append, size_putRowK]
  exact Nat.le_add_right _ _
 show ((putRowK encSpan 2 (Sort.ahead w n) g 0 d).heap ++ os)[k]? = _
 rw [Array.getElem?_append_left (by rw [size_putRowK]; exact Nat.lt_of_lt_of_le hk hB)]
 show ((Sort.ahead w n).heap.modify g _)[k]? = _
 rw [Array.getElem?_modify, if_neg (by omega)]
 rfl
theorem put_take (F cur : Array Value) (h : F.size ≤ cur.size) : (putCells id 0 F cur).toList.take F.size = F.toList := by
 apply List.ext_getElem?
 intro j
 by_cases hj : j < F.size
 ·rw [List.getElem?_take, if_pos hj, Array.getElem?_toList, Array.getElem?_toList]
  unfold putCells
  rw [Array.getElem?_mapIdx, Array.getElem?_eq_getElem (by omega), Option.map_some, if_pos ⟨Nat.zero_le _, by omega⟩, Nat.sub_zero, Array.getElem?_eq_getElem hj, getElem!_pos _ j hj]
  rfl
 rw [List.getElem?_eq_none (by rw [zlt]; omega), List.getElem?_eq_none (by simpa using Nat.le_of_not_lt hj)]
set_option maxHeartbeats 4000000 in
theorem sort_spans_some (w0 w : World) (v : Value) (xs : List S32) (hR : Kd.R k32 32 w w0.heap.size (fun _ => True) v xs) (hB : Below w0.heap.size w0 w) (hl : xs.length < 2305843009213693952) (hp : 0 < xs.length) :
  Calls Try.prog 96 #[v, .func (.func 97) #[] #[]] w fun e w' => e = .returned (.tuple #[]) ∧ ∃ ys : List S32, ys.Perm xs ∧ ys.Pairwise (fun a b => ¬ b.f0 < a.f0) ∧ Kd.R k32 32 w' w0.heap.size (fun _ => True) v ys ∧ Below w0.heap.size w0 w' := by
 have ho := own_of_span hR
 obtain ⟨hol, ho2⟩ := ho
 rcases ho2 with ⟨_, h0⟩ | ⟨g, cap, cur, rfl, hg, hcur, hn, hmx, hsz, htake⟩
 ·omega
 have eg : ∀ args w, (callFunc 97 args).run Try.prog w = .ok (.enter 97 args) w := enters_of Try.func97 (by kernel_rfl) rfl
 have hH := holds_span hcur htake
 have hcon := AnyQ.slices_SortFunc laySortSpan 2 Try.isAgg32 Try.sizeOf32 encSpan (fun _ => rfl) (fun x v hv => by simp [encSpan] at hv; rcases hv with rfl | rfl <;> rfl) spanCmp spanSwo 97 #[] g 0 cap xs.toArray w eg (spanLays g 0 xs.toArray.size w) hH (blk_lt hcur) (by simpa using (show xs.length < 4611686018427387904 by omega))
 change Calls Try.prog 96 _ _ _ at hcon
 refine hcon.mono ?_
 rintro e w' ⟨rfl, d', n, os, ⟨hs1, _, hs2⟩, hso, rfl⟩
 have hsx : d'.size = xs.length := by simpa using hs1
 have e1 : d'.extract 0 xs.toArray.size = d' := by
  have : xs.toArray.size = d'.size := hs1.symm
  rw [this, Array.extract_size]
 have e2 : xs.toArray.extract 0 xs.toArray.size = xs.toArray := Array.extract_size
 rw [e1, e2] at hs2
 refine ⟨rfl, d'.toList, hs2, ?_, ?_, sorted_below hB hg (zbz hB) n d' os⟩
 ·rw [List.pairwise_iff_getElem]
  intro i j hi hj hij hlt
  have hi' : i < d'.size := by simpa using hi
  have hj' : j < d'.size := by simpa using hj
  have h := hso i j (Nat.zero_le _) hij (by simpa [hsx] using hj')
  rw [spanCmp_lt, getElem!_pos _ i hi', getElem!_pos _ j hj'] at h
  simp at h hlt
  omega
 refine span_of_own ?_ (fun _ _ => trivial)
 have hlen : d'.toList.length = xs.length := by simpa using hsx
 rw [hlen]
 refine ⟨by rw [flat_length, hlen], .inr ⟨g, cap, _, rfl, hg, sorted_row hcur n d' os, hn, hmx, ?_, ?_⟩⟩
 ·rw [← hsz]
  simp [putCells]
 have hF : (flatK encSpan 2 d').size = xs.length * 2 := by simp [hsx]
 rw [← hF, put_take _ _ (by omega), flatK_span]
set_option maxRecDepth 100000 in
set_option maxHeartbeats 4000000 in
theorem insertion_none (A : Option Addr) (c : Nat) (f : Value) (w : World) : Calls Try.prog 127 #[.slice A 0 c, .int .i64 0, .int .i64 0, f] w fun e w' => e = .returned (.tuple #[]) ∧ Below w.heap.size w w' := by
 have HB := zam (Below.refl w.heap.size w)
 go_enter Try.func127, Try.ntmps127
 go_wp2
 go_loopw [8] (fun v wr => v = .int .i64 1 ∧ Below w.heap.size w wr) (fun _ _ => 0)
 case atStart => exact ⟨rfl, HB.out⟩
 case round =>
  obtain ⟨rfl, hb⟩ := hrel
  have HB2 := zam hb
  clear hb
  go_wp2
  go_end0
  exact ⟨rfl, HB2.out⟩
theorem len_zero (w : World) : Calls Try.prog 124 #[.int .u64 0] w fun e w' => (∃ l : Int, e = .returned (.int .i64 l)) ∧ w' = w := by
 have h := Any.bits_Len (SlLaysF0.n15.bits (P := Try.prog) (ρ := laySortSpan_ren) { laySortSpan with }) 0 w (by omega) (by omega)
 change Calls Try.prog 124 _ _ _ at h
 exact h.mono fun e w' hh => ⟨⟨_, hh.1⟩, hh.2⟩
set_option maxRecDepth 100000 in
set_option maxHeartbeats 4000000 in
theorem pdq_none (A : Option Addr) (c : Nat) (l : Int) (f : Value) (w : World) : Calls Try.prog 123 #[.slice A 0 c, .int .i64 0, .int .i64 0, .int .i64 l, f] w fun e w' => e = .returned (.tuple #[]) ∧ Below w.heap.size w w' := by
 have HB := zam (Below.refl w.heap.size w)
 have IN := zam (fun w => insertion_none A c f w)
 go_enter Try.func123, Try.ntmps123
 go_wp2
 go_loopw [1, 2] (fun v1 v2 wr => v1 = .int .i64 0 ∧ v2 = .int .i64 0 ∧ Below w.heap.size w wr) (fun _ _ _ => 0)
 case atStart => exact ⟨rfl, rfl, HB.out⟩
 case round =>
  obtain ⟨rfl, rfl, hb⟩ := hrel
  have HB2 := zam hb
  clear hb
  go_wp2_with (go_at_call 127; (with_reducible refine (IN.out _).mono ?_); rintro e w2 ⟨rfl, hb⟩; have n0 := zam (zbt HB2.out hb); clear HB2 hb; have HB2 := n0; clear n0)
  refine zbr (results_none rfl _ _ _) rfl ?_
  exact ⟨rfl, HB2.out⟩
set_option maxRecDepth 100000 in
set_option maxHeartbeats 4000000 in
theorem sort_none (A : Option Addr) (c : Nat) (f : Value) (w : World) : Calls Try.prog 96 #[.slice A 0 c, f] w fun e w' => e = .returned (.tuple #[]) ∧ Below w.heap.size w w' := by
 have HB := zam (Below.refl w.heap.size w)
 have PN := zam (fun l w => pdq_none A c l f w)
 go_enter Try.func96, Try.ntmps96
 go_wp2_with (first | (go_at_call 124; (refine (len_zero _).mono ?_); rintro e w2 ⟨⟨l, rfl⟩, rfl⟩) | (go_at_call 123; (refine (PN.out _ _).mono ?_); rintro e w2 ⟨rfl, hb⟩; have n0 := zam (zbt HB.out hb); clear HB hb; have HB := n0; clear n0))
 go_end0
 exact ⟨rfl, HB.out⟩
theorem sort_spans (w0 w : World) (v : Value) (xs : List S32) (hR : Kd.R k32 32 w w0.heap.size (fun _ => True) v xs) (hB : Below w0.heap.size w0 w) (hl : xs.length < 2305843009213693952) :
  Calls Try.prog 96 #[v, .func (.func 97) #[] #[]] w fun e w' => e = .returned (.tuple #[]) ∧ ∃ ys : List S32, ys.Perm xs ∧ ys.Pairwise (fun a b => ¬ b.f0 < a.f0) ∧ Kd.R k32 32 w' w0.heap.size (fun _ => True) v ys ∧ Below w0.heap.size w0 w' := by
 rcases Nat.eq_zero_or_pos xs.length with h0 | h0
 ·obtain rfl := List.length_eq_zero_iff.mp h0
  obtain ⟨A, c, rfl⟩ := Kd.R_slice hR
  exact (sort_none A c _ w).mono fun e w' h => ⟨h.1, [], List.Perm.refl _, List.Pairwise.nil, Kd.R_below hR h.2, zbt hB h.2⟩
 exact sort_spans_some w0 w v xs hR hB hl h0
end Go.Proofs.Ytlkafgibgipodaa.P
namespace Go.Proofs.Ytlkafgibgipodaa.P
open Go.RowKit Go.Proofs.YtlkafgibgipodaaW.PrintWords Go.Proofs.YtlkafgibgipodaaW.PrintLast Go.Proofs.YtlkafgibgipodaaW.PrintMore
attribute [local go_sem] max2_int min2_int max_two min_two max_three min_three max_four min_four   -- for this text's walks alone
set_option linter.unusedVariables false
set_option linter.unusedSimpArgs false
open Go.Shelf
attribute [local go_sem] Oper.semAt_some
def VKeep (Bs : Nat) (A : Option Addr) (U V : World) : Prop := V.heap[Bs]? = U.heap[Bs]? ∧ ∀ ad, A = some ad → V.heap[ad.block]? = U.heap[ad.block]?
theorem VKeep.refl (Bs : Nat) (A : Option Addr) (U : World) : VKeep Bs A U U := ⟨rfl, fun _ _ => rfl⟩
theorem VKeep.trans {Bs : Nat} {A : Option Addr} {U V X : World} (h : VKeep Bs A U V) (k : VKeep Bs A V X) : VKeep Bs A U X := ⟨k.1.trans h.1, fun ad e => (k.2 ad e).trans (h.2 ad e)⟩
theorem addr_block (ad : Addr) (k : Nat) : (ad.add k).block = ad.block := by
 unfold Addr.add
 split <;> rfl
set_option maxRecDepth 100000 in
set_option maxHeartbeats 4000000 in
theorem span_values1_in (fn0 : FuncId → Prop) (dep : Option Nat) (al : Bool) (n : Nat) (h6 : fn0 125) (hn : 1 ≤ n) (l Bs : Nat) (A : Option Addr) (c : Nat) (xs : List S32) (hxl : xs.length ≤ 1000000) (J Jx : List S32 → World → Prop) (hA : ∀ pre W W', J pre W → W.grownBy W' none → J pre W')
  (hY : ∀ pre x W, J pre W → pre.length < xs.length → YieldAt (Fence.mk fn0 dep al none) (n - 1) Try.prog l #[.agg #[.int .i64 x.f0, .int .i64 x.f1]] W fun e W' => (e = .returned (.bool true) ∧ J (pre ++ [x]) W' ∧ VKeep Bs A W W') ∨ (e = .returned (.bool false) ∧ Jx (pre ++ [x]) W'))
  (W : World) (kb : W.heap[Bs]? = some (.cells #[.slice A xs.length c] 44 (0, 0))) (kc : Kd.C k32 W A xs.length xs) (kl : ∀ ad, A = some ad → 0 < xs.length → ad.block < W.heap.size) (h0 : J [] W) :
  CallsIn (Fence.mk fn0 dep al none) n Try.prog 125 #[.func (.yield l) #[] #[], .pointer (some ⟨Bs, 0, none⟩)] W fun e W' => (∃ v, e = .returned v) ∧ (J xs W' ∨ ∃ pre, Jx pre W') := by
 have KB := zam kb
 have KC := zam kc
 have KL := zam kl
 have HL := zam hxl
 have HA := zam hA
 have HY := zam hY
 refine callsIn_of_wp Try.func125 rfl h6 ?_ rfl
 simp only [Try.ntmps125, List.size_toArray, List.length_cons, List.length_nil, Nat.reduceAdd, Nat.reduceSub, Array.replicate_succ, Array.replicate_zero, List.push_toArray, List.append_toArray, List.nil_append, List.cons_append]
 have hz0 := (zkc kb 0).trans rfl
 clear kb kc kl hxl hA hY
 gi_wp2
 clear hz0
 gi_loopw [7] (fun v wr => ∃ i : Nat, i ≤ xs.length ∧ v = .int .i64 (i : Int) ∧ J (xs.take i) wr ∧ VKeep Bs A W wr) (fun v _ => xs.length - (intOf v).toNat)
 case atStart => exact ⟨0, Nat.zero_le _, rfl, h0, VKeep.refl _ _ _⟩
 case round =>
  obtain ⟨i, hi, rfl, hJ, hk⟩ := hrel
  by_cases hlt : i < xs.length
  ·have d1 : decide ((i : Int) < (xs.length : Int)) = true := zdt (by omega)
   obtain ⟨ad, ead, hx0, hx1⟩ := at_T32 KC.out (i : Int) (Int.natCast_nonneg _) (by omega)
   subst ead
   have e1 : rd_T32 xs (i : Int) = xs[i] := by
    unfold rd_T32
    rw [Int.toNat_natCast]
    simp [List.getD, hlt]
   rw [e1, Int.toNat_natCast] at hx0 hx1
   have hy0 : wr.cell? (ad.add (i * 2)) = some (.int .i64 xs[i].f0) := ((World.cell?_of_block (a := ad.add (i * 2)) (show wr.heap[(ad.add (i * 2)).block]? = W.heap[(ad.add (i * 2)).block]? from by rw [addr_block]; exact hk.2 ad rfl) : wr.cell? (ad.add (i * 2)) = W.cell? (ad.add (i * 2)))).trans hx0
   have hy1 : wr.cell? ⟨(ad.add (i * 2)).block, (ad.add (i * 2)).off + 1, none⟩ = some (.int .i64 xs[i].f1) := ((World.cell?_of_block (a := ⟨(ad.add (i * 2)).block, (ad.add (i * 2)).off + 1, none⟩) (show wr.heap[(ad.add (i * 2)).block]? = W.heap[(ad.add (i * 2)).block]? from by rw [addr_block]; exact hk.2 ad rfl) : wr.cell? ⟨(ad.add (i * 2)).block, (ad.add (i * 2)).off + 1, none⟩ = W.cell? ⟨(ad.add (i * 2)).block, (ad.add (i * 2)).off + 1, none⟩)).trans hx1
   clear hx0 hx1
   have wi : IntKind.i64.wrap ((i : Int) + 1) = ((i + 1 : Nat) : Int) := by
    have := HL.out
    rw [i64_w, wrap_id (by omega) (by omega)]
    omega
   obtain ⟨fn, tmps, assign, body, hy, hR⟩ := HY.out (xs.take i) xs[i] (wr.alloc (.cells #[.int .i64 xs[i].f0, .int .i64 xs[i].f1] 32)) (HA.out _ _ _ hJ (World.grownBy_alloc wr _ none)) (by rw [zlt]; omega)
   have HK := zam hk
   have HA1 : Aside0 (VKeep Bs (some ad) wr (wr.alloc (.cells #[.int .i64 xs[i].f0, .int .i64 xs[i].f1] 32))) := ⟨by
    have b1 := blk_lt (hk.1.trans KB.out)
    have b2 : ad.block < wr.heap.size := by
     have h1 := KL.out ad rfl (by omega)
     have h2 : wr.heap[ad.block]? = some (W.heap[ad.block]) := (hk.2 ad rfl).trans (Array.getElem?_eq_getElem h1)
     exact blk_lt h2
    exact ⟨Below.heap_alloc wr _ _ b1, fun a e => by cases e; exact Below.heap_alloc wr _ _ b2⟩⟩
   clear hk
   gi_wp2
   refine hR.mono ?_
   rintro e W3 (⟨rfl, hJ3, hk3⟩ | ⟨rfl, hJx3⟩)
   ·gi_wp2
    go_roundw
    case rel =>
     refine ⟨i + 1, by omega, rfl, ?_, HK.out.trans (VKeep.trans HA1.out hk3)⟩
     rw [take_snoc hlt]
     exact hJ3
    case measure => (simp only [intOf]; omega)
   gi_wp2
   refine ⟨rfl, _, results_none rfl _ _ _, ⟨_, rfl⟩, .inr ⟨_, hJx3⟩⟩
  have d1 : decide ((i : Int) < (xs.length : Int)) = false := zdf (by omega)
  have hie : i = xs.length := by omega
  rw [hie, List.take_length] at hJ
  gi_wp2
  refine ⟨rfl, _, results_none rfl _ _ _, ⟨_, rfl⟩, .inl hJ⟩
theorem span_values_in (fn0 : FuncId → Prop) (dep : Option Nat) (al : Bool) (n : Nat) (h5 : fn0 98) (v : Value) (A : Option Addr) (m c : Nat) (hv : v = .slice A m c) (w : World) :
  CallsIn (Fence.mk fn0 dep al none) n Try.prog 98 #[v] w fun e w' =>
   e = .returned (.func (.func 125) #[] #[.pointer (some ⟨w.heap.size, 0, none⟩)]) ∧ w' = w.alloc (.cells #[.slice A m c] 44) := by
 subst hv
 refine callsIn_of_wp Try.func98 rfl h5 ?_ rfl
 simp only [Try.ntmps98, List.size_toArray, List.length_cons, List.length_nil, Nat.reduceAdd, Nat.reduceSub, Array.replicate_succ, Array.replicate_zero, List.push_toArray, List.append_toArray, List.nil_append, List.cons_append]
 gi_wp2
 go_ret
 exact ⟨rfl, rfl⟩
theorem span_values_stops (fn0 : FuncId → Prop) (dep : Option Nat) (al : Bool) (n : Nat) (h6 : fn0 125) (hn : 1 ≤ n) (Bs : Nat) (A : Option Addr) (c : Nat) (xs : List S32) (hxl : xs.length ≤ 1000000) (w : World) (kb : w.heap[Bs]? = some (.cells #[.slice A xs.length c] 44 (0, 0))) (kc : Kd.C k32 w A xs.length xs) (kl : ∀ ad, A = some ad → 0 < xs.length → ad.block < w.heap.size) :
  SeqStopsK (Fence.mk fn0 dep al none) n Try.prog 125 #[.pointer (some ⟨Bs, 0, none⟩)] (fun x : S32 => #[Value.agg #[.int .i64 x.f0, .int .i64 x.f1]]) (VKeep Bs A) (fun ys => ys = xs) (fun _ => True) xs.length w := fun l J Jx W hW hA _ hY h0 =>
 (span_values1_in fn0 dep al n h6 hn l Bs A c xs hxl J Jx (fun pre W W' h hg => hA pre W W' none h hg (fun r e => by cases e)) (fun pre x W h hl => hY pre x W h hl) W (zkb kb hW) (Kd.C_below kc hW) (fun ad e h => Nat.lt_of_lt_of_le (kl ad e h) hW.size) h0).mono
  (fun e W' h => ⟨h.1, h.2.elim (fun hJ => .inl ⟨xs, rfl, hJ⟩) (fun hJ => .inr (hJ.elim fun pre hp => ⟨pre, trivial, hp⟩))⟩)
end Go.Proofs.Ytlkafgibgipodaa.P
namespace Go.Proofs.Ytlkafgibgipodaa.P
open Go.RowKit Go.Proofs.YtlkafgibgipodaaW.PrintWords Go.Proofs.YtlkafgibgipodaaW.PrintLast Go.Proofs.YtlkafgibgipodaaW.PrintMore
attribute [local go_sem] max2_int min2_int max_two min_two max_three min_three max_four min_four   -- for this text's walks alone
set_option linter.unusedVariables false
set_option linter.unusedSimpArgs false
set_option maxHeartbeats 4000000 in
theorem cloneS_nil (c : Nat) (w : World) : (binOp .eql 44 (.slice none 0 c) (.slice none 0 0)).run Try.prog w = .ok (.bool true) w := by kernel_rfl
theorem cloneS_some (ad : Addr) (n c : Nat) (w : World) : (binOp .eql 44 (.slice (some ad) n c) (.slice none 0 0)).run Try.prog w = .ok (.bool false) w := by kernel_rfl
attribute [local go_sem] cloneS_nil cloneS_some
set_option maxRecDepth 100000 in
theorem clone_spans (A : Option Addr) (c : Nat) (xs : List S32) (w : World) (hr0 : Kd.C k32 w A xs.length xs) (hc0 : xs.length ≤ c) (hl : xs.length < 2513169434916) :
  Calls Try.prog 95 #[.slice A xs.length c] w fun e w' => ∃ v0_ : Value, e = .returned v0_ ∧ Kd.R k32 32 w' w.heap.size (fun _ => True) v0_ xs ∧ Below w.heap.size w w' := by
 have HR := zam hr0
 have LM := zam hl
 clear hr0 hl
 cases A with
 | none =>
  have hx : xs = [] := by
   cases xs with
   | nil => rfl
   | cons x xs =>
    obtain ⟨ad, e, _⟩ := at_T32 HR.out 0 (by decide) (by simp only [List.length_cons]; omega)
    cases e
  subst hx
  go_enter Try.func95, Try.ntmps95
  go_wp2
  go_ret
  exact ⟨_, rfl, Kd.R_nil _ _ _ _ _, Below.refl _ _⟩
 | some ad =>
  go_enter Try.func95, Try.ntmps95
  go_wp2_with (first | ((with_reducible refine zgd (N := 5) rfl ?_); refine Kd.R_lit k32 _ 32 ?hg (N := 5) ?hd (xs := ([] : List S32)) (inner := []) (ok := fun _ => True) (okp := fun _ => True) ?hr ?hp (fun _ hk => hk) trivial (Below.refl _ _) (Nat.le_refl _) (by simp) ?_; (case hd => rfl); (case hg => rfl); (case hr => first | (go_simp; done) | (go_simp; rfl)); (case hp => exact (Reps.none _ _)); intro v1 w1 ho hb hg_ hnew_; clear hg_ hnew_; have HO := zam ho; have HB := zam hb; have n1 := zam (Kd.C_below HR.out HB.out); clear HR ho hb; have HR := n1; clear n1) | ((with_reducible refine gate_builtin (b := .append) (xs := #[.tmp 5, .tmp 6]) rfl ?_); at_builtin; refine Kd.R_append_rows k32 (w0 := w) w.heap.size rfl (.tmp 5) (.tmp 6) 44 32 (.agg #[.int .i64 0, .int .i64 0]) 16 rfl Try.underlying44 info32 rfl (by decide) (by omega) v1 [] xs _ _ _ (fun _ => True) (fun _ => False) rfl rfl HO.out HR.out (fun _ _ h => h) (fun _ h => h.elim) (fun _ _ => trivial) HB.out (zbz HB.out) (by have := LM.out; simp only [List.length_nil]; omega) ?_; intro v2 w2 ho hb hg hat; rw [List.nil_append] at ho; have n2 := zam ho; have n3 := zam hb; clear HO HB ho hb hg hat; have HO := n2; have HB := n3; clear n2 n3))
  go_ret
  exact ⟨_, rfl, HO.out, HB.out⟩
end Go.Proofs.Ytlkafgibgipodaa.P
namespace Go.Proofs.Ytlkafgibgipodaa.P
open Go.RowKit Go.Proofs.YtlkafgibgipodaaW.PrintWords Go.Proofs.YtlkafgibgipodaaW.PrintLast Go.Proofs.YtlkafgibgipodaaW.PrintMore
attribute [local go_sem] max2_int min2_int max_two min_two max_three min_three max_four min_four   -- for this text's walks alone
set_option linter.unusedVariables false
set_option linter.unusedSimpArgs false
open Go.Shelf
def bound_Cover.f (k : Nat) (l : List (S32)) : Option (List (S32) × Int) := if (l.length : Int) > 256 then some ([], 6) else (bound_check.f k l).bind fun e => if e = 0 then some (Bd.cover l, 0) else some ([], e)
theorem check_ok0 (l : List S32) : ∀ (k i : Nat), i ≤ l.length → l.length ≤ 1000000 → bound_check.l0 k l (l.length : Int) (i : Int) = some 0 → ∀ s ∈ l.drop i, Bd.ok s := by
 intro k
 induction k with
 | zero => intro i _ _ h; cases h
 | succ k ih =>
  intro i hi hl h
  rw [bound_check.l0] at h
  by_cases hlt : i < l.length
  ·rw [if_pos (by omega), if_pos (by omega), if_pos (by omega)] at h
   have e1 : rd_T32 l (i : Int) = l[i] := by
    unfold rd_T32
    rw [Int.toNat_natCast]
    simp [List.getD, hlt]
   rw [e1] at h
   by_cases q1 : l[i].f0 > l[i].f1
   ·rw [if_pos q1] at h; cases h
   rw [if_neg q1] at h
   by_cases q2 : l[i].f0 < -1073741824
   ·rw [if_pos q2] at h; cases h
   rw [if_neg q2] at h
   by_cases q3 : l[i].f1 > 1073741824
   ·rw [if_pos q3] at h; cases h
   rw [if_neg q3, wrap_succ hlt (by omega)] at h
   intro s hs
   rw [drop_cons hlt] at hs
   rcases List.mem_cons.1 hs with rfl | hs
   ·exact ⟨by omega, by omega, by omega⟩
   exact ih (i + 1) (by omega) hl h s hs
  rw [List.drop_eq_nil_of_le (by omega)]
  intro s hs
  cases hs
theorem check_ok {l : List S32} {k : Nat} (hl : l.length ≤ 1000000) (h : bound_check.f k l = some 0) : ∀ s ∈ l, Bd.ok s := by
 have := check_ok0 l k 0 (Nat.zero_le _) hl h
 rwa [List.drop_zero] at this
theorem flat_eq : ∀ xs : List S32, Bd.flat xs = flatSpan xs
 | [] => rfl
 | x :: xs => by
  rw [Bd.flat, flat_eq xs]
  simp [flatSpan, encSpan]
theorem own_down {W : World} {b b' e size n : Nat} {v : Value} {xs : List Value} (h : W.ownsRow b e size v n xs) (hb : b' ≤ b) : W.ownsRow b' e size v n xs :=
 ⟨h.1, h.2.imp id fun ⟨g, cap, cur, h1, h2, h3⟩ => ⟨g, cap, cur, h1, Nat.le_trans hb h2, h3⟩⟩
theorem join_values (A : Option Addr) (c : Nat) (xs : List S32) (w : World) (hxl : xs.length ≤ 1000000) (Bs : Nat) (kb : w.heap[Bs]? = some (.cells #[.slice A xs.length c] 44 (0, 0))) (kc : Kd.C k32 w A xs.length xs) (kl : ∀ ad, A = some ad → ad.block < w.heap.size) :
  Calls Try.prog 90 #[.func (.func 125) #[] #[.pointer (some ⟨Bs, 0, none⟩)]] w fun e w' => ∃ v : Value, e = .returned v ∧ Kd.R k32 32 w' w.heap.size (fun _ => True) v (Bd.join xs) ∧ Below w.heap.size w w' := by
 have hBs := blk_lt kb
 refine (callsIn_wide.1 (bound_join_in (fun _ => True) none false 3 trivial (by omega) 125 trivial (enters_of Try.func125 (by kernel_rfl) rfl) #[.pointer (some ⟨Bs, 0, none⟩)] (VKeep Bs A) (fun ys => ys = xs) (fun _ => True) xs.length hxl w
  (span_values_stops (fun _ => True) none false 2 trivial (by omega) Bs A c xs hxl w kb kc (fun ad e _ => kl ad e)) (fun h k => VKeep.trans h k) (fun W W' h => ⟨h _ hBs, fun ad e => h _ (kl ad e)⟩))).mono ?_
 rintro e w' ⟨v, ys, rfl, rfl, hrow, hb⟩
 rw [flat_eq] at hrow
 exact ⟨v, rfl, span_of_own (own_down hrow (Nat.le_add_right _ 1)) (fun _ _ => trivial), hb⟩
set_option maxHeartbeats 4000000 in
set_option maxRecDepth 100000 in
theorem bound_Cover.calls (k : Nat) (A0 : Option Addr) (c0 : Nat) (l0 : List (S32)) (r1 : List (S32)) (r2 : Int) (w : World) (hr0 : Kd.C k32 w A0 l0.length l0) (hc0 : l0.length ≤ c0) (h : bound_Cover.f k l0 = some (r1, r2)) :
  Calls Try.prog 46 #[.slice A0 l0.length c0] w fun e w' => ∃ v0_ : Value, e = .returned (.tuple #[v0_, .int .i64 r2]) ∧ Kd.R k32 32 w' w.heap.size (fun _ => True) v0_ r1 ∧ Below w.heap.size w w' := by
 unfold bound_Cover.f at h
 have HB := zam (Below.refl w.heap.size w)
 by_cases q : (l0.length : Int) > 256
 ·rw [if_pos q] at h
  simp only [Option.some.injEq, Prod.mk.injEq] at h
  obtain ⟨rfl, rfl⟩ := h
  have d1 : decide (256 < (l0.length : Int)) = true := zdt q
  have d2 : decide (256 < l0.length) = true := zdt (by omega)
  go_enter Try.func46, Try.ntmps46
  go_wp2
  go_ret2
  exact ⟨_, rfl, Kd.R_nil _ _ _ _ _, HB.out⟩
 rw [if_neg q] at h
 have d1 : decide (256 < (l0.length : Int)) = false := zdf q
 have d2 : decide (256 < l0.length) = false := zdf (by omega)
 have hlen : l0.length ≤ 256 := by omega
 obtain ⟨e, he, h⟩ := Option.bind_eq_some_iff.mp h
 have HC := zam he
 have LN := zam hlen
 clear q hlen he
 by_cases qe : e = 0
 ·subst qe
  rw [if_pos rfl] at h
  simp only [Option.some.injEq, Prod.mk.injEq] at h
  obtain ⟨rfl, rfl⟩ := h
  go_enter Try.func46, Try.ntmps46
  go_wp2_with (first
   | (go_at_call 80; (refine (bound_check.calls k A0 c0 l0 0 _ hr0 hc0 HC.out).mono ?_); rintro e w2 ⟨rfl, hb⟩; have n0 := zam (zbt HB.out hb); clear HB hb; have HB := n0; clear n0)
   | (go_at_call 95; (refine (clone_spans A0 c0 l0 _ (Kd.C_below hr0 HB.out) hc0 (by have := LN.out; omega)).mono ?_); rintro e w3 ⟨v3, rfl, ho, hb⟩; have HO := zam (span_of_own (ok := fun _ => True) (own_down (b' := w.heap.size) (own_of_span ho) (zbz HB.out)) (fun _ _ => trivial)); have n0 := zam (zbt HB.out hb); clear HB hb ho; have HB := n0; clear n0)
   | (go_at_call 96; (refine (sort_spans w _ _ l0 HO.out HB.out (by have := LN.out; omega)).mono ?_); rintro e w4 ⟨rfl, ys, hp, hs, ho, hb⟩; obtain ⟨A, c, rfl, hlc, hC⟩ := Kd.R_reads ho; have CC := zam hC; have KL := zam (fun ad (e : A = some ad) => own_lt (own_of_span ho) ad.block (by rw [e]; rfl)); clear hC hlc; have PE := zam hp; have SO := zam hs; clear HO HB; have HO := zam ho; have HB := zam hb; clear hp hs ho hb)
   | (go_at_call 98; (refine (callsIn_wide.1 (span_values_in (fun _ => True) none false 1 trivial _ A _ c rfl w4)).mono ?_); rintro e w5 ⟨rfl, rfl⟩)
   | (go_at_call 90; ((refine (join_values A c ys (w4.alloc (.cells #[.slice A ys.length c] 44)) (by rw [PE.out.length_eq]; have := LN.out; omega) w4.heap.size (blk_new w4 _) (Kd.C_alloc CC.out _) (fun ad e => by have := KL.out ad e; rw [World.size_alloc]; omega)).mono ?_); rintro e w6 ⟨v6, rfl, ho, hb⟩; have HO6 := zam (span_of_own (ok := fun _ => True) (own_down (b' := w.heap.size) (own_of_span ho) (by rw [World.size_alloc]; have := zbz HB.out; omega)) (fun _ _ => trivial)); have HB6 := zam (zbt (zba HB.out _) hb); clear ho hb)))
  go_ret2
  refine ⟨_, rfl, ?_, HB6.out⟩
  rw [← Bd.join_perm PE.out (SO.out.imp (fun h => by omega)) (check_ok (by have := LN.out; omega) HC.out)]
  exact HO6.out
 rw [if_neg qe] at h
 simp only [Option.some.injEq, Prod.mk.injEq] at h
 obtain ⟨rfl, rfl⟩ := h
 have e1 : (e == 0) = false := beq_eq_false_iff_ne.mpr qe
 have e2 : (e != 0) = true := bne_iff_ne.mpr qe
 clear qe
 go_enter Try.func46, Try.ntmps46
 go_wp2_with (go_at_call 80; (refine (bound_check.calls k A0 c0 l0 e _ hr0 hc0 HC.out).mono ?_); rintro e w2 ⟨rfl, hb⟩; have n0 := zam (zbt HB.out hb); clear HB hb; have HB := n0; clear n0)
 go_ret2
 exact ⟨_, rfl, Kd.R_nil _ _ _ _ _, HB.out⟩
end Go.Proofs.Ytlkafgibgipodaa.P
namespace Go.Proofs.Ytlkafgibgipodaa.P
open Go.RowKit Go.Proofs.YtlkafgibgipodaaW.PrintWords Go.Proofs.YtlkafgibgipodaaW.PrintLast Go.Proofs.YtlkafgibgipodaaW.PrintMore
attribute [local go_sem] max2_int min2_int max_two min_two max_three min_three max_four min_four   -- for this text's walks alone
set_option linter.unusedVariables false
set_option linter.unusedSimpArgs false
theorem eqA32 (d : Nat) (w : World) (x0 y0 : Int) (x1 y1 : Int) :
  (Op.equalIn (d + 2) 32 (.agg #[.int .i64 x0, .int .i64 x1]) (.agg #[.int .i64 y0, .int .i64 y1])).run Try.prog w = .ok (x0 == y0 && (x1 == y1)) w := by
 refine eqA_of Try.underlying32 (by kernel_rfl) ?_
 refine eqf_cons (by rfl) (by go_simp; rfl) (by go_simp; rfl) (by go_simp) ?_
 exact eqf_last (by rfl) (by go_simp; rfl) (by go_simp; rfl) (by go_simp)
end Go.Proofs.Ytlkafgibgipodaa.P
namespace Go.Proofs.Ytlkafgibgipodaa.P
open Go.RowKit Go.Proofs.YtlkafgibgipodaaW.PrintWords Go.Proofs.YtlkafgibgipodaaW.PrintLast Go.Proofs.YtlkafgibgipodaaW.PrintMore
attribute [local go_sem] max2_int min2_int max_two min_two max_three min_three max_four min_four   -- for this text's walks alone
set_option linter.unusedVariables false
set_option linter.unusedSimpArgs false
attribute [local go_sem high] eqA32
end Go.Proofs.Ytlkafgibgipodaa.P
namespace Go.Proofs.Ytlkafgibgipodaa.P
open Go.RowKit Go.Proofs.YtlkafgibgipodaaW.PrintWords Go.Proofs.YtlkafgibgipodaaW.PrintLast Go.Proofs.YtlkafgibgipodaaW.PrintMore
attribute [local go_sem] max2_int min2_int max_two min_two max_three min_three max_four min_four   -- for this text's walks alone
set_option linter.unusedVariables false
set_option linter.unusedSimpArgs false
end Go.Proofs.Ytlkafgibgipodaa.P
namespace Go.Proofs.Ytlkafgibgipodaa.P
open Go.RowKit Go.Proofs.YtlkafgibgipodaaW.PrintWords Go.Proofs.YtlkafgibgipodaaW.PrintLast Go.Proofs.YtlkafgibgipodaaW.PrintMore
attribute [local go_sem] max2_int min2_int max_two min_two max_three min_three max_four min_four   -- for this text's walks alone
set_option linter.unusedVariables false
set_option linter.unusedSimpArgs false
attribute [local go_sem high] eqA32
def isobathlaw01_Works.f (k : Nat)  : Option (Bool) := (bound_Mul.f k (-3) 5 2 4).bind fun bt101 => ((bound_Div.f k 7 9 (-4) (-2)).bind fun bt105 => ((bound_Cover.f k (([(⟨5, 6⟩ : S32), (⟨1, 2⟩ : S32), (⟨3, 3⟩ : S32)] : List (S32)))).bind fun bt112 => (if (wrap64 ((wrap64 (bt101.2.2 + bt105.2.2)) + bt112.2)) = 0 then (if (bt101.1 == (-12) && (bt101.2.1 == 20)) = true then (if (bt105.1 == (-5) && (bt105.2.1 == (-1))) = true then (if (bt112.1.length : Int) = 2 then (if 0 < (bt112.1.length : Int) then (some (((rd_T32 bt112.1 0).f0) == 1 && (((rd_T32 bt112.1 0).f1) == 3))) else (none)) else (some false)) else (some false)) else (some false)) else (some false))))
set_option maxHeartbeats 8000000 in
set_option maxRecDepth 100000 in
theorem isobathlaw01_Works.calls (k : Nat)  (r : Bool) (w : World) (h : isobathlaw01_Works.f k  = some r) :
  Calls Try.prog 18 #[] w fun e w' => e = .returned (.bool r) ∧ Below w.heap.size w w' := by
 have hu32 := Try.underlying32
 have HB := zam (Below.refl w.heap.size w)
 have H : ((bound_Mul.f k (-3) 5 2 4).bind fun bt101 => ((bound_Div.f k 7 9 (-4) (-2)).bind fun bt105 => ((bound_Cover.f k (([(⟨5, 6⟩ : S32), (⟨1, 2⟩ : S32), (⟨3, 3⟩ : S32)] : List (S32)))).bind fun bt112 => (if (wrap64 ((wrap64 (bt101.2.2 + bt105.2.2)) + bt112.2)) = 0 then (if (bt101.1 == (-12) && (bt101.2.1 == 20)) = true then (if (bt105.1 == (-5) && (bt105.2.1 == (-1))) = true then (if (bt112.1.length : Int) = 2 then (if 0 < (bt112.1.length : Int) then (some (((rd_T32 bt112.1 0).f0) == 1 && (((rd_T32 bt112.1 0).f1) == 3))) else (none)) else (some false)) else (some false)) else (some false)) else (some false))))) = some r := h
 clear h
 replace H := Option.bind_eq_some_iff.mp H
 obtain ⟨⟨t101, t102, t103⟩, A10, H⟩ := H
 replace H : ((bound_Div.f k 7 9 (-4) (-2)).bind fun bt105 => ((bound_Cover.f k (([(⟨5, 6⟩ : S32), (⟨1, 2⟩ : S32), (⟨3, 3⟩ : S32)] : List (S32)))).bind fun bt112 => (if (wrap64 ((wrap64 (t103 + bt105.2.2)) + bt112.2)) = 0 then (if (t101 == (-12) && (t102 == 20)) = true then (if (bt105.1 == (-5) && (bt105.2.1 == (-1))) = true then (if (bt112.1.length : Int) = 2 then (if 0 < (bt112.1.length : Int) then (some (((rd_T32 bt112.1 0).f0) == 1 && (((rd_T32 bt112.1 0).f1) == 3))) else (none)) else (some false)) else (some false)) else (some false)) else (some false)))) = some r := H
 have A1 := zam A10
 clear A10
 replace H := Option.bind_eq_some_iff.mp H
 obtain ⟨⟨t105, t106, t107⟩, A20, H⟩ := H
 replace H : ((bound_Cover.f k (([(⟨5, 6⟩ : S32), (⟨1, 2⟩ : S32), (⟨3, 3⟩ : S32)] : List (S32)))).bind fun bt112 => (if (wrap64 ((wrap64 (t103 + t107)) + bt112.2)) = 0 then (if (t101 == (-12) && (t102 == 20)) = true then (if (t105 == (-5) && (t106 == (-1))) = true then (if (bt112.1.length : Int) = 2 then (if 0 < (bt112.1.length : Int) then (some (((rd_T32 bt112.1 0).f0) == 1 && (((rd_T32 bt112.1 0).f1) == 3))) else (none)) else (some false)) else (some false)) else (some false)) else (some false))) = some r := H
 have A2 := zam A20
 clear A20
 obtain ⟨y109, hy109⟩ : ∃ y_ : List (S32), y_ = (([(⟨5, 6⟩ : S32), (⟨1, 2⟩ : S32), (⟨3, 3⟩ : S32)] : List (S32))) := ⟨_, rfl⟩
 replace H : ((bound_Cover.f k y109).bind fun bt112 => (if (wrap64 ((wrap64 (t103 + t107)) + bt112.2)) = 0 then (if (t101 == (-12) && (t102 == 20)) = true then (if (t105 == (-5) && (t106 == (-1))) = true then (if (bt112.1.length : Int) = 2 then (if 0 < (bt112.1.length : Int) then (some (((rd_T32 bt112.1 0).f0) == 1 && (((rd_T32 bt112.1 0).f1) == 3))) else (none)) else (some false)) else (some false)) else (some false)) else (some false))) = some r := by first | (rw [hy109]; with_reducible exact H) | (have H2_ := (Option.bind_some _ _).symm.trans H; rw [hy109]; with_reducible exact H2_) | (have H2_ := (Option.bind_some _ _).symm.trans H; with_reducible exact H2_) | with_reducible exact H | (rw [hy109]; exact H) | exact H
 have Ny109 := zam hy109
 clear hy109
 replace H := Option.bind_eq_some_iff.mp H
 obtain ⟨⟨t112, t113⟩, A30, H⟩ := H
 replace H : (if (wrap64 ((wrap64 (t103 + t107)) + t113)) = 0 then (if (t101 == (-12) && (t102 == 20)) = true then (if (t105 == (-5) && (t106 == (-1))) = true then (if (t112.length : Int) = 2 then (if 0 < (t112.length : Int) then (some (((rd_T32 t112 0).f0) == 1 && (((rd_T32 t112 0).f1) == 3))) else (none)) else (some false)) else (some false)) else (some false)) else (some false)) = some r := H
 have A3 := zam A30
 clear A30
 by_cases c4 : (wrap64 ((wrap64 (t103 + t107)) + t113)) = 0
 ·rw [if_pos c4] at H
  have c4b0 : ((wrap64 ((wrap64 (t103 + t107)) + t113)) == 0) = true := beq_iff_eq.mpr c4
  have c4b1 : ((wrap64 ((wrap64 (t103 + t107)) + t113)) != 0) = false := bne_eq_false_iff_eq.mpr c4
  clear c4
  by_cases c5 : (t101 == (-12) && (t102 == 20)) = true
  ·rw [if_pos c5] at H
   have c5b0 : (t101 == (-12) && (t102 == 20)) = true := c5
   (try (have c5b1 : decide (t101 = (-12) && (t102 == 20)) = true := by simpa using c5))
   (try (have c5b2 : (t101 == (-12) && (t102 == 20)) = true := by simpa using c5))
   clear c5
   by_cases c6 : (t105 == (-5) && (t106 == (-1))) = true
   ·rw [if_pos c6] at H
    have c6b0 : (t105 == (-5) && (t106 == (-1))) = true := c6
    (try (have c6b1 : decide (t105 = (-5) && (t106 == (-1))) = true := by simpa using c6))
    (try (have c6b2 : (t105 == (-5) && (t106 == (-1))) = true := by simpa using c6))
    clear c6
    by_cases c7 : (t112.length : Int) = 2
    ·rw [if_pos c7] at H
     have c7b0 : ((t112.length : Int) == 2) = true := beq_iff_eq.mpr c7
     have c7b1 : ((t112.length : Int) != 2) = false := bne_eq_false_iff_eq.mpr c7
     clear c7
     by_cases c8 : 0 < (t112.length : Int)
     ·rw [if_pos c8] at H
      have c8b0 : decide (0 < (t112.length : Int)) = true := zdt c8
      have c8b1 : decide (0 < t112.length) = true := zdt (by omega)
      clear c8
      obtain rfl := zsi H
      go_enter Try.func18, Try.ntmps18
      go_wp2_with (first | ((with_reducible refine zgc (f := 28) rfl ?_); refine goesL_ (some 10) rfl rfl Try.func28 (by kernel_rfl) rfl #[.agg #[.int .i64 (-3), .int .i64 5], .agg #[.int .i64 2, .int .i64 4]] rfl (by (try simp only [zmt, List.map_cons, List.map_nil]); first | done | rfl | (simp only [zld, zlt]; rfl)) ?_; (with_reducible refine (bound_Mul.calls k (-3) 5 2 4 t101 t102 t103 _ A1.out).mono ?_); rintro e w9 ⟨rfl, hb⟩; refine ⟨_, rfl, ?_⟩; have n0_ := zam (zbt (by repeat (first | (with_reducible first | exact HB.out | apply zba | apply zbn | apply zb1) | exact HB.out)) hb); clear HB; have HB := n0_; clear n0_; (try clear hb); (try clear hb2); (try clear hk); (try clear hi)) | ((with_reducible refine zgd (N := 1) rfl ?_); (try (refine gate_guard (by rfl) ?_; dsimp only)); refine box_event ?hg (N := 1) ?hd (cs := #[.int .i64 0, .int .i64 0]) (t := 32) ?hr ?_; (case hd => rfl); (case hg => rfl); (case hr => first | (go_simp; done) | (go_simp; rfl)); intro gb104 hg w10 hbox hb; have n0_ := zam (zbt (by repeat (first | (with_reducible first | exact HB.out | apply zba | apply zbn | apply zb1) | exact HB.out)) hb); have n1_ := zam (hbox); have n2_ := zam ((by rw [hg]; exact (zbz (by repeat (first | (with_reducible first | exact HB.out | apply zba | apply zbn | apply zb1) | exact HB.out))) : w.heap.size ≤ gb104)); have n3_ := zam ((by rw [hg]; exact (zbz (by repeat (first | (with_reducible first | exact HB.out | apply zba | apply zbn | apply zb1) | exact HB.out))) : w.heap.size ≤ gb104)); clear HB; have HB := n0_; have BK104 := n1_; have GW104 := n2_; have GE104 := n3_; clear n0_ n1_ n2_ n3_; clear hb hbox hg; have hcz11_0 : w10.cell? ⟨gb104, 0, none⟩ = some (.int .i64 0) := (zkc BK104.out 0).trans rfl; have hcz11_1 : w10.cell? ⟨gb104, 1, none⟩ = some (.int .i64 0) := (zkc BK104.out 1).trans rfl; have hfz11_0 := zkz BK104.out 0; have hfz11_1 := zkz BK104.out 1) | ((with_reducible refine zgc (f := 61) rfl ?_); refine goesL_ (some 16) rfl rfl Try.func61 (by kernel_rfl) rfl #[.agg #[.int .i64 7, .int .i64 9], .agg #[.int .i64 (-4), .int .i64 (-2)]] rfl (by (try simp only [zmt, List.map_cons, List.map_nil]); first | done | rfl | (simp only [zld, zlt]; rfl)) ?_; (with_reducible refine (bound_Div.calls k 7 9 (-4) (-2) t105 t106 t107 _ A2.out).mono ?_); rintro e w12 ⟨rfl, hb⟩; refine ⟨_, rfl, ?_⟩; have n0_ := zam (zkb (g := gb104) (o := .cells #[.int .i64 t101, .int .i64 t102] 32 (0, 0)) (by (with_reducible repeat (first | refine zkn ?_ _ | refine zkd ?_ | refine zka ?_ _)); refine blk_put (cs := #[.int .i64 t101, .int .i64 0]) ?_ 1 _ rfl; (with_reducible repeat (first | refine zkn ?_ _ | refine zkd ?_ | refine zka ?_ _)); refine blk_put (cs := #[.int .i64 0, .int .i64 0]) ?_ 0 _ rfl; (with_reducible repeat (first | refine zkn ?_ _ | refine zkd ?_ | refine zka ?_ _)); exact BK104.out) hb); have n1_ := zam (zbt (by repeat (first | (with_reducible first | exact HB.out | apply zba | apply zbn | apply zb1 | refine zbs ?_ GE104.out) | exact HB.out)) hb); clear BK104; clear HB; have BK104 := n0_; have HB := n1_; clear n0_ n1_; (try clear hb); (try clear hb2); (try clear hk); (try clear hi)) | ((with_reducible refine zgd (N := 3) rfl ?_); (try (refine gate_guard (by rfl) ?_; dsimp only)); refine box_event ?hg (N := 3) ?hd (cs := #[.int .i64 0, .int .i64 0]) (t := 32) ?hr ?_; (case hd => rfl); (case hg => rfl); (case hr => first | (go_simp; done) | (go_simp; rfl)); intro gb108 hg w13 hbox hb; have n0_ := zam (zkb (g := gb104) (o := .cells #[.int .i64 t101, .int .i64 t102] 32 (0, 0)) (by (with_reducible repeat (first | refine zkn ?_ _ | refine zkd ?_ | refine zka ?_ _)); exact BK104.out) hb); have n1_ := zam (zbt (by repeat (first | (with_reducible first | exact HB.out | apply zba | apply zbn | apply zb1 | refine zbs ?_ GE104.out) | exact HB.out)) hb); have n2_ := zam (hbox); have n3_ := zam ((by rw [hg]; exact (zbz (by repeat (first | (with_reducible first | exact HB.out | apply zba | apply zbn | apply zb1 | refine zbs ?_ GE104.out) | exact HB.out))) : w.heap.size ≤ gb108)); have n4_ := zam ((by rw [hg]; exact (zbz (by repeat (first | (with_reducible first | exact HB.out | apply zba | apply zbn | apply zb1 | refine zbs ?_ GE104.out) | exact HB.out))) : w.heap.size ≤ gb108)); have n5_ := zam ((by rw [hg]; exact Nat.ne_of_lt (blk_lt (g := gb104) (o := .cells #[.int .i64 t101, .int .i64 t102] 32 (0, 0)) (by (with_reducible repeat (first | refine zkn ?_ _ | refine zkd ?_ | refine zka ?_ _)); exact BK104.out)) : gb104 ≠ gb108)); have n6_ := zam ((by rw [hg]; exact Nat.ne_of_gt (blk_lt (g := gb104) (o := .cells #[.int .i64 t101, .int .i64 t102] 32 (0, 0)) (by (with_reducible repeat (first | refine zkn ?_ _ | refine zkd ?_ | refine zka ?_ _)); exact BK104.out)) : gb108 ≠ gb104)); clear BK104; clear HB; have BK104 := n0_; have HB := n1_; have BK108 := n2_; have GW108 := n3_; have GE108 := n4_; have NB104_108 := n5_; have NB108_104 := n6_; clear n0_ n1_ n2_ n3_ n4_ n5_ n6_; clear hb hbox hg; have hnb14 := NB108_104.out; have hnc14 := NB104_108.out; have hcz15_0 : w13.cell? ⟨gb108, 0, none⟩ = some (.int .i64 0) := (zkc BK108.out 0).trans rfl; have hcz15_1 : w13.cell? ⟨gb108, 1, none⟩ = some (.int .i64 0) := (zkc BK108.out 1).trans rfl; have hfz15_0 := zkz BK108.out 0; have hfz15_1 := zkz BK108.out 1) | ((with_reducible refine zgd (N := 23) rfl ?_); (try (refine gate_guard (by rfl) ?_; dsimp only)); refine Kd.R_lit k32 _ 32 ?hg (N := 23) ?hd (xs := ([(⟨5, 6⟩ : S32), (⟨1, 2⟩ : S32), (⟨3, 3⟩ : S32)] : List (S32))) (inner := [.int .i64 5, .int .i64 6, .int .i64 1, .int .i64 2, .int .i64 3, .int .i64 3]) (ok := fun _ => True) (okp := fun _ => True) ?hr ?hp (fun _ hk => hk) trivial (Below.refl _ _) (Nat.le_refl _) (by simp) ?_; (case hd => rfl); (case hg => rfl); (case hr => first | (go_simp; done) | (go_simp; rfl)); (case hp => exact (Reps.c2 (show Kd.M k32 _ _ _ (⟨5, 6⟩ : S32) [.int .i64 5, .int .i64 6] from (k32_mkM _ _ _ (⟨5, 6⟩ : S32) )) (Reps.c2 (show Kd.M k32 _ _ _ (⟨1, 2⟩ : S32) [.int .i64 1, .int .i64 2] from (k32_mkM _ _ _ (⟨1, 2⟩ : S32) )) (Reps.c2 (show Kd.M k32 _ _ _ (⟨3, 3⟩ : S32) [.int .i64 3, .int .i64 3] from (k32_mkM _ _ _ (⟨3, 3⟩ : S32) )) (Reps.none _ _))))); intro v110 w16 ho17 hb hg_ hnew_; clear hg_ hnew_; (first | rw [← Ny109.out] at ho17 | (simp only [Int.reduceToNat] at ho17; rw [← Ny109.out] at ho17)); have n0_ := zam (Kd.R_lower (Kd.R_newB (Kd.R_newB ho17 (g := gb104) (o := .cells #[.int .i64 t101, .int .i64 t102] 32 (0, 0)) (by (with_reducible repeat (first | refine zkn ?_ _ | refine zkd ?_ | refine zka ?_ _)); refine blk_far ?_ NB104_108.out _; (with_reducible repeat (first | refine zkn ?_ _ | refine zkd ?_ | refine zka ?_ _)); refine blk_far ?_ NB104_108.out _; (with_reducible repeat (first | refine zkn ?_ _ | refine zkd ?_ | refine zka ?_ _)); exact BK104.out)) (g := gb108) (o := .cells #[.int .i64 t105, .int .i64 t106] 32 (0, 0)) (by (with_reducible repeat (first | refine zkn ?_ _ | refine zkd ?_ | refine zka ?_ _)); refine blk_put (cs := #[.int .i64 t105, .int .i64 0]) ?_ 1 _ rfl; (with_reducible repeat (first | refine zkn ?_ _ | refine zkd ?_ | refine zka ?_ _)); refine blk_put (cs := #[.int .i64 0, .int .i64 0]) ?_ 0 _ rfl; (with_reducible repeat (first | refine zkn ?_ _ | refine zkd ?_ | refine zka ?_ _)); exact BK108.out)) (zbz (by repeat (first | (with_reducible first | exact HB.out | apply zba | apply zbn | apply zb1 | refine zbs ?_ GE104.out | refine zbs ?_ GE108.out) | exact HB.out)))); have n1_ := zam (zkb (g := gb104) (o := .cells #[.int .i64 t101, .int .i64 t102] 32 (0, 0)) (by (with_reducible repeat (first | refine zkn ?_ _ | refine zkd ?_ | refine zka ?_ _)); refine blk_far ?_ NB104_108.out _; (with_reducible repeat (first | refine zkn ?_ _ | refine zkd ?_ | refine zka ?_ _)); refine blk_far ?_ NB104_108.out _; (with_reducible repeat (first | refine zkn ?_ _ | refine zkd ?_ | refine zka ?_ _)); exact BK104.out) hb); have n2_ := zam (zkb (g := gb108) (o := .cells #[.int .i64 t105, .int .i64 t106] 32 (0, 0)) (by (with_reducible repeat (first | refine zkn ?_ _ | refine zkd ?_ | refine zka ?_ _)); refine blk_put (cs := #[.int .i64 t105, .int .i64 0]) ?_ 1 _ rfl; (with_reducible repeat (first | refine zkn ?_ _ | refine zkd ?_ | refine zka ?_ _)); refine blk_put (cs := #[.int .i64 0, .int .i64 0]) ?_ 0 _ rfl; (with_reducible repeat (first | refine zkn ?_ _ | refine zkd ?_ | refine zka ?_ _)); exact BK108.out) hb); have n3_ := zam (zbt (by repeat (first | (with_reducible first | exact HB.out | apply zba | apply zbn | apply zb1 | refine zbs ?_ GE104.out | refine zbs ?_ GE108.out) | exact HB.out)) hb); clear BK104; clear BK108; clear HB; have HO111 := n0_; have BK104 := n1_; have BK108 := n2_; have HB := n3_; clear n0_ n1_ n2_ n3_; clear hb ho17; obtain ⟨Ao18, co18, eo18⟩ := Kd.R_slice HO111.out; subst eo18) | ((with_reducible refine zgc (f := 46) rfl ?_); refine goesL_ (some 24) rfl rfl Try.func46 (by kernel_rfl) rfl #[.slice Ao18 y109.length co18] rfl (by (try simp only [zmt, List.map_cons, List.map_nil]); first | done | rfl | (simp only [zld, zlt]; rfl)) ?_; (with_reducible refine (bound_Cover.calls k _ _ y109 t112 t113 _ ?side1 ?side2 A3.out).mono ?_); (case side1 => repeat (first | exact (Kd.R_reads' HO111.out).2.2 | (with_reducible refine Kd.C_alloc ?_ _) | (with_reducible refine Kd.C_drewN ?_ _) | (with_reducible refine Kd.C_drew ?_))); (case side2 => exact (Kd.R_reads' HO111.out).2.1); rintro e w19 ⟨v114, rfl, ho0, hb⟩; refine ⟨_, rfl, ?_⟩; have n0_ := zam (Kd.R_elder' (by (with_reducible repeat (first | apply zRa | apply zRn | apply zRd)); exact HO111.out) (Kd.R_base ho0) hb); have n1_ := zam (Kd.R_lower (Kd.R_newB (Kd.R_newB (Kd.R_new' ho0 (Kd.R_lt (by (with_reducible repeat (first | apply zRa | apply zRn | apply zRd)); exact HO111.out))) (g := gb104) (o := .cells #[.int .i64 t101, .int .i64 t102] 32 (0, 0)) (by (with_reducible repeat (first | refine zkn ?_ _ | refine zkd ?_ | refine zka ?_ _)); exact BK104.out)) (g := gb108) (o := .cells #[.int .i64 t105, .int .i64 t106] 32 (0, 0)) (by (with_reducible repeat (first | refine zkn ?_ _ | refine zkd ?_ | refine zka ?_ _)); exact BK108.out)) (zbz (by repeat (first | (with_reducible first | exact HB.out | apply zba | apply zbn | apply zb1 | refine zbs ?_ GE104.out | refine zbs ?_ GE108.out) | exact HB.out)))); have n2_ := zam (zkb (g := gb104) (o := .cells #[.int .i64 t101, .int .i64 t102] 32 (0, 0)) (by (with_reducible repeat (first | refine zkn ?_ _ | refine zkd ?_ | refine zka ?_ _)); exact BK104.out) hb); have n3_ := zam (zkb (g := gb108) (o := .cells #[.int .i64 t105, .int .i64 t106] 32 (0, 0)) (by (with_reducible repeat (first | refine zkn ?_ _ | refine zkd ?_ | refine zka ?_ _)); exact BK108.out) hb); have n4_ := zam (zbt (by repeat (first | (with_reducible first | exact HB.out | apply zba | apply zbn | apply zb1 | refine zbs ?_ GE104.out | refine zbs ?_ GE108.out) | exact HB.out)) hb); clear HO111; clear BK104; clear BK108; clear HB; have HO111 := n0_; have HO115 := n1_; have BK104 := n2_; have BK108 := n3_; have HB := n4_; clear n0_ n1_ n2_ n3_ n4_; (try clear hb); (try clear hb2); (try clear hk); (try clear hi); (try clear ho0); have hcz20_0 : w19.cell? ⟨gb104, 0, none⟩ = some (.int .i64 t101) := (zkc BK104.out 0).trans rfl; have hcz20_1 : w19.cell? ⟨gb104, 1, none⟩ = some (.int .i64 t102) := (zkc BK104.out 1).trans rfl; have hfz20_0 := zkz BK104.out 0; have hfz20_1 := zkz BK104.out 1; have hcz21_0 : w19.cell? ⟨gb108, 0, none⟩ = some (.int .i64 t105) := (zkc BK108.out 0).trans rfl; have hcz21_1 : w19.cell? ⟨gb108, 1, none⟩ = some (.int .i64 t106) := (zkc BK108.out 1).trans rfl; have hfz21_0 := zkz BK108.out 0; have hfz21_1 := zkz BK108.out 1; obtain ⟨Ao22, co22, eo22⟩ := Kd.R_slice HO115.out; subst eo22; have p116 : 0 ≤ (0 : Int) := (by omega); have q116 : 0 < (t112.length : Int) := zod (by first | (with_reducible assumption) | assumption); obtain ⟨ad116, e116, hx116_0, hx116_1⟩ := at_T32 (Kd.R_reads' HO115.out).2.2 0 p116 q116; cases e116; have qi116 : (0 < t112.length) = True := eq_true (by omega); (try rw [show ((0 : Int)).toNat = 0 from rfl] at hx116_0); (try rw [show 0 * 2 = 0 from rfl] at hx116_0); (try rw [Addr.add_zero'] at hx116_0); (try rw [show ((0 : Int)).toNat = 0 from rfl] at hx116_1); (try rw [show 0 * 2 = 0 from rfl] at hx116_1); (try rw [Addr.add_zero'] at hx116_1); replace p116 := eq_true p116; replace q116 := eq_true q116))
      go_ret
      exact ⟨by first | rfl | (simp [errW_none, errW_some] <;> rfl) | (simp [*, errW_none, errW_some] <;> rfl), by repeat (first | (with_reducible first | exact HB.out | apply zba | apply zbn | apply zb1 | refine zbs ?_ GE104.out | refine zbs ?_ GE108.out) | exact HB.out)⟩
     rw [if_neg c8] at H
     exact absurd H (by simp)
    rw [if_neg c7] at H
    have c7b0 : ((t112.length : Int) == 2) = false := beq_eq_false_iff_ne.mpr c7
    have c7b1 : ((t112.length : Int) != 2) = true := bne_iff_ne.mpr c7
    obtain rfl := zsi H
    go_enter Try.func18, Try.ntmps18
    go_wp2_with (first | ((with_reducible refine zgc (f := 28) rfl ?_); refine goesL_ (some 10) rfl rfl Try.func28 (by kernel_rfl) rfl #[.agg #[.int .i64 (-3), .int .i64 5], .agg #[.int .i64 2, .int .i64 4]] rfl (by (try simp only [zmt, List.map_cons, List.map_nil]); first | done | rfl | (simp only [zld, zlt]; rfl)) ?_; (with_reducible refine (bound_Mul.calls k (-3) 5 2 4 t101 t102 t103 _ A1.out).mono ?_); rintro e w23 ⟨rfl, hb⟩; refine ⟨_, rfl, ?_⟩; have n0_ := zam (zbt (by repeat (first | (with_reducible first | exact HB.out | apply zba | apply zbn | apply zb1) | exact HB.out)) hb); clear HB; have HB := n0_; clear n0_; (try clear hb); (try clear hb2); (try clear hk); (try clear hi)) | ((with_reducible refine zgd (N := 1) rfl ?_); (try (refine gate_guard (by rfl) ?_; dsimp only)); refine box_event ?hg (N := 1) ?hd (cs := #[.int .i64 0, .int .i64 0]) (t := 32) ?hr ?_; (case hd => rfl); (case hg => rfl); (case hr => first | (go_simp; done) | (go_simp; rfl)); intro gb104 hg w24 hbox hb; have n0_ := zam (zbt (by repeat (first | (with_reducible first | exact HB.out | apply zba | apply zbn | apply zb1) | exact HB.out)) hb); have n1_ := zam (hbox); have n2_ := zam ((by rw [hg]; exact (zbz (by repeat (first | (with_reducible first | exact HB.out | apply zba | apply zbn | apply zb1) | exact HB.out))) : w.heap.size ≤ gb104)); have n3_ := zam ((by rw [hg]; exact (zbz (by repeat (first | (with_reducible first | exact HB.out | apply zba | apply zbn | apply zb1) | exact HB.out))) : w.heap.size ≤ gb104)); clear HB; have HB := n0_; have BK104 := n1_; have GW104 := n2_; have GE104 := n3_; clear n0_ n1_ n2_ n3_; clear hb hbox hg; have hcz25_0 : w24.cell? ⟨gb104, 0, none⟩ = some (.int .i64 0) := (zkc BK104.out 0).trans rfl; have hcz25_1 : w24.cell? ⟨gb104, 1, none⟩ = some (.int .i64 0) := (zkc BK104.out 1).trans rfl; have hfz25_0 := zkz BK104.out 0; have hfz25_1 := zkz BK104.out 1) | ((with_reducible refine zgc (f := 61) rfl ?_); refine goesL_ (some 16) rfl rfl Try.func61 (by kernel_rfl) rfl #[.agg #[.int .i64 7, .int .i64 9], .agg #[.int .i64 (-4), .int .i64 (-2)]] rfl (by (try simp only [zmt, List.map_cons, List.map_nil]); first | done | rfl | (simp only [zld, zlt]; rfl)) ?_; (with_reducible refine (bound_Div.calls k 7 9 (-4) (-2) t105 t106 t107 _ A2.out).mono ?_); rintro e w26 ⟨rfl, hb⟩; refine ⟨_, rfl, ?_⟩; have n0_ := zam (zkb (g := gb104) (o := .cells #[.int .i64 t101, .int .i64 t102] 32 (0, 0)) (by (with_reducible repeat (first | refine zkn ?_ _ | refine zkd ?_ | refine zka ?_ _)); refine blk_put (cs := #[.int .i64 t101, .int .i64 0]) ?_ 1 _ rfl; (with_reducible repeat (first | refine zkn ?_ _ | refine zkd ?_ | refine zka ?_ _)); refine blk_put (cs := #[.int .i64 0, .int .i64 0]) ?_ 0 _ rfl; (with_reducible repeat (first | refine zkn ?_ _ | refine zkd ?_ | refine zka ?_ _)); exact BK104.out) hb); have n1_ := zam (zbt (by repeat (first | (with_reducible first | exact HB.out | apply zba | apply zbn | apply zb1 | refine zbs ?_ GE104.out) | exact HB.out)) hb); clear BK104; clear HB; have BK104 := n0_; have HB := n1_; clear n0_ n1_; (try clear hb); (try clear hb2); (try clear hk); (try clear hi)) | ((with_reducible refine zgd (N := 3) rfl ?_); (try (refine gate_guard (by rfl) ?_; dsimp only)); refine box_event ?hg (N := 3) ?hd (cs := #[.int .i64 0, .int .i64 0]) (t := 32) ?hr ?_; (case hd => rfl); (case hg => rfl); (case hr => first | (go_simp; done) | (go_simp; rfl)); intro gb108 hg w27 hbox hb; have n0_ := zam (zkb (g := gb104) (o := .cells #[.int .i64 t101, .int .i64 t102] 32 (0, 0)) (by (with_reducible repeat (first | refine zkn ?_ _ | refine zkd ?_ | refine zka ?_ _)); exact BK104.out) hb); have n1_ := zam (zbt (by repeat (first | (with_reducible first | exact HB.out | apply zba | apply zbn | apply zb1 | refine zbs ?_ GE104.out) | exact HB.out)) hb); have n2_ := zam (hbox); have n3_ := zam ((by rw [hg]; exact (zbz (by repeat (first | (with_reducible first | exact HB.out | apply zba | apply zbn | apply zb1 | refine zbs ?_ GE104.out) | exact HB.out))) : w.heap.size ≤ gb108)); have n4_ := zam ((by rw [hg]; exact (zbz (by repeat (first | (with_reducible first | exact HB.out | apply zba | apply zbn | apply zb1 | refine zbs ?_ GE104.out) | exact HB.out))) : w.heap.size ≤ gb108)); have n5_ := zam ((by rw [hg]; exact Nat.ne_of_lt (blk_lt (g := gb104) (o := .cells #[.int .i64 t101, .int .i64 t102] 32 (0, 0)) (by (with_reducible repeat (first | refine zkn ?_ _ | refine zkd ?_ | refine zka ?_ _)); exact BK104.out)) : gb104 ≠ gb108)); have n6_ := zam ((by rw [hg]; exact Nat.ne_of_gt (blk_lt (g := gb104) (o := .cells #[.int .i64 t101, .int .i64 t102] 32 (0, 0)) (by (with_reducible repeat (first | refine zkn ?_ _ | refine zkd ?_ | refine zka ?_ _)); exact BK104.out)) : gb108 ≠ gb104)); clear BK104; clear HB; have BK104 := n0_; have HB := n1_; have BK108 := n2_; have GW108 := n3_; have GE108 := n4_; have NB104_108 := n5_; have NB108_104 := n6_; clear n0_ n1_ n2_ n3_ n4_ n5_ n6_; clear hb hbox hg; have hnb28 := NB108_104.out; have hnc28 := NB104_108.out; have hcz29_0 : w27.cell? ⟨gb108, 0, none⟩ = some (.int .i64 0) := (zkc BK108.out 0).trans rfl; have hcz29_1 : w27.cell? ⟨gb108, 1, none⟩ = some (.int .i64 0) := (zkc BK108.out 1).trans rfl; have hfz29_0 := zkz BK108.out 0; have hfz29_1 := zkz BK108.out 1) | ((with_reducible refine zgd (N := 23) rfl ?_); (try (refine gate_guard (by rfl) ?_; dsimp only)); refine Kd.R_lit k32 _ 32 ?hg (N := 23) ?hd (xs := ([(⟨5, 6⟩ : S32), (⟨1, 2⟩ : S32), (⟨3, 3⟩ : S32)] : List (S32))) (inner := [.int .i64 5, .int .i64 6, .int .i64 1, .int .i64 2, .int .i64 3, .int .i64 3]) (ok := fun _ => True) (okp := fun _ => True) ?hr ?hp (fun _ hk => hk) trivial (Below.refl _ _) (Nat.le_refl _) (by simp) ?_; (case hd => rfl); (case hg => rfl); (case hr => first | (go_simp; done) | (go_simp; rfl)); (case hp => exact (Reps.c2 (show Kd.M k32 _ _ _ (⟨5, 6⟩ : S32) [.int .i64 5, .int .i64 6] from (k32_mkM _ _ _ (⟨5, 6⟩ : S32) )) (Reps.c2 (show Kd.M k32 _ _ _ (⟨1, 2⟩ : S32) [.int .i64 1, .int .i64 2] from (k32_mkM _ _ _ (⟨1, 2⟩ : S32) )) (Reps.c2 (show Kd.M k32 _ _ _ (⟨3, 3⟩ : S32) [.int .i64 3, .int .i64 3] from (k32_mkM _ _ _ (⟨3, 3⟩ : S32) )) (Reps.none _ _))))); intro v110 w30 ho31 hb hg_ hnew_; clear hg_ hnew_; (first | rw [← Ny109.out] at ho31 | (simp only [Int.reduceToNat] at ho31; rw [← Ny109.out] at ho31)); have n0_ := zam (Kd.R_lower (Kd.R_newB (Kd.R_newB ho31 (g := gb104) (o := .cells #[.int .i64 t101, .int .i64 t102] 32 (0, 0)) (by (with_reducible repeat (first | refine zkn ?_ _ | refine zkd ?_ | refine zka ?_ _)); refine blk_far ?_ NB104_108.out _; (with_reducible repeat (first | refine zkn ?_ _ | refine zkd ?_ | refine zka ?_ _)); refine blk_far ?_ NB104_108.out _; (with_reducible repeat (first | refine zkn ?_ _ | refine zkd ?_ | refine zka ?_ _)); exact BK104.out)) (g := gb108) (o := .cells #[.int .i64 t105, .int .i64 t106] 32 (0, 0)) (by (with_reducible repeat (first | refine zkn ?_ _ | refine zkd ?_ | refine zka ?_ _)); refine blk_put (cs := #[.int .i64 t105, .int .i64 0]) ?_ 1 _ rfl; (with_reducible repeat (first | refine zkn ?_ _ | refine zkd ?_ | refine zka ?_ _)); refine blk_put (cs := #[.int .i64 0, .int .i64 0]) ?_ 0 _ rfl; (with_reducible repeat (first | refine zkn ?_ _ | refine zkd ?_ | refine zka ?_ _)); exact BK108.out)) (zbz (by repeat (first | (with_reducible first | exact HB.out | apply zba | apply zbn | apply zb1 | refine zbs ?_ GE104.out | refine zbs ?_ GE108.out) | exact HB.out)))); have n1_ := zam (zkb (g := gb104) (o := .cells #[.int .i64 t101, .int .i64 t102] 32 (0, 0)) (by (with_reducible repeat (first | refine zkn ?_ _ | refine zkd ?_ | refine zka ?_ _)); refine blk_far ?_ NB104_108.out _; (with_reducible repeat (first | refine zkn ?_ _ | refine zkd ?_ | refine zka ?_ _)); refine blk_far ?_ NB104_108.out _; (with_reducible repeat (first | refine zkn ?_ _ | refine zkd ?_ | refine zka ?_ _)); exact BK104.out) hb); have n2_ := zam (zkb (g := gb108) (o := .cells #[.int .i64 t105, .int .i64 t106] 32 (0, 0)) (by (with_reducible repeat (first | refine zkn ?_ _ | refine zkd ?_ | refine zka ?_ _)); refine blk_put (cs := #[.int .i64 t105, .int .i64 0]) ?_ 1 _ rfl; (with_reducible repeat (first | refine zkn ?_ _ | refine zkd ?_ | refine zka ?_ _)); refine blk_put (cs := #[.int .i64 0, .int .i64 0]) ?_ 0 _ rfl; (with_reducible repeat (first | refine zkn ?_ _ | refine zkd ?_ | refine zka ?_ _)); exact BK108.out) hb); have n3_ := zam (zbt (by repeat (first | (with_reducible first | exact HB.out | apply zba | apply zbn | apply zb1 | refine zbs ?_ GE104.out | refine zbs ?_ GE108.out) | exact HB.out)) hb); clear BK104; clear BK108; clear HB; have HO111 := n0_; have BK104 := n1_; have BK108 := n2_; have HB := n3_; clear n0_ n1_ n2_ n3_; clear hb ho31; obtain ⟨Ao32, co32, eo32⟩ := Kd.R_slice HO111.out; subst eo32) | ((with_reducible refine zgc (f := 46) rfl ?_); refine goesL_ (some 24) rfl rfl Try.func46 (by kernel_rfl) rfl #[.slice Ao32 y109.length co32] rfl (by (try simp only [zmt, List.map_cons, List.map_nil]); first | done | rfl | (simp only [zld, zlt]; rfl)) ?_; (with_reducible refine (bound_Cover.calls k _ _ y109 t112 t113 _ ?side1 ?side2 A3.out).mono ?_); (case side1 => repeat (first | exact (Kd.R_reads' HO111.out).2.2 | (with_reducible refine Kd.C_alloc ?_ _) | (with_reducible refine Kd.C_drewN ?_ _) | (with_reducible refine Kd.C_drew ?_))); (case side2 => exact (Kd.R_reads' HO111.out).2.1); rintro e w33 ⟨v114, rfl, ho0, hb⟩; refine ⟨_, rfl, ?_⟩; have n0_ := zam (Kd.R_elder' (by (with_reducible repeat (first | apply zRa | apply zRn | apply zRd)); exact HO111.out) (Kd.R_base ho0) hb); have n1_ := zam (Kd.R_lower (Kd.R_newB (Kd.R_newB (Kd.R_new' ho0 (Kd.R_lt (by (with_reducible repeat (first | apply zRa | apply zRn | apply zRd)); exact HO111.out))) (g := gb104) (o := .cells #[.int .i64 t101, .int .i64 t102] 32 (0, 0)) (by (with_reducible repeat (first | refine zkn ?_ _ | refine zkd ?_ | refine zka ?_ _)); exact BK104.out)) (g := gb108) (o := .cells #[.int .i64 t105, .int .i64 t106] 32 (0, 0)) (by (with_reducible repeat (first | refine zkn ?_ _ | refine zkd ?_ | refine zka ?_ _)); exact BK108.out)) (zbz (by repeat (first | (with_reducible first | exact HB.out | apply zba | apply zbn | apply zb1 | refine zbs ?_ GE104.out | refine zbs ?_ GE108.out) | exact HB.out)))); have n2_ := zam (zkb (g := gb104) (o := .cells #[.int .i64 t101, .int .i64 t102] 32 (0, 0)) (by (with_reducible repeat (first | refine zkn ?_ _ | refine zkd ?_ | refine zka ?_ _)); exact BK104.out) hb); have n3_ := zam (zkb (g := gb108) (o := .cells #[.int .i64 t105, .int .i64 t106] 32 (0, 0)) (by (with_reducible repeat (first | refine zkn ?_ _ | refine zkd ?_ | refine zka ?_ _)); exact BK108.out) hb); have n4_ := zam (zbt (by repeat (first | (with_reducible first | exact HB.out | apply zba | apply zbn | apply zb1 | refine zbs ?_ GE104.out | refine zbs ?_ GE108.out) | exact HB.out)) hb); clear HO111; clear BK104; clear BK108; clear HB; have HO111 := n0_; have HO115 := n1_; have BK104 := n2_; have BK108 := n3_; have HB := n4_; clear n0_ n1_ n2_ n3_ n4_; (try clear hb); (try clear hb2); (try clear hk); (try clear hi); (try clear ho0); have hcz34_0 : w33.cell? ⟨gb104, 0, none⟩ = some (.int .i64 t101) := (zkc BK104.out 0).trans rfl; have hcz34_1 : w33.cell? ⟨gb104, 1, none⟩ = some (.int .i64 t102) := (zkc BK104.out 1).trans rfl; have hfz34_0 := zkz BK104.out 0; have hfz34_1 := zkz BK104.out 1; have hcz35_0 : w33.cell? ⟨gb108, 0, none⟩ = some (.int .i64 t105) := (zkc BK108.out 0).trans rfl; have hcz35_1 : w33.cell? ⟨gb108, 1, none⟩ = some (.int .i64 t106) := (zkc BK108.out 1).trans rfl; have hfz35_0 := zkz BK108.out 0; have hfz35_1 := zkz BK108.out 1; obtain ⟨Ao36, co36, eo36⟩ := Kd.R_slice HO115.out; subst eo36))
    go_ret
    exact ⟨by first | rfl | (simp [errW_none, errW_some] <;> rfl) | (simp [*, errW_none, errW_some] <;> rfl), by repeat (first | (with_reducible first | exact HB.out | apply zba | apply zbn | apply zb1 | refine zbs ?_ GE104.out | refine zbs ?_ GE108.out) | exact HB.out)⟩
   rw [if_neg c6] at H
   have c6b0 : (t105 == (-5) && (t106 == (-1))) = false := by simpa using c6
   (try (have c6b1 : decide (t105 = (-5) && (t106 == (-1))) = false := by simpa using c6))
   (try (have c6b2 : (t105 == (-5) && (t106 == (-1))) = false := by simpa using c6))
   (try (have c6b3 : ¬ (t105 = (-5) && (t106 == (-1))) := by simpa using c6))
   clear c6
   obtain rfl := zsi H
   go_enter Try.func18, Try.ntmps18
   go_wp2_with (first | ((with_reducible refine zgc (f := 28) rfl ?_); refine goesL_ (some 10) rfl rfl Try.func28 (by kernel_rfl) rfl #[.agg #[.int .i64 (-3), .int .i64 5], .agg #[.int .i64 2, .int .i64 4]] rfl (by (try simp only [zmt, List.map_cons, List.map_nil]); first | done | rfl | (simp only [zld, zlt]; rfl)) ?_; (with_reducible refine (bound_Mul.calls k (-3) 5 2 4 t101 t102 t103 _ A1.out).mono ?_); rintro e w37 ⟨rfl, hb⟩; refine ⟨_, rfl, ?_⟩; have n0_ := zam (zbt (by repeat (first | (with_reducible first | exact HB.out | apply zba | apply zbn | apply zb1) | exact HB.out)) hb); clear HB; have HB := n0_; clear n0_; (try clear hb); (try clear hb2); (try clear hk); (try clear hi)) | ((with_reducible refine zgd (N := 1) rfl ?_); (try (refine gate_guard (by rfl) ?_; dsimp only)); refine box_event ?hg (N := 1) ?hd (cs := #[.int .i64 0, .int .i64 0]) (t := 32) ?hr ?_; (case hd => rfl); (case hg => rfl); (case hr => first | (go_simp; done) | (go_simp; rfl)); intro gb104 hg w38 hbox hb; have n0_ := zam (zbt (by repeat (first | (with_reducible first | exact HB.out | apply zba | apply zbn | apply zb1) | exact HB.out)) hb); have n1_ := zam (hbox); have n2_ := zam ((by rw [hg]; exact (zbz (by repeat (first | (with_reducible first | exact HB.out | apply zba | apply zbn | apply zb1) | exact HB.out))) : w.heap.size ≤ gb104)); have n3_ := zam ((by rw [hg]; exact (zbz (by repeat (first | (with_reducible first | exact HB.out | apply zba | apply zbn | apply zb1) | exact HB.out))) : w.heap.size ≤ gb104)); clear HB; have HB := n0_; have BK104 := n1_; have GW104 := n2_; have GE104 := n3_; clear n0_ n1_ n2_ n3_; clear hb hbox hg; have hcz39_0 : w38.cell? ⟨gb104, 0, none⟩ = some (.int .i64 0) := (zkc BK104.out 0).trans rfl; have hcz39_1 : w38.cell? ⟨gb104, 1, none⟩ = some (.int .i64 0) := (zkc BK104.out 1).trans rfl; have hfz39_0 := zkz BK104.out 0; have hfz39_1 := zkz BK104.out 1) | ((with_reducible refine zgc (f := 61) rfl ?_); refine goesL_ (some 16) rfl rfl Try.func61 (by kernel_rfl) rfl #[.agg #[.int .i64 7, .int .i64 9], .agg #[.int .i64 (-4), .int .i64 (-2)]] rfl (by (try simp only [zmt, List.map_cons, List.map_nil]); first | done | rfl | (simp only [zld, zlt]; rfl)) ?_; (with_reducible refine (bound_Div.calls k 7 9 (-4) (-2) t105 t106 t107 _ A2.out).mono ?_); rintro e w40 ⟨rfl, hb⟩; refine ⟨_, rfl, ?_⟩; have n0_ := zam (zkb (g := gb104) (o := .cells #[.int .i64 t101, .int .i64 t102] 32 (0, 0)) (by (with_reducible repeat (first | refine zkn ?_ _ | refine zkd ?_ | refine zka ?_ _)); refine blk_put (cs := #[.int .i64 t101, .int .i64 0]) ?_ 1 _ rfl; (with_reducible repeat (first | refine zkn ?_ _ | refine zkd ?_ | refine zka ?_ _)); refine blk_put (cs := #[.int .i64 0, .int .i64 0]) ?_ 0 _ rfl; (with_reducible repeat (first | refine zkn ?_ _ | refine zkd ?_ | refine zka ?_ _)); exact BK104.out) hb); have n1_ := zam (zbt (by repeat (first | (with_reducible first | exact HB.out | apply zba | apply zbn | apply zb1 | refine zbs ?_ GE104.out) | exact HB.out)) hb); clear BK104; clear HB; have BK104 := n0_; have HB := n1_; clear n0_ n1_; (try clear hb); (try clear hb2); (try clear hk); (try clear hi)) | ((with_reducible refine zgd (N := 3) rfl ?_); (try (refine gate_guard (by rfl) ?_; dsimp only)); refine box_event ?hg (N := 3) ?hd (cs := #[.int .i64 0, .int .i64 0]) (t := 32) ?hr ?_; (case hd => rfl); (case hg => rfl); (case hr => first | (go_simp; done) | (go_simp; rfl)); intro gb108 hg w41 hbox hb; have n0_ := zam (zkb (g := gb104) (o := .cells #[.int .i64 t101, .int .i64 t102] 32 (0, 0)) (by (with_reducible repeat (first | refine zkn ?_ _ | refine zkd ?_ | refine zka ?_ _)); exact BK104.out) hb); have n1_ := zam (zbt (by repeat (first | (with_reducible first | exact HB.out | apply zba | apply zbn | apply zb1 | refine zbs ?_ GE104.out) | exact HB.out)) hb); have n2_ := zam (hbox); have n3_ := zam ((by rw [hg]; exact (zbz (by repeat (first | (with_reducible first | exact HB.out | apply zba | apply zbn | apply zb1 | refine zbs ?_ GE104.out) | exact HB.out))) : w.heap.size ≤ gb108)); have n4_ := zam ((by rw [hg]; exact (zbz (by repeat (first | (with_reducible first | exact HB.out | apply zba | apply zbn | apply zb1 | refine zbs ?_ GE104.out) | exact HB.out))) : w.heap.size ≤ gb108)); have n5_ := zam ((by rw [hg]; exact Nat.ne_of_lt (blk_lt (g := gb104) (o := .cells #[.int .i64 t101, .int .i64 t102] 32 (0, 0)) (by (with_reducible repeat (first | refine zkn ?_ _ | refine zkd ?_ | refine zka ?_ _)); exact BK104.out)) : gb104 ≠ gb108)); have n6_ := zam ((by rw [hg]; exact Nat.ne_of_gt (blk_lt (g := gb104) (o := .cells #[.int .i64 t101, .int .i64 t102] 32 (0, 0)) (by (with_reducible repeat (first | refine zkn ?_ _ | refine zkd ?_ | refine zka ?_ _)); exact BK104.out)) : gb108 ≠ gb104)); clear BK104; clear HB; have BK104 := n0_; have HB := n1_; have BK108 := n2_; have GW108 := n3_; have GE108 := n4_; have NB104_108 := n5_; have NB108_104 := n6_; clear n0_ n1_ n2_ n3_ n4_ n5_ n6_; clear hb hbox hg; have hnb42 := NB108_104.out; have hnc42 := NB104_108.out; have hcz43_0 : w41.cell? ⟨gb108, 0, none⟩ = some (.int .i64 0) := (zkc BK108.out 0).trans rfl; have hcz43_1 : w41.cell? ⟨gb108, 1, none⟩ = some (.int .i64 0) := (zkc BK108.out 1).trans rfl; have hfz43_0 := zkz BK108.out 0; have hfz43_1 := zkz BK108.out 1) | ((with_reducible refine zgd (N := 23) rfl ?_); (try (refine gate_guard (by rfl) ?_; dsimp only)); refine Kd.R_lit k32 _ 32 ?hg (N := 23) ?hd (xs := ([(⟨5, 6⟩ : S32), (⟨1, 2⟩ : S32), (⟨3, 3⟩ : S32)] : List (S32))) (inner := [.int .i64 5, .int .i64 6, .int .i64 1, .int .i64 2, .int .i64 3, .int .i64 3]) (ok := fun _ => True) (okp := fun _ => True) ?hr ?hp (fun _ hk => hk) trivial (Below.refl _ _) (Nat.le_refl _) (by simp) ?_; (case hd => rfl); (case hg => rfl); (case hr => first | (go_simp; done) | (go_simp; rfl)); (case hp => exact (Reps.c2 (show Kd.M k32 _ _ _ (⟨5, 6⟩ : S32) [.int .i64 5, .int .i64 6] from (k32_mkM _ _ _ (⟨5, 6⟩ : S32) )) (Reps.c2 (show Kd.M k32 _ _ _ (⟨1, 2⟩ : S32) [.int .i64 1, .int .i64 2] from (k32_mkM _ _ _ (⟨1, 2⟩ : S32) )) (Reps.c2 (show Kd.M k32 _ _ _ (⟨3, 3⟩ : S32) [.int .i64 3, .int .i64 3] from (k32_mkM _ _ _ (⟨3, 3⟩ : S32) )) (Reps.none _ _))))); intro v110 w44 ho45 hb hg_ hnew_; clear hg_ hnew_; (first | rw [← Ny109.out] at ho45 | (simp only [Int.reduceToNat] at ho45; rw [← Ny109.out] at ho45)); have n0_ := zam (Kd.R_lower (Kd.R_newB (Kd.R_newB ho45 (g := gb104) (o := .cells #[.int .i64 t101, .int .i64 t102] 32 (0, 0)) (by (with_reducible repeat (first | refine zkn ?_ _ | refine zkd ?_ | refine zka ?_ _)); refine blk_far ?_ NB104_108.out _; (with_reducible repeat (first | refine zkn ?_ _ | refine zkd ?_ | refine zka ?_ _)); refine blk_far ?_ NB104_108.out _; (with_reducible repeat (first | refine zkn ?_ _ | refine zkd ?_ | refine zka ?_ _)); exact BK104.out)) (g := gb108) (o := .cells #[.int .i64 t105, .int .i64 t106] 32 (0, 0)) (by (with_reducible repeat (first | refine zkn ?_ _ | refine zkd ?_ | refine zka ?_ _)); refine blk_put (cs := #[.int .i64 t105, .int .i64 0]) ?_ 1 _ rfl; (with_reducible repeat (first | refine zkn ?_ _ | refine zkd ?_ | refine zka ?_ _)); refine blk_put (cs := #[.int .i64 0, .int .i64 0]) ?_ 0 _ rfl; (with_reducible repeat (first | refine zkn ?_ _ | refine zkd ?_ | refine zka ?_ _)); exact BK108.out)) (zbz (by repeat (first | (with_reducible first | exact HB.out | apply zba | apply zbn | apply zb1 | refine zbs ?_ GE104.out | refine zbs ?_ GE108.out) | exact HB.out)))); have n1_ := zam (zkb (g := gb104) (o := .cells #[.int .i64 t101, .int .i64 t102] 32 (0, 0)) (by (with_reducible repeat (first | refine zkn ?_ _ | refine zkd ?_ | refine zka ?_ _)); refine blk_far ?_ NB104_108.out _; (with_reducible repeat (first | refine zkn ?_ _ | refine zkd ?_ | refine zka ?_ _)); refine blk_far ?_ NB104_108.out _; (with_reducible repeat (first | refine zkn ?_ _ | refine zkd ?_ | refine zka ?_ _)); exact BK104.out) hb); have n2_ := zam (zkb (g := gb108) (o := .cells #[.int .i64 t105, .int .i64 t106] 32 (0, 0)) (by (with_reducible repeat (first | refine zkn ?_ _ | refine zkd ?_ | refine zka ?_ _)); refine blk_put (cs := #[.int .i64 t105, .int .i64 0]) ?_ 1 _ rfl; (with_reducible repeat (first | refine zkn ?_ _ | refine zkd ?_ | refine zka ?_ _)); refine blk_put (cs := #[.int .i64 0, .int .i64 0]) ?_ 0 _ rfl; (with_reducible repeat (first | refine zkn ?_ _ | refine zkd ?_ | refine zka ?_ _)); exact BK108.out) hb); have n3_ := zam (zbt (by repeat (first | (with_reducible first | exact HB.out | apply zba | apply zbn | apply zb1 | refine zbs ?_ GE104.out | refine zbs ?_ GE108.out) | exact HB.out)) hb); clear BK104; clear BK108; clear HB; have HO111 := n0_; have BK104 := n1_; have BK108 := n2_; have HB := n3_; clear n0_ n1_ n2_ n3_; clear hb ho45; obtain ⟨Ao46, co46, eo46⟩ := Kd.R_slice HO111.out; subst eo46) | ((with_reducible refine zgc (f := 46) rfl ?_); refine goesL_ (some 24) rfl rfl Try.func46 (by kernel_rfl) rfl #[.slice Ao46 y109.length co46] rfl (by (try simp only [zmt, List.map_cons, List.map_nil]); first | done | rfl | (simp only [zld, zlt]; rfl)) ?_; (with_reducible refine (bound_Cover.calls k _ _ y109 t112 t113 _ ?side1 ?side2 A3.out).mono ?_); (case side1 => repeat (first | exact (Kd.R_reads' HO111.out).2.2 | (with_reducible refine Kd.C_alloc ?_ _) | (with_reducible refine Kd.C_drewN ?_ _) | (with_reducible refine Kd.C_drew ?_))); (case side2 => exact (Kd.R_reads' HO111.out).2.1); rintro e w47 ⟨v114, rfl, ho0, hb⟩; refine ⟨_, rfl, ?_⟩; have n0_ := zam (Kd.R_elder' (by (with_reducible repeat (first | apply zRa | apply zRn | apply zRd)); exact HO111.out) (Kd.R_base ho0) hb); have n1_ := zam (Kd.R_lower (Kd.R_newB (Kd.R_newB (Kd.R_new' ho0 (Kd.R_lt (by (with_reducible repeat (first | apply zRa | apply zRn | apply zRd)); exact HO111.out))) (g := gb104) (o := .cells #[.int .i64 t101, .int .i64 t102] 32 (0, 0)) (by (with_reducible repeat (first | refine zkn ?_ _ | refine zkd ?_ | refine zka ?_ _)); exact BK104.out)) (g := gb108) (o := .cells #[.int .i64 t105, .int .i64 t106] 32 (0, 0)) (by (with_reducible repeat (first | refine zkn ?_ _ | refine zkd ?_ | refine zka ?_ _)); exact BK108.out)) (zbz (by repeat (first | (with_reducible first | exact HB.out | apply zba | apply zbn | apply zb1 | refine zbs ?_ GE104.out | refine zbs ?_ GE108.out) | exact HB.out)))); have n2_ := zam (zkb (g := gb104) (o := .cells #[.int .i64 t101, .int .i64 t102] 32 (0, 0)) (by (with_reducible repeat (first | refine zkn ?_ _ | refine zkd ?_ | refine zka ?_ _)); exact BK104.out) hb); have n3_ := zam (zkb (g := gb108) (o := .cells #[.int .i64 t105, .int .i64 t106] 32 (0, 0)) (by (with_reducible repeat (first | refine zkn ?_ _ | refine zkd ?_ | refine zka ?_ _)); exact BK108.out) hb); have n4_ := zam (zbt (by repeat (first | (with_reducible first | exact HB.out | apply zba | apply zbn | apply zb1 | refine zbs ?_ GE104.out | refine zbs ?_ GE108.out) | exact HB.out)) hb); clear HO111; clear BK104; clear BK108; clear HB; have HO111 := n0_; have HO115 := n1_; have BK104 := n2_; have BK108 := n3_; have HB := n4_; clear n0_ n1_ n2_ n3_ n4_; (try clear hb); (try clear hb2); (try clear hk); (try clear hi); (try clear ho0); have hcz48_0 : w47.cell? ⟨gb104, 0, none⟩ = some (.int .i64 t101) := (zkc BK104.out 0).trans rfl; have hcz48_1 : w47.cell? ⟨gb104, 1, none⟩ = some (.int .i64 t102) := (zkc BK104.out 1).trans rfl; have hfz48_0 := zkz BK104.out 0; have hfz48_1 := zkz BK104.out 1; have hcz49_0 : w47.cell? ⟨gb108, 0, none⟩ = some (.int .i64 t105) := (zkc BK108.out 0).trans rfl; have hcz49_1 : w47.cell? ⟨gb108, 1, none⟩ = some (.int .i64 t106) := (zkc BK108.out 1).trans rfl; have hfz49_0 := zkz BK108.out 0; have hfz49_1 := zkz BK108.out 1))
   go_ret
   exact ⟨by first | rfl | (simp [errW_none, errW_some] <;> rfl) | (simp [*, errW_none, errW_some] <;> rfl), by repeat (first | (with_reducible first | exact HB.out | apply zba | apply zbn | apply zb1 | refine zbs ?_ GE104.out | refine zbs ?_ GE108.out) | exact HB.out)⟩
  rw [if_neg c5] at H
  have c5b0 : (t101 == (-12) && (t102 == 20)) = false := by simpa using c5
  (try (have c5b1 : decide (t101 = (-12) && (t102 == 20)) = false := by simpa using c5))
  (try (have c5b2 : (t101 == (-12) && (t102 == 20)) = false := by simpa using c5))
  (try (have c5b3 : ¬ (t101 = (-12) && (t102 == 20)) := by simpa using c5))
  clear c5
  obtain rfl := zsi H
  go_enter Try.func18, Try.ntmps18
  go_wp2_with (first | ((with_reducible refine zgc (f := 28) rfl ?_); refine goesL_ (some 10) rfl rfl Try.func28 (by kernel_rfl) rfl #[.agg #[.int .i64 (-3), .int .i64 5], .agg #[.int .i64 2, .int .i64 4]] rfl (by (try simp only [zmt, List.map_cons, List.map_nil]); first | done | rfl | (simp only [zld, zlt]; rfl)) ?_; (with_reducible refine (bound_Mul.calls k (-3) 5 2 4 t101 t102 t103 _ A1.out).mono ?_); rintro e w50 ⟨rfl, hb⟩; refine ⟨_, rfl, ?_⟩; have n0_ := zam (zbt (by repeat (first | (with_reducible first | exact HB.out | apply zba | apply zbn | apply zb1) | exact HB.out)) hb); clear HB; have HB := n0_; clear n0_; (try clear hb); (try clear hb2); (try clear hk); (try clear hi)) | ((with_reducible refine zgd (N := 1) rfl ?_); (try (refine gate_guard (by rfl) ?_; dsimp only)); refine box_event ?hg (N := 1) ?hd (cs := #[.int .i64 0, .int .i64 0]) (t := 32) ?hr ?_; (case hd => rfl); (case hg => rfl); (case hr => first | (go_simp; done) | (go_simp; rfl)); intro gb104 hg w51 hbox hb; have n0_ := zam (zbt (by repeat (first | (with_reducible first | exact HB.out | apply zba | apply zbn | apply zb1) | exact HB.out)) hb); have n1_ := zam (hbox); have n2_ := zam ((by rw [hg]; exact (zbz (by repeat (first | (with_reducible first | exact HB.out | apply zba | apply zbn | apply zb1) | exact HB.out))) : w.heap.size ≤ gb104)); have n3_ := zam ((by rw [hg]; exact (zbz (by repeat (first | (with_reducible first | exact HB.out | apply zba | apply zbn | apply zb1) | exact HB.out))) : w.heap.size ≤ gb104)); clear HB; have HB := n0_; have BK104 := n1_; have GW104 := n2_; have GE104 := n3_; clear n0_ n1_ n2_ n3_; clear hb hbox hg; have hcz52_0 : w51.cell? ⟨gb104, 0, none⟩ = some (.int .i64 0) := (zkc BK104.out 0).trans rfl; have hcz52_1 : w51.cell? ⟨gb104, 1, none⟩ = some (.int .i64 0) := (zkc BK104.out 1).trans rfl; have hfz52_0 := zkz BK104.out 0; have hfz52_1 := zkz BK104.out 1) | ((with_reducible refine zgc (f := 61) rfl ?_); refine goesL_ (some 16) rfl rfl Try.func61 (by kernel_rfl) rfl #[.agg #[.int .i64 7, .int .i64 9], .agg #[.int .i64 (-4), .int .i64 (-2)]] rfl (by (try simp only [zmt, List.map_cons, List.map_nil]); first | done | rfl | (simp only [zld, zlt]; rfl)) ?_; (with_reducible refine (bound_Div.calls k 7 9 (-4) (-2) t105 t106 t107 _ A2.out).mono ?_); rintro e w53 ⟨rfl, hb⟩; refine ⟨_, rfl, ?_⟩; have n0_ := zam (zkb (g := gb104) (o := .cells #[.int .i64 t101, .int .i64 t102] 32 (0, 0)) (by (with_reducible repeat (first | refine zkn ?_ _ | refine zkd ?_ | refine zka ?_ _)); refine blk_put (cs := #[.int .i64 t101, .int .i64 0]) ?_ 1 _ rfl; (with_reducible repeat (first | refine zkn ?_ _ | refine zkd ?_ | refine zka ?_ _)); refine blk_put (cs := #[.int .i64 0, .int .i64 0]) ?_ 0 _ rfl; (with_reducible repeat (first | refine zkn ?_ _ | refine zkd ?_ | refine zka ?_ _)); exact BK104.out) hb); have n1_ := zam (zbt (by repeat (first | (with_reducible first | exact HB.out | apply zba | apply zbn | apply zb1 | refine zbs ?_ GE104.out) | exact HB.out)) hb); clear BK104; clear HB; have BK104 := n0_; have HB := n1_; clear n0_ n1_; (try clear hb); (try clear hb2); (try clear hk); (try clear hi)) | ((with_reducible refine zgd (N := 3) rfl ?_); (try (refine gate_guard (by rfl) ?_; dsimp only)); refine box_event ?hg (N := 3) ?hd (cs := #[.int .i64 0, .int .i64 0]) (t := 32) ?hr ?_; (case hd => rfl); (case hg => rfl); (case hr => first | (go_simp; done) | (go_simp; rfl)); intro gb108 hg w54 hbox hb; have n0_ := zam (zkb (g := gb104) (o := .cells #[.int .i64 t101, .int .i64 t102] 32 (0, 0)) (by (with_reducible repeat (first | refine zkn ?_ _ | refine zkd ?_ | refine zka ?_ _)); exact BK104.out) hb); have n1_ := zam (zbt (by repeat (first | (with_reducible first | exact HB.out | apply zba | apply zbn | apply zb1 | refine zbs ?_ GE104.out) | exact HB.out)) hb); have n2_ := zam (hbox); have n3_ := zam ((by rw [hg]; exact (zbz (by repeat (first | (with_reducible first | exact HB.out | apply zba | apply zbn | apply zb1 | refine zbs ?_ GE104.out) | exact HB.out))) : w.heap.size ≤ gb108)); have n4_ := zam ((by rw [hg]; exact (zbz (by repeat (first | (with_reducible first | exact HB.out | apply zba | apply zbn | apply zb1 | refine zbs ?_ GE104.out) | exact HB.out))) : w.heap.size ≤ gb108)); have n5_ := zam ((by rw [hg]; exact Nat.ne_of_lt (blk_lt (g := gb104) (o := .cells #[.int .i64 t101, .int .i64 t102] 32 (0, 0)) (by (with_reducible repeat (first | refine zkn ?_ _ | refine zkd ?_ | refine zka ?_ _)); exact BK104.out)) : gb104 ≠ gb108)); have n6_ := zam ((by rw [hg]; exact Nat.ne_of_gt (blk_lt (g := gb104) (o := .cells #[.int .i64 t101, .int .i64 t102] 32 (0, 0)) (by (with_reducible repeat (first | refine zkn ?_ _ | refine zkd ?_ | refine zka ?_ _)); exact BK104.out)) : gb108 ≠ gb104)); clear BK104; clear HB; have BK104 := n0_; have HB := n1_; have BK108 := n2_; have GW108 := n3_; have GE108 := n4_; have NB104_108 := n5_; have NB108_104 := n6_; clear n0_ n1_ n2_ n3_ n4_ n5_ n6_; clear hb hbox hg; have hnb55 := NB108_104.out; have hnc55 := NB104_108.out; have hcz56_0 : w54.cell? ⟨gb108, 0, none⟩ = some (.int .i64 0) := (zkc BK108.out 0).trans rfl; have hcz56_1 : w54.cell? ⟨gb108, 1, none⟩ = some (.int .i64 0) := (zkc BK108.out 1).trans rfl; have hfz56_0 := zkz BK108.out 0; have hfz56_1 := zkz BK108.out 1) | ((with_reducible refine zgd (N := 23) rfl ?_); (try (refine gate_guard (by rfl) ?_; dsimp only)); refine Kd.R_lit k32 _ 32 ?hg (N := 23) ?hd (xs := ([(⟨5, 6⟩ : S32), (⟨1, 2⟩ : S32), (⟨3, 3⟩ : S32)] : List (S32))) (inner := [.int .i64 5, .int .i64 6, .int .i64 1, .int .i64 2, .int .i64 3, .int .i64 3]) (ok := fun _ => True) (okp := fun _ => True) ?hr ?hp (fun _ hk => hk) trivial (Below.refl _ _) (Nat.le_refl _) (by simp) ?_; (case hd => rfl); (case hg => rfl); (case hr => first | (go_simp; done) | (go_simp; rfl)); (case hp => exact (Reps.c2 (show Kd.M k32 _ _ _ (⟨5, 6⟩ : S32) [.int .i64 5, .int .i64 6] from (k32_mkM _ _ _ (⟨5, 6⟩ : S32) )) (Reps.c2 (show Kd.M k32 _ _ _ (⟨1, 2⟩ : S32) [.int .i64 1, .int .i64 2] from (k32_mkM _ _ _ (⟨1, 2⟩ : S32) )) (Reps.c2 (show Kd.M k32 _ _ _ (⟨3, 3⟩ : S32) [.int .i64 3, .int .i64 3] from (k32_mkM _ _ _ (⟨3, 3⟩ : S32) )) (Reps.none _ _))))); intro v110 w57 ho58 hb hg_ hnew_; clear hg_ hnew_; (first | rw [← Ny109.out] at ho58 | (simp only [Int.reduceToNat] at ho58; rw [← Ny109.out] at ho58)); have n0_ := zam (Kd.R_lower (Kd.R_newB (Kd.R_newB ho58 (g := gb104) (o := .cells #[.int .i64 t101, .int .i64 t102] 32 (0, 0)) (by (with_reducible repeat (first | refine zkn ?_ _ | refine zkd ?_ | refine zka ?_ _)); refine blk_far ?_ NB104_108.out _; (with_reducible repeat (first | refine zkn ?_ _ | refine zkd ?_ | refine zka ?_ _)); refine blk_far ?_ NB104_108.out _; (with_reducible repeat (first | refine zkn ?_ _ | refine zkd ?_ | refine zka ?_ _)); exact BK104.out)) (g := gb108) (o := .cells #[.int .i64 t105, .int .i64 t106] 32 (0, 0)) (by (with_reducible repeat (first | refine zkn ?_ _ | refine zkd ?_ | refine zka ?_ _)); refine blk_put (cs := #[.int .i64 t105, .int .i64 0]) ?_ 1 _ rfl; (with_reducible repeat (first | refine zkn ?_ _ | refine zkd ?_ | refine zka ?_ _)); refine blk_put (cs := #[.int .i64 0, .int .i64 0]) ?_ 0 _ rfl; (with_reducible repeat (first | refine zkn ?_ _ | refine zkd ?_ | refine zka ?_ _)); exact BK108.out)) (zbz (by repeat (first | (with_reducible first | exact HB.out | apply zba | apply zbn | apply zb1 | refine zbs ?_ GE104.out | refine zbs ?_ GE108.out) | exact HB.out)))); have n1_ := zam (zkb (g := gb104) (o := .cells #[.int .i64 t101, .int .i64 t102] 32 (0, 0)) (by (with_reducible repeat (first | refine zkn ?_ _ | refine zkd ?_ | refine zka ?_ _)); refine blk_far ?_ NB104_108.out _; (with_reducible repeat (first | refine zkn ?_ _ | refine zkd ?_ | refine zka ?_ _)); refine blk_far ?_ NB104_108.out _; (with_reducible repeat (first | refine zkn ?_ _ | refine zkd ?_ | refine zka ?_ _)); exact BK104.out) hb); have n2_ := zam (zkb (g := gb108) (o := .cells #[.int .i64 t105, .int .i64 t106] 32 (0, 0)) (by (with_reducible repeat (first | refine zkn ?_ _ | refine zkd ?_ | refine zka ?_ _)); refine blk_put (cs := #[.int .i64 t105, .int .i64 0]) ?_ 1 _ rfl; (with_reducible repeat (first | refine zkn ?_ _ | refine zkd ?_ | refine zka ?_ _)); refine blk_put (cs := #[.int .i64 0, .int .i64 0]) ?_ 0 _ rfl; (with_reducible repeat (first | refine zkn ?_ _ | refine zkd ?_ | refine zka ?_ _)); exact BK108.out) hb); have n3_ := zam (zbt (by repeat (first | (with_reducible first | exact HB.out | apply zba | apply zbn | apply zb1 | refine zbs ?_ GE104.out | refine zbs ?_ GE108.out) | exact HB.out)) hb); clear BK104; clear BK108; clear HB; have HO111 := n0_; have BK104 := n1_; have BK108 := n2_; have HB := n3_; clear n0_ n1_ n2_ n3_; clear hb ho58; obtain ⟨Ao59, co59, eo59⟩ := Kd.R_slice HO111.out; subst eo59) | ((with_reducible refine zgc (f := 46) rfl ?_); refine goesL_ (some 24) rfl rfl Try.func46 (by kernel_rfl) rfl #[.slice Ao59 y109.length co59] rfl (by (try simp only [zmt, List.map_cons, List.map_nil]); first | done | rfl | (simp only [zld, zlt]; rfl)) ?_; (with_reducible refine (bound_Cover.calls k _ _ y109 t112 t113 _ ?side1 ?side2 A3.out).mono ?_); (case side1 => repeat (first | exact (Kd.R_reads' HO111.out).2.2 | (with_reducible refine Kd.C_alloc ?_ _) | (with_reducible refine Kd.C_drewN ?_ _) | (with_reducible refine Kd.C_drew ?_))); (case side2 => exact (Kd.R_reads' HO111.out).2.1); rintro e w60 ⟨v114, rfl, ho0, hb⟩; refine ⟨_, rfl, ?_⟩; have n0_ := zam (Kd.R_elder' (by (with_reducible repeat (first | apply zRa | apply zRn | apply zRd)); exact HO111.out) (Kd.R_base ho0) hb); have n1_ := zam (Kd.R_lower (Kd.R_newB (Kd.R_newB (Kd.R_new' ho0 (Kd.R_lt (by (with_reducible repeat (first | apply zRa | apply zRn | apply zRd)); exact HO111.out))) (g := gb104) (o := .cells #[.int .i64 t101, .int .i64 t102] 32 (0, 0)) (by (with_reducible repeat (first | refine zkn ?_ _ | refine zkd ?_ | refine zka ?_ _)); exact BK104.out)) (g := gb108) (o := .cells #[.int .i64 t105, .int .i64 t106] 32 (0, 0)) (by (with_reducible repeat (first | refine zkn ?_ _ | refine zkd ?_ | refine zka ?_ _)); exact BK108.out)) (zbz (by repeat (first | (with_reducible first | exact HB.out | apply zba | apply zbn | apply zb1 | refine zbs ?_ GE104.out | refine zbs ?_ GE108.out) | exact HB.out)))); have n2_ := zam (zkb (g := gb104) (o := .cells #[.int .i64 t101, .int .i64 t102] 32 (0, 0)) (by (with_reducible repeat (first | refine zkn ?_ _ | refine zkd ?_ | refine zka ?_ _)); exact BK104.out) hb); have n3_ := zam (zkb (g := gb108) (o := .cells #[.int .i64 t105, .int .i64 t106] 32 (0, 0)) (by (with_reducible repeat (first | refine zkn ?_ _ | refine zkd ?_ | refine zka ?_ _)); exact BK108.out) hb); have n4_ := zam (zbt (by repeat (first | (with_reducible first | exact HB.out | apply zba | apply zbn | apply zb1 | refine zbs ?_ GE104.out | refine zbs ?_ GE108.out) | exact HB.out)) hb); clear HO111; clear BK104; clear BK108; clear HB; have HO111 := n0_; have HO115 := n1_; have BK104 := n2_; have BK108 := n3_; have HB := n4_; clear n0_ n1_ n2_ n3_ n4_; (try clear hb); (try clear hb2); (try clear hk); (try clear hi); (try clear ho0); have hcz61_0 : w60.cell? ⟨gb104, 0, none⟩ = some (.int .i64 t101) := (zkc BK104.out 0).trans rfl; have hcz61_1 : w60.cell? ⟨gb104, 1, none⟩ = some (.int .i64 t102) := (zkc BK104.out 1).trans rfl; have hfz61_0 := zkz BK104.out 0; have hfz61_1 := zkz BK104.out 1))
  go_ret
  exact ⟨by first | rfl | (simp [errW_none, errW_some] <;> rfl) | (simp [*, errW_none, errW_some] <;> rfl), by repeat (first | (with_reducible first | exact HB.out | apply zba | apply zbn | apply zb1 | refine zbs ?_ GE104.out | refine zbs ?_ GE108.out) | exact HB.out)⟩
 rw [if_neg c4] at H
 have c4b0 : ((wrap64 ((wrap64 (t103 + t107)) + t113)) == 0) = false := beq_eq_false_iff_ne.mpr c4
 have c4b1 : ((wrap64 ((wrap64 (t103 + t107)) + t113)) != 0) = true := bne_iff_ne.mpr c4
 obtain rfl := zsi H
 go_enter Try.func18, Try.ntmps18
 go_wp2_with (first | ((with_reducible refine zgc (f := 28) rfl ?_); refine goesL_ (some 10) rfl rfl Try.func28 (by kernel_rfl) rfl #[.agg #[.int .i64 (-3), .int .i64 5], .agg #[.int .i64 2, .int .i64 4]] rfl (by (try simp only [zmt, List.map_cons, List.map_nil]); first | done | rfl | (simp only [zld, zlt]; rfl)) ?_; (with_reducible refine (bound_Mul.calls k (-3) 5 2 4 t101 t102 t103 _ A1.out).mono ?_); rintro e w62 ⟨rfl, hb⟩; refine ⟨_, rfl, ?_⟩; have n0_ := zam (zbt (by repeat (first | (with_reducible first | exact HB.out | apply zba | apply zbn | apply zb1) | exact HB.out)) hb); clear HB; have HB := n0_; clear n0_; (try clear hb); (try clear hb2); (try clear hk); (try clear hi)) | ((with_reducible refine zgd (N := 1) rfl ?_); (try (refine gate_guard (by rfl) ?_; dsimp only)); refine box_event ?hg (N := 1) ?hd (cs := #[.int .i64 0, .int .i64 0]) (t := 32) ?hr ?_; (case hd => rfl); (case hg => rfl); (case hr => first | (go_simp; done) | (go_simp; rfl)); intro gb104 hg w63 hbox hb; have n0_ := zam (zbt (by repeat (first | (with_reducible first | exact HB.out | apply zba | apply zbn | apply zb1) | exact HB.out)) hb); have n1_ := zam (hbox); have n2_ := zam ((by rw [hg]; exact (zbz (by repeat (first | (with_reducible first | exact HB.out | apply zba | apply zbn | apply zb1) | exact HB.out))) : w.heap.size ≤ gb104)); have n3_ := zam ((by rw [hg]; exact (zbz (by repeat (first | (with_reducible first | exact HB.out | apply zba | apply zbn | apply zb1) | exact HB.out))) : w.heap.size ≤ gb104)); clear HB; have HB := n0_; have BK104 := n1_; have GW104 := n2_; have GE104 := n3_; clear n0_ n1_ n2_ n3_; clear hb hbox hg; have hcz64_0 : w63.cell? ⟨gb104, 0, none⟩ = some (.int .i64 0) := (zkc BK104.out 0).trans rfl; have hcz64_1 : w63.cell? ⟨gb104, 1, none⟩ = some (.int .i64 0) := (zkc BK104.out 1).trans rfl; have hfz64_0 := zkz BK104.out 0; have hfz64_1 := zkz BK104.out 1) | ((with_reducible refine zgc (f := 61) rfl ?_); refine goesL_ (some 16) rfl rfl Try.func61 (by kernel_rfl) rfl #[.agg #[.int .i64 7, .int .i64 9], .agg #[.int .i64 (-4), .int .i64 (-2)]] rfl (by (try simp only [zmt, List.map_cons, List.map_nil]); first | done | rfl | (simp only [zld, zlt]; rfl)) ?_; (with_reducible refine (bound_Div.calls k 7 9 (-4) (-2) t105 t106 t107 _ A2.out).mono ?_); rintro e w65 ⟨rfl, hb⟩; refine ⟨_, rfl, ?_⟩; have n0_ := zam (zkb (g := gb104) (o := .cells #[.int .i64 t101, .int .i64 t102] 32 (0, 0)) (by (with_reducible repeat (first | refine zkn ?_ _ | refine zkd ?_ | refine zka ?_ _)); refine blk_put (cs := #[.int .i64 t101, .int .i64 0]) ?_ 1 _ rfl; (with_reducible repeat (first | refine zkn ?_ _ | refine zkd ?_ | refine zka ?_ _)); refine blk_put (cs := #[.int .i64 0, .int .i64 0]) ?_ 0 _ rfl; (with_reducible repeat (first | refine zkn ?_ _ | refine zkd ?_ | refine zka ?_ _)); exact BK104.out) hb); have n1_ := zam (zbt (by repeat (first | (with_reducible first | exact HB.out | apply zba | apply zbn | apply zb1 | refine zbs ?_ GE104.out) | exact HB.out)) hb); clear BK104; clear HB; have BK104 := n0_; have HB := n1_; clear n0_ n1_; (try clear hb); (try clear hb2); (try clear hk); (try clear hi)) | ((with_reducible refine zgd (N := 3) rfl ?_); (try (refine gate_guard (by rfl) ?_; dsimp only)); refine box_event ?hg (N := 3) ?hd (cs := #[.int .i64 0, .int .i64 0]) (t := 32) ?hr ?_; (case hd => rfl); (case hg => rfl); (case hr => first | (go_simp; done) | (go_simp; rfl)); intro gb108 hg w66 hbox hb; have n0_ := zam (zkb (g := gb104) (o := .cells #[.int .i64 t101, .int .i64 t102] 32 (0, 0)) (by (with_reducible repeat (first | refine zkn ?_ _ | refine zkd ?_ | refine zka ?_ _)); exact BK104.out) hb); have n1_ := zam (zbt (by repeat (first | (with_reducible first | exact HB.out | apply zba | apply zbn | apply zb1 | refine zbs ?_ GE104.out) | exact HB.out)) hb); have n2_ := zam (hbox); have n3_ := zam ((by rw [hg]; exact (zbz (by repeat (first | (with_reducible first | exact HB.out | apply zba | apply zbn | apply zb1 | refine zbs ?_ GE104.out) | exact HB.out))) : w.heap.size ≤ gb108)); have n4_ := zam ((by rw [hg]; exact (zbz (by repeat (first | (with_reducible first | exact HB.out | apply zba | apply zbn | apply zb1 | refine zbs ?_ GE104.out) | exact HB.out))) : w.heap.size ≤ gb108)); have n5_ := zam ((by rw [hg]; exact Nat.ne_of_lt (blk_lt (g := gb104) (o := .cells #[.int .i64 t101, .int .i64 t102] 32 (0, 0)) (by (with_reducible repeat (first | refine zkn ?_ _ | refine zkd ?_ | refine zka ?_ _)); exact BK104.out)) : gb104 ≠ gb108)); have n6_ := zam ((by rw [hg]; exact Nat.ne_of_gt (blk_lt (g := gb104) (o := .cells #[.int .i64 t101, .int .i64 t102] 32 (0, 0)) (by (with_reducible repeat (first | refine zkn ?_ _ | refine zkd ?_ | refine zka ?_ _)); exact BK104.out)) : gb108 ≠ gb104)); clear BK104; clear HB; have BK104 := n0_; have HB := n1_; have BK108 := n2_; have GW108 := n3_; have GE108 := n4_; have NB104_108 := n5_; have NB108_104 := n6_; clear n0_ n1_ n2_ n3_ n4_ n5_ n6_; clear hb hbox hg; have hnb67 := NB108_104.out; have hnc67 := NB104_108.out; have hcz68_0 : w66.cell? ⟨gb108, 0, none⟩ = some (.int .i64 0) := (zkc BK108.out 0).trans rfl; have hcz68_1 : w66.cell? ⟨gb108, 1, none⟩ = some (.int .i64 0) := (zkc BK108.out 1).trans rfl; have hfz68_0 := zkz BK108.out 0; have hfz68_1 := zkz BK108.out 1) | ((with_reducible refine zgd (N := 23) rfl ?_); (try (refine gate_guard (by rfl) ?_; dsimp only)); refine Kd.R_lit k32 _ 32 ?hg (N := 23) ?hd (xs := ([(⟨5, 6⟩ : S32), (⟨1, 2⟩ : S32), (⟨3, 3⟩ : S32)] : List (S32))) (inner := [.int .i64 5, .int .i64 6, .int .i64 1, .int .i64 2, .int .i64 3, .int .i64 3]) (ok := fun _ => True) (okp := fun _ => True) ?hr ?hp (fun _ hk => hk) trivial (Below.refl _ _) (Nat.le_refl _) (by simp) ?_; (case hd => rfl); (case hg => rfl); (case hr => first | (go_simp; done) | (go_simp; rfl)); (case hp => exact (Reps.c2 (show Kd.M k32 _ _ _ (⟨5, 6⟩ : S32) [.int .i64 5, .int .i64 6] from (k32_mkM _ _ _ (⟨5, 6⟩ : S32) )) (Reps.c2 (show Kd.M k32 _ _ _ (⟨1, 2⟩ : S32) [.int .i64 1, .int .i64 2] from (k32_mkM _ _ _ (⟨1, 2⟩ : S32) )) (Reps.c2 (show Kd.M k32 _ _ _ (⟨3, 3⟩ : S32) [.int .i64 3, .int .i64 3] from (k32_mkM _ _ _ (⟨3, 3⟩ : S32) )) (Reps.none _ _))))); intro v110 w69 ho70 hb hg_ hnew_; clear hg_ hnew_; (first | rw [← Ny109.out] at ho70 | (simp only [Int.reduceToNat] at ho70; rw [← Ny109.out] at ho70)); have n0_ := zam (Kd.R_lower (Kd.R_newB (Kd.R_newB ho70 (g := gb104) (o := .cells #[.int .i64 t101, .int .i64 t102] 32 (0, 0)) (by (with_reducible repeat (first | refine zkn ?_ _ | refine zkd ?_ | refine zka ?_ _)); refine blk_far ?_ NB104_108.out _; (with_reducible repeat (first | refine zkn ?_ _ | refine zkd ?_ | refine zka ?_ _)); refine blk_far ?_ NB104_108.out _; (with_reducible repeat (first | refine zkn ?_ _ | refine zkd ?_ | refine zka ?_ _)); exact BK104.out)) (g := gb108) (o := .cells #[.int .i64 t105, .int .i64 t106] 32 (0, 0)) (by (with_reducible repeat (first | refine zkn ?_ _ | refine zkd ?_ | refine zka ?_ _)); refine blk_put (cs := #[.int .i64 t105, .int .i64 0]) ?_ 1 _ rfl; (with_reducible repeat (first | refine zkn ?_ _ | refine zkd ?_ | refine zka ?_ _)); refine blk_put (cs := #[.int .i64 0, .int .i64 0]) ?_ 0 _ rfl; (with_reducible repeat (first | refine zkn ?_ _ | refine zkd ?_ | refine zka ?_ _)); exact BK108.out)) (zbz (by repeat (first | (with_reducible first | exact HB.out | apply zba | apply zbn | apply zb1 | refine zbs ?_ GE104.out | refine zbs ?_ GE108.out) | exact HB.out)))); have n1_ := zam (zkb (g := gb104) (o := .cells #[.int .i64 t101, .int .i64 t102] 32 (0, 0)) (by (with_reducible repeat (first | refine zkn ?_ _ | refine zkd ?_ | refine zka ?_ _)); refine blk_far ?_ NB104_108.out _; (with_reducible repeat (first | refine zkn ?_ _ | refine zkd ?_ | refine zka ?_ _)); refine blk_far ?_ NB104_108.out _; (with_reducible repeat (first | refine zkn ?_ _ | refine zkd ?_ | refine zka ?_ _)); exact BK104.out) hb); have n2_ := zam (zkb (g := gb108) (o := .cells #[.int .i64 t105, .int .i64 t106] 32 (0, 0)) (by (with_reducible repeat (first | refine zkn ?_ _ | refine zkd ?_ | refine zka ?_ _)); refine blk_put (cs := #[.int .i64 t105, .int .i64 0]) ?_ 1 _ rfl; (with_reducible repeat (first | refine zkn ?_ _ | refine zkd ?_ | refine zka ?_ _)); refine blk_put (cs := #[.int .i64 0, .int .i64 0]) ?_ 0 _ rfl; (with_reducible repeat (first | refine zkn ?_ _ | refine zkd ?_ | refine zka ?_ _)); exact BK108.out) hb); have n3_ := zam (zbt (by repeat (first | (with_reducible first | exact HB.out | apply zba | apply zbn | apply zb1 | refine zbs ?_ GE104.out | refine zbs ?_ GE108.out) | exact HB.out)) hb); clear BK104; clear BK108; clear HB; have HO111 := n0_; have BK104 := n1_; have BK108 := n2_; have HB := n3_; clear n0_ n1_ n2_ n3_; clear hb ho70; obtain ⟨Ao71, co71, eo71⟩ := Kd.R_slice HO111.out; subst eo71) | ((with_reducible refine zgc (f := 46) rfl ?_); refine goesL_ (some 24) rfl rfl Try.func46 (by kernel_rfl) rfl #[.slice Ao71 y109.length co71] rfl (by (try simp only [zmt, List.map_cons, List.map_nil]); first | done | rfl | (simp only [zld, zlt]; rfl)) ?_; (with_reducible refine (bound_Cover.calls k _ _ y109 t112 t113 _ ?side1 ?side2 A3.out).mono ?_); (case side1 => repeat (first | exact (Kd.R_reads' HO111.out).2.2 | (with_reducible refine Kd.C_alloc ?_ _) | (with_reducible refine Kd.C_drewN ?_ _) | (with_reducible refine Kd.C_drew ?_))); (case side2 => exact (Kd.R_reads' HO111.out).2.1); rintro e w72 ⟨v114, rfl, ho0, hb⟩; refine ⟨_, rfl, ?_⟩; have n0_ := zam (Kd.R_elder' (by (with_reducible repeat (first | apply zRa | apply zRn | apply zRd)); exact HO111.out) (Kd.R_base ho0) hb); have n1_ := zam (Kd.R_lower (Kd.R_newB (Kd.R_newB (Kd.R_new' ho0 (Kd.R_lt (by (with_reducible repeat (first | apply zRa | apply zRn | apply zRd)); exact HO111.out))) (g := gb104) (o := .cells #[.int .i64 t101, .int .i64 t102] 32 (0, 0)) (by (with_reducible repeat (first | refine zkn ?_ _ | refine zkd ?_ | refine zka ?_ _)); exact BK104.out)) (g := gb108) (o := .cells #[.int .i64 t105, .int .i64 t106] 32 (0, 0)) (by (with_reducible repeat (first | refine zkn ?_ _ | refine zkd ?_ | refine zka ?_ _)); exact BK108.out)) (zbz (by repeat (first | (with_reducible first | exact HB.out | apply zba | apply zbn | apply zb1 | refine zbs ?_ GE104.out | refine zbs ?_ GE108.out) | exact HB.out)))); have n2_ := zam (zkb (g := gb104) (o := .cells #[.int .i64 t101, .int .i64 t102] 32 (0, 0)) (by (with_reducible repeat (first | refine zkn ?_ _ | refine zkd ?_ | refine zka ?_ _)); exact BK104.out) hb); have n3_ := zam (zkb (g := gb108) (o := .cells #[.int .i64 t105, .int .i64 t106] 32 (0, 0)) (by (with_reducible repeat (first | refine zkn ?_ _ | refine zkd ?_ | refine zka ?_ _)); exact BK108.out) hb); have n4_ := zam (zbt (by repeat (first | (with_reducible first | exact HB.out | apply zba | apply zbn | apply zb1 | refine zbs ?_ GE104.out | refine zbs ?_ GE108.out) | exact HB.out)) hb); clear HO111; clear BK104; clear BK108; clear HB; have HO111 := n0_; have HO115 := n1_; have BK104 := n2_; have BK108 := n3_; have HB := n4_; clear n0_ n1_ n2_ n3_ n4_; (try clear hb); (try clear hb2); (try clear hk); (try clear hi); (try clear ho0)))
 go_ret
 exact ⟨by first | rfl | (simp [errW_none, errW_some] <;> rfl) | (simp [*, errW_none, errW_some] <;> rfl), by repeat (first | (with_reducible first | exact HB.out | apply zba | apply zbn | apply zb1 | refine zbs ?_ GE104.out | refine zbs ?_ GE108.out) | exact HB.out)⟩
end Go.Proofs.Ytlkafgibgipodaa.P
namespace Go.Proofs.Ytlkafgibgipodaa.P
open Go.RowKit Go.Proofs.YtlkafgibgipodaaW.PrintWords Go.Proofs.YtlkafgibgipodaaW.PrintLast Go.Proofs.YtlkafgibgipodaaW.PrintMore
attribute [local go_sem] max2_int min2_int max_two min_two max_three min_three max_four min_four   -- for this text's walks alone
set_option linter.unusedVariables false
set_option linter.unusedSimpArgs false
mutual
def isobathref01_In.j0 : Nat → Bool → Int → Int → Int → Int → Option (Int × Int)
 | 0, _, _, _, _, _ => none
 | k + 1, x13, x102000, x102001, x103000, x103001 => if x13 = true then (some (0, 2)) else (if x102000 ≥ x103000 then (isobathref01_In.j1 k (decide (x102001 ≤ x103001)) x102000 x102001 x103000 x103001) else (isobathref01_In.j1 k false x102000 x102001 x103000 x103001))
def isobathref01_In.j1 : Nat → Bool → Int → Int → Int → Int → Option (Int × Int)
 | 0, _, _, _, _, _ => none
 | k + 1, x25, x102000, x102001, x103000, x103001 => if x25 = true then (some (2, 0)) else (if x102001 < x103000 then (some (0, 0)) else (if x102000 > x103001 then (some (0, 0)) else (some (1, 0))))
end
def Bo.ansB (x : Int) : Bool := decide (0 ≤ x) && decide (x ≤ 2)
def Bo.ans (l : List Int) : Int := if (l.length : Int) > 256 then 6 else if l.all Bo.ansB = true then 0 else 2
def Bo.all (l : List Int) : Int × Int := if Bo.ans l = 0 then (l.foldl min 2, 0) else (0, Bo.ans l)
def Bo.any (l : List Int) : Int × Int := if Bo.ans l = 0 then (l.foldl max 0, 0) else (0, Bo.ans l)
def Bo.vb (a0 a1 a2 a3 : Int) : Prop := Bo.v a0 a1 ∧ Bo.v a2 a3 ∧ -268435456 ≤ a0 ∧ a1 ≤ 268435456 ∧ -268435456 ≤ a2 ∧ a3 ≤ 268435456
instance Bo.vbDec (a0 a1 a2 a3 : Int) : Decidable (Bo.vb a0 a1 a2 a3) := inferInstanceAs (Decidable (_ ∧ _))
def Bo.far (a0 a1 b0 b1 : Int) : Int := max (a1 - b0) (b1 - a0)
theorem Bo.works {k : Nat} (hk : 20 ≤ k) : isobathlaw01_Works.f k = some true := by
 unfold isobathlaw01_Works.f bound_Cover.f
 rw [Bo.mul_b _ _ _ _ hk, Bo.div_b _ _ _ _ hk]
 rw [Bnd.check_f (by simp) (by simp; omega)]
 decide +kernel
structure Opens {α : Type} (P : Program) (t : TypeId) (d : Kd α) (B : α → Prop) : Prop where
 run : ∀ {H : Type} {enc : TypeId × Value → H} {W : World} {fuel : Nat} {cs : List Value} {x : DataW H × List MemPlace}, DataW.trod enc P W 0 (fun _ => true) true fuel t cs = some x → ∃ a : α, d.K W a cs ∧ B a
theorem Opens.int {P : Program} {t : TypeId} {k : IntKind} (ht : P.underlying t = some (.int k)) : Opens P t (Kd.int k) (fun n => (Lit.int k n).wf = true) :=
 ⟨fun h => by
  obtain ⟨n, rfl, _, hw⟩ := DataW.trod_int ht h
  exact ⟨n, rfl, hw⟩⟩
theorem Opens.bool {P : Program} {t : TypeId} (ht : P.underlying t = some .bool) : Opens P t Kd.bool (fun _ => True) :=
 ⟨fun h => by
  obtain ⟨n, rfl, _⟩ := DataW.trod_bool ht h
  exact ⟨n, rfl, trivial⟩⟩
theorem Opens.slice {α : Type} {P : Program} {t e : TypeId} {d : Kd α} {B : α → Prop} (ht : P.underlying t = some (.slice e)) (hc : P.cellsOf e = d.sz) (he : Opens P e d B) :
  Opens P t (Kd.slice e d) (fun xs => xs.length ≤ 9223372036854775807 ∧ ∀ x ∈ xs, B x) := by
 refine ⟨fun {H enc W fuel cs x} h => ?_⟩
 rcases Deep.open_slice ht h with ⟨rfl, _⟩ | ⟨a, len, cap, m, n, D, Pl, rfl, _, hl, hm, hmm, _, hx⟩
 ·exact ⟨[], ⟨none, 0, rfl, Nat.le_refl _, Kd.C_nil _ _⟩, by simp, by simp⟩
 have hm' : cap ≤ 9223372036854775807 := by unfold maxLen at hm; exact hm
 have hme : m = cap := by simpa using hmm
 have hel : ∀ i, i < len → ∃ y : α, (∃ cs', W.cells? 0 (a.add (i * P.cellsOf e)) (P.cellsOf e) = some cs' ∧ d.K W y cs') ∧ B y := by
  intro i hi
  obtain ⟨cs', h1, h2⟩ := hx i (by omega)
  obtain ⟨y, hy, hB⟩ := he.run h2
  exact ⟨y, ⟨cs', h1, hy⟩, hB⟩
 rcases Nat.eq_zero_or_pos len with h0 | h0
 ·subst h0
  exact ⟨[], ⟨some a, cap, rfl, Nat.zero_le _, rfl, Nat.zero_le _, fun hp => absurd hp (Nat.lt_irrefl 0)⟩, by simp, by simp⟩
 have : Inhabited α := ⟨Classical.choose (hel 0 h0)⟩
 obtain ⟨f, hf⟩ := Deep.choose_lt (p := fun i y => (∃ cs', W.cells? 0 (a.add (i * P.cellsOf e)) (P.cellsOf e) = some cs' ∧ d.K W y cs') ∧ B y) hel
 have hlen : ((List.range len).map f).length = len := by simp
 refine ⟨(List.range len).map f, ⟨some a, cap, by rw [hlen], by rw [hlen]; exact hl, hlen ▸ rfl, by rw [hlen]; omega, fun _ => ⟨a, rfl, ?_⟩⟩, by rw [hlen]; omega, ?_⟩
 ·intro j p hj
  have hjl : j < len := by
   have := (List.getElem?_eq_some_iff.1 hj).1
   rwa [hlen] at this
  have hp : p = f j := by
   rw [List.getElem?_map, List.getElem?_range hjl] at hj
   exact (zsi hj).symm
  subst hp
  obtain ⟨⟨cs', h1, h2⟩, _⟩ := hf j hjl
  obtain ⟨_, h3, h4⟩ := World.cells?_some h1
  rw [hc] at h3 h4
  refine ⟨cs', h3, h2, fun i u hu => ?_⟩
  have hi : i < d.sz := by
   have := (List.getElem?_eq_some_iff.1 hu).1
   omega
  rw [← Deep.add_add]
  exact (h4 i hi).trans hu
 intro y hy
 obtain ⟨i, hi, rfl⟩ := List.mem_map.1 hy
 exact (hf i (List.mem_range.1 hi)).2
structure OpensF {α : Type} (P : Program) (fs : List Field) (off tot : Nat) (d : Kd α) (B : α → Prop) : Prop where
 run : ∀ {H : Type} {enc : TypeId × Value → H} {W : World} {n : Nat} {cs : List Value}, cs.length = tot → (∀ (i : Nat) (f : Field), fs[i]? = some f → ∃ y, DataW.trod enc P W 0 (fun _ => true) true n f.type ((cs.drop f.offset).take (P.cellsOf f.type)) = some y) → ∃ a : α, d.K W a (cs.drop off) ∧ B a
theorem OpensF.last {α : Type} {P : Program} {f : Field} {off tot : Nat} {d : Kd α} {B : α → Prop} (ho : f.offset = off) (ht : off + P.cellsOf f.type = tot) (h : Opens P f.type d B) : OpensF P [f] off tot d B := by
 refine ⟨fun {H enc W n cs} hl hy => ?_⟩
 obtain ⟨y, hy⟩ := hy 0 f rfl
 obtain ⟨a, ha, hB⟩ := h.run hy
 rw [ho, List.take_of_length_le (by rw [zld]; omega)] at ha
 exact ⟨a, ha, hB⟩
theorem OpensF.cons {α β : Type} {P : Program} {f : Field} {fs : List Field} {off tot : Nat} {d1 : Kd α} {d2 : Kd β} {B1 : α → Prop} {B2 : β → Prop} (ho : f.offset = off) (hs : P.cellsOf f.type = d1.sz) (h : Opens P f.type d1 B1) (hr : OpensF P fs (off + d1.sz) tot d2 B2) :
  OpensF P (f :: fs) off tot (Kd.pair d1 d2) (fun x => B1 x.1 ∧ B2 x.2) := by
 refine ⟨fun {H enc W n cs} hl hy => ?_⟩
 obtain ⟨y, hy0⟩ := hy 0 f rfl
 obtain ⟨a, ha, hB⟩ := h.run hy0
 obtain ⟨b, hb, hB2⟩ := hr.run hl (fun i g hg => hy (i + 1) g hg)
 rw [ho, hs] at ha
 refine ⟨(a, b), ⟨(cs.drop off).take d1.sz, cs.drop (off + d1.sz), ?_, ha, hb⟩, hB, hB2⟩
 rw [← List.drop_drop, List.take_append_drop]
theorem Opens.struct {α β : Type} {P : Program} {t : TypeId} {fs : Array Field} {d : Kd α} {B : α → Prop} (ht : P.underlying t = some (.struct fs)) (f : β → α) (g : α → β) (hg : ∀ a, f (g a) = a) (hF : OpensF P fs.toList 0 (P.cellsOf t) d B) : Opens P t (Kd.iso d f) (fun x => B (f x)) := by
 refine ⟨fun {H enc W fuel cs x} h => ?_⟩
 obtain ⟨xs, n, _, _, hl, hlen, hf⟩ := DataW.trod_struct ht h
 obtain ⟨a, ha, hB⟩ := hF.run (n := n) hl (fun i fl hfl => by
  have hfl' : fs[i]? = some fl := by simpa using hfl
  have hi : i < fs.size := (Array.getElem?_eq_some_iff.1 hfl').1
  exact ⟨xs[i]'(by omega), (hf i fl hfl').trans (List.getElem?_eq_getElem (by omega))⟩)
 refine ⟨g a, ?_, ?_⟩
 ·show d.K W (f (g a)) cs
  rw [hg]
  simpa using ha
 show B (f (g a))
 rw [hg]
 exact hB
theorem Opens.array {α β : Type} {P : Program} {t n e : Nat} {fs : List Field} {d : Kd α} {B : α → Prop} (ht : P.underlying t = some (.array n e)) (hfs : ∀ (i : Nat) (f : Field), fs[i]? = some f → i < n ∧ f.type = e ∧ f.offset = i * P.cellsOf e) (f : β → α) (g : α → β) (hg : ∀ a, f (g a) = a) (hF : OpensF P fs 0 (P.cellsOf t) d B) : Opens P t (Kd.iso d f) (fun x => B (f x)) := by
 refine ⟨fun {H enc W fuel cs x} h => ?_⟩
 obtain ⟨xs, m, _, _, hl, hlen, hf⟩ := DataW.trod_array ht h
 obtain ⟨a, ha, hB⟩ := hF.run (n := m) hl (fun i fl hfl => by
  obtain ⟨h1, h2, h3⟩ := hfs i fl hfl
  rw [h2, h3]
  exact ⟨xs[i]'(by omega), (hf i h1).trans (List.getElem?_eq_getElem (by omega))⟩)
 refine ⟨g a, ?_, ?_⟩
 ·show d.K W (f (g a)) cs
  rw [hg]
  simpa using ha
 show B (f (g a))
 rw [hg]
 exact hB
end Go.Proofs.Ytlkafgibgipodaa.P
namespace Go.Proofs.Ytlkafgibgipodaa.P
theorem rootZ {n r : Int} (h : Rt.IsRoot n r) (h0 : 0 ≤ n) : Rt.root n = r ∧ (Rt.rootUp n = if Rt.root n * Rt.root n < n then Rt.root n + 1 else Rt.root n) ∧ (∀ (a0_0 : Bool) (a1 : Int) (r : Int) (w : World) (_ : bound_round_root.f a0_0 a1 = some r), Go.Calls Try.prog 105 #[.agg #[.bool a0_0], .int .i64 a1] w fun e w' => e = .returned (.int .i64 r) ∧ Go.RowKit.Below w.heap.size w w') ∧ ∀ (w : World), Go.Calls Try.prog 18 #[] w fun e w' => e = .returned (.bool true) ∧ Go.RowKit.Below w.heap.size w w' := ⟨Rt.root_of h h0, rfl, fun a0_0 a1 r w h => bound_round_root.calls a0_0 a1 r w h, fun w => isobathlaw01_Works.calls 20 true w (Bo.works (Nat.le_refl _))⟩
end Go.Proofs.Ytlkafgibgipodaa.P
