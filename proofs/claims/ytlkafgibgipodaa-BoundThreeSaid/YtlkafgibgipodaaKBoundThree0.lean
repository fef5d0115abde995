/- Less returns Yes if every number of a is less than every number of b, No if none is, and Open if there are both kinds of pairs; In likewise; so for the ends, and for any parts of both. Part 1 of 1. -/
-- Put together by wip/tools/shake.py, a program of this work: out of the words that the kit's print tool (print.sh) writes for a claim and what wip/tools/xprint.py prints, those that this claim reaches, and this work's own texts.
import Derived.Below
import Derived.Deep.Draws
import Derived.Deep.AppendLies
import Derived.Maps.AppendAt
import Derived.OwnWalk
import Derived.Laws.BytesArg
import Derived.Laws.MakeOwn
import Derived.Laws.OwnMore
import Derived.Deep.OwnRows
import Derived.Tactics
import Derived.Lib.ConvBytes
import Derived.Laws.Slices
import Derived.WalkKit
import Derived.KernelRfl
import Derived.RowKit3
import Derived.Deep.LoopGhost
import Derived.Deep.QuietTactic
import Derived.BigQuiet
import Derived.WideLaws
import Derived.Deep.DeepCutAuto
import Derived.Deep.CutBlock
import Derived.Deep.RegionHeld3
import Derived.Laws.Rows
import Derived.Lib.AppendStr
import Derived.ArgAppend
import Derived.Laws.IdiomCopy
import Derived.RowKit
import Derived.OrdersHeld
import Derived.Laws.BitsLemmas
import Derived.Laws.StructEq
import Derived.Test.YtlkafgibgipodaaProg
import Derived.RangeFuncBox
import Derived.RangeFuncNested
import Derived.RangeFuncBound
import Derived.RangeFuncCalls
import Derived.RangeFuncLeaves
import Derived.Shelf.Abstract
import Derived.Shelf.RegionOpen
import Derived.OwnWalkIn
import Derived.TacticsInMore
import Derived.LoopNIn
import Derived.LoopIn
import Derived.Sort.QuietIn
import Derived.Sort.LoopGhostIn
import Derived.Laws.EntriesVeiled
import Derived.Shelf.SlSortCmp.WholeK
import Derived.Deep.Slices
import Derived.OpenShut
import Derived.Test.YtlkafgibgipodaaRows
import Derived.ProofKit
import Derived.ShutString
import Derived.ChangeOld
import Derived.SizedLaws
import Derived.Carry
import Derived.Laws.Externs
import Derived.Test.YtlkafgibgipodaaKOps3
namespace Go.Proofs.Ytlkafgibgipodaa.P
open Go.RowKit Go.Proofs.YtlkafgibgipodaaW.PrintWords Go.Proofs.YtlkafgibgipodaaW.PrintLast Go.Proofs.YtlkafgibgipodaaW.PrintMore
attribute [local go_sem] max2_int min2_int max_two min_two max_three min_three max_four min_four   -- for this text's walks alone
set_option linter.unusedVariables false
set_option linter.unusedSimpArgs false
attribute [local go_sem high] eqA32
set_option maxHeartbeats 8000000 in
set_option maxRecDepth 100000 in
theorem bound_In.calls (k : Nat) (a0_0 : Int) (a0_1 : Int) (a1_0 : Int) (a1_1 : Int) (r1 : Int) (r2 : Int) (w : World) (h : bound_In.f k a0_0 a0_1 a1_0 a1_1 = some (r1, r2)) :
  Calls Try.prog 25 #[.agg #[.int .i64 a0_0, .int .i64 a0_1], .agg #[.int .i64 a1_0, .int .i64 a1_1]] w fun e w' => e = .returned (.tuple #[.int .i64 r1, .int .i64 r2]) ∧ Below w.heap.size w w' := by
 have hu32 := Try.underlying32
 have HB := zam (Below.refl w.heap.size w)
 have H : ((bound_check.f k (([(⟨a0_0, a0_1⟩ : S32), (⟨a1_0, a1_1⟩ : S32)] : List (S32)))).bind fun t106 => (if t106 = 0 then ((bound_meet.f a0_0 a0_1 a1_0 a1_1).bind fun bt107 => (if bt107.2.2 = true then (if (bt107.1 == a0_0 && (bt107.2.1 == a0_1)) = true then (some (2, 0)) else (some (1, 0))) else (some (0, 0)))) else (some (0, t106)))) = some (r1, r2) := h
 clear h
 obtain ⟨y103, hy103⟩ : ∃ y_ : List (S32), y_ = (([(⟨a0_0, a0_1⟩ : S32), (⟨a1_0, a1_1⟩ : S32)] : List (S32))) := ⟨_, rfl⟩
 replace H : ((bound_check.f k y103).bind fun t106 => (if t106 = 0 then ((bound_meet.f a0_0 a0_1 a1_0 a1_1).bind fun bt107 => (if bt107.2.2 = true then (if (bt107.1 == a0_0 && (bt107.2.1 == a0_1)) = true then (some (2, 0)) else (some (1, 0))) else (some (0, 0)))) else (some (0, t106)))) = some (r1, r2) := by first | (rw [hy103]; with_reducible exact H) | (have H2_ := (Option.bind_some _ _).symm.trans H; rw [hy103]; with_reducible exact H2_) | (have H2_ := (Option.bind_some _ _).symm.trans H; with_reducible exact H2_) | with_reducible exact H | (rw [hy103]; exact H) | exact H
 have Ny103 := zam hy103
 clear hy103
 replace H := Option.bind_eq_some_iff.mp H
 obtain ⟨t106, A30, H⟩ := H
 replace H : (if t106 = 0 then ((bound_meet.f a0_0 a0_1 a1_0 a1_1).bind fun bt107 => (if bt107.2.2 = true then (if (bt107.1 == a0_0 && (bt107.2.1 == a0_1)) = true then (some (2, 0)) else (some (1, 0))) else (some (0, 0)))) else (some (0, t106))) = some (r1, r2) := H
 have A3 := zam A30
 clear A30
 by_cases c4 : t106 = 0
 ·rw [if_pos c4] at H
  have c4b0 : (t106 == 0) = true := beq_iff_eq.mpr c4
  have c4b1 : (t106 != 0) = false := bne_eq_false_iff_eq.mpr c4
  clear c4
  replace H := Option.bind_eq_some_iff.mp H
  obtain ⟨⟨t107, t108, t109⟩, A50, H⟩ := H
  replace H : (if t109 = true then (if (t107 == a0_0 && (t108 == a0_1)) = true then (some (2, 0)) else (some (1, 0))) else (some (0, 0))) = some (r1, r2) := H
  have A5 := zam A50
  clear A50
  by_cases c6 : t109 = true
  ·subst c6
   have H1 : (if (t107 == a0_0 && (t108 == a0_1)) = true then (some (2, 0)) else (some (1, 0))) = some (r1, r2) := by rw [if_pos rfl] at H; exact H
   clear H
   have H := H1
   clear H1
   by_cases c7 : (t107 == a0_0 && (t108 == a0_1)) = true
   ·rw [if_pos c7] at H
    have c7b0 : (t107 == a0_0 && (t108 == a0_1)) = true := c7
    (try (have c7b1 : decide (t107 = a0_0 && (t108 == a0_1)) = true := by simpa using c7))
    (try (have c7b2 : (t107 == a0_0 && (t108 == a0_1)) = true := by simpa using c7))
    clear c7
    simp only [Option.some.injEq, Prod.mk.injEq] at H
    obtain ⟨rfl, rfl⟩ := H
    go_enter Try.func25, Try.ntmps25
    go_wp2_with (first | ((with_reducible refine zgd (N := 2) rfl ?_); refine box_event ?hg (N := 2) ?hd (cs := #[.int .i64 a0_0, .int .i64 a0_1]) (t := 32) ?hr ?_; (case hd => rfl); (case hg => rfl); (case hr => first | (go_simp; done) | (go_simp; rfl)); intro gb101 hg w8 hbox hb; have n0_ := zam (zbt (by repeat (first | (with_reducible first | exact HB.out | apply zba | apply zbn | apply zb1) | exact HB.out)) hb); have n1_ := zam (hbox); have n2_ := zam ((by rw [hg]; exact (zbz (by repeat (first | (with_reducible first | exact HB.out | apply zba | apply zbn | apply zb1) | exact HB.out))) : w.heap.size ≤ gb101)); have n3_ := zam ((by rw [hg]; exact (zbz (by repeat (first | (with_reducible first | exact HB.out | apply zba | apply zbn | apply zb1) | exact HB.out))) : w.heap.size ≤ gb101)); clear HB; have HB := n0_; have BK101 := n1_; have GW101 := n2_; have GE101 := n3_; clear n0_ n1_ n2_ n3_; clear hb hbox hg) | ((with_reducible refine zgd (N := 3) rfl ?_); refine box_event ?hg (N := 3) ?hd (cs := #[.int .i64 a1_0, .int .i64 a1_1]) (t := 32) ?hr ?_; (case hd => rfl); (case hg => rfl); (case hr => first | (go_simp; done) | (go_simp; rfl)); intro gb102 hg w9 hbox hb; have n0_ := zam (zkb (g := gb101) (o := .cells #[.int .i64 a0_0, .int .i64 a0_1] 32 (0, 0)) (by (with_reducible repeat (first | refine zkn ?_ _ | refine zkd ?_ | refine zka ?_ _)); exact BK101.out) hb); have n1_ := zam (zbt (by repeat (first | (with_reducible first | exact HB.out | apply zba | apply zbn | apply zb1 | refine zbs ?_ GE101.out) | exact HB.out)) hb); have n2_ := zam (hbox); have n3_ := zam ((by rw [hg]; exact (zbz (by repeat (first | (with_reducible first | exact HB.out | apply zba | apply zbn | apply zb1 | refine zbs ?_ GE101.out) | exact HB.out))) : w.heap.size ≤ gb102)); have n4_ := zam ((by rw [hg]; exact (zbz (by repeat (first | (with_reducible first | exact HB.out | apply zba | apply zbn | apply zb1 | refine zbs ?_ GE101.out) | exact HB.out))) : w.heap.size ≤ gb102)); have n5_ := zam ((by rw [hg]; exact Nat.ne_of_lt (blk_lt (g := gb101) (o := .cells #[.int .i64 a0_0, .int .i64 a0_1] 32 (0, 0)) (by (with_reducible repeat (first | refine zkn ?_ _ | refine zkd ?_ | refine zka ?_ _)); exact BK101.out)) : gb101 ≠ gb102)); have n6_ := zam ((by rw [hg]; exact Nat.ne_of_gt (blk_lt (g := gb101) (o := .cells #[.int .i64 a0_0, .int .i64 a0_1] 32 (0, 0)) (by (with_reducible repeat (first | refine zkn ?_ _ | refine zkd ?_ | refine zka ?_ _)); exact BK101.out)) : gb102 ≠ gb101)); clear BK101; clear HB; have BK101 := n0_; have HB := n1_; have BK102 := n2_; have GW102 := n3_; have GE102 := n4_; have NB101_102 := n5_; have NB102_101 := n6_; clear n0_ n1_ n2_ n3_ n4_ n5_ n6_; clear hb hbox hg; have hnb10 := NB101_102.out; have hnc10 := NB102_101.out; have hcz11_0 : w9.cell? ⟨gb101, 0, none⟩ = some (.int .i64 a0_0) := (zkc BK101.out 0).trans rfl; have hcz11_1 : w9.cell? ⟨gb101, 1, none⟩ = some (.int .i64 a0_1) := (zkc BK101.out 1).trans rfl; have hfz11_0 := zkz BK101.out 0; have hfz11_1 := zkz BK101.out 1; have hcz12_0 : w9.cell? ⟨gb102, 0, none⟩ = some (.int .i64 a1_0) := (zkc BK102.out 0).trans rfl; have hcz12_1 : w9.cell? ⟨gb102, 1, none⟩ = some (.int .i64 a1_1) := (zkc BK102.out 1).trans rfl; have hfz12_0 := zkz BK102.out 0; have hfz12_1 := zkz BK102.out 1) | ((with_reducible refine zgd (N := 11) rfl ?_); refine Kd.R_lit k32 _ 32 ?hg (N := 11) ?hd (xs := ([(⟨a0_0, a0_1⟩ : S32), (⟨a1_0, a1_1⟩ : S32)] : List (S32))) (inner := [.int .i64 a0_0, .int .i64 a0_1, .int .i64 a1_0, .int .i64 a1_1]) (ok := fun _ => True) (okp := fun _ => True) ?hr ?hp (fun _ hk => hk) trivial (Below.refl _ _) (Nat.le_refl _) (by simp) ?_; (case hd => rfl); (case hg => rfl); (case hr => first | (go_simp; done) | (go_simp; rfl)); (case hp => exact (Reps.c2 (show Kd.M k32 _ _ _ (⟨a0_0, a0_1⟩ : S32) [.int .i64 a0_0, .int .i64 a0_1] from (k32_mkM _ _ _ (⟨a0_0, a0_1⟩ : S32) )) (Reps.c2 (show Kd.M k32 _ _ _ (⟨a1_0, a1_1⟩ : S32) [.int .i64 a1_0, .int .i64 a1_1] from (k32_mkM _ _ _ (⟨a1_0, a1_1⟩ : S32) )) (Reps.none _ _)))); intro v104 w13 ho14 hb hg_ hnew_; clear hg_ hnew_; (first | rw [← Ny103.out] at ho14 | (simp only [Int.reduceToNat] at ho14; rw [← Ny103.out] at ho14)); have n0_ := zam (Kd.R_lower (Kd.R_newB (Kd.R_newB ho14 (g := gb101) (o := .cells #[.int .i64 a0_0, .int .i64 a0_1] 32 (0, 0)) (by (with_reducible repeat (first | refine zkn ?_ _ | refine zkd ?_ | refine zka ?_ _)); exact BK101.out)) (g := gb102) (o := .cells #[.int .i64 a1_0, .int .i64 a1_1] 32 (0, 0)) (by (with_reducible repeat (first | refine zkn ?_ _ | refine zkd ?_ | refine zka ?_ _)); exact BK102.out)) (zbz (by repeat (first | (with_reducible first | exact HB.out | apply zba | apply zbn | apply zb1 | refine zbs ?_ GE101.out | refine zbs ?_ GE102.out) | exact HB.out)))); have n1_ := zam (zkb (g := gb101) (o := .cells #[.int .i64 a0_0, .int .i64 a0_1] 32 (0, 0)) (by (with_reducible repeat (first | refine zkn ?_ _ | refine zkd ?_ | refine zka ?_ _)); exact BK101.out) hb); have n2_ := zam (zkb (g := gb102) (o := .cells #[.int .i64 a1_0, .int .i64 a1_1] 32 (0, 0)) (by (with_reducible repeat (first | refine zkn ?_ _ | refine zkd ?_ | refine zka ?_ _)); exact BK102.out) hb); have n3_ := zam (zbt (by repeat (first | (with_reducible first | exact HB.out | apply zba | apply zbn | apply zb1 | refine zbs ?_ GE101.out | refine zbs ?_ GE102.out) | exact HB.out)) hb); clear BK101; clear BK102; clear HB; have HO105 := n0_; have BK101 := n1_; have BK102 := n2_; have HB := n3_; clear n0_ n1_ n2_ n3_; clear hb ho14; obtain ⟨Ao15, co15, eo15⟩ := Kd.R_slice HO105.out; subst eo15) | ((with_reducible refine zgc (f := 80) rfl ?_); refine goesL_ (some 12) rfl rfl Try.func80 (by kernel_rfl) rfl #[.slice Ao15 y103.length co15] rfl (by (try simp only [zmt, List.map_cons, List.map_nil]); first | done | rfl | (simp only [zld, zlt]; rfl)) ?_; (with_reducible refine (bound_check.calls k _ _ y103 t106 _ ?side1 ?side2 A3.out).mono ?_); (case side1 => repeat (first | exact (Kd.R_reads' HO105.out).2.2 | (with_reducible refine Kd.C_alloc ?_ _) | (with_reducible refine Kd.C_drewN ?_ _) | (with_reducible refine Kd.C_drew ?_))); (case side2 => exact (Kd.R_reads' HO105.out).2.1); rintro e w16 ⟨rfl, hb⟩; refine ⟨_, rfl, ?_⟩; have n0_ := zam (Kd.R_below (by (with_reducible repeat (first | apply zRa | apply zRn | apply zRd)); exact HO105.out) hb); have n1_ := zam (zkb (g := gb101) (o := .cells #[.int .i64 a0_0, .int .i64 a0_1] 32 (0, 0)) (by (with_reducible repeat (first | refine zkn ?_ _ | refine zkd ?_ | refine zka ?_ _)); exact BK101.out) hb); have n2_ := zam (zkb (g := gb102) (o := .cells #[.int .i64 a1_0, .int .i64 a1_1] 32 (0, 0)) (by (with_reducible repeat (first | refine zkn ?_ _ | refine zkd ?_ | refine zka ?_ _)); exact BK102.out) hb); have n3_ := zam (zbt (by repeat (first | (with_reducible first | exact HB.out | apply zba | apply zbn | apply zb1 | refine zbs ?_ GE101.out | refine zbs ?_ GE102.out) | exact HB.out)) hb); clear HO105; clear BK101; clear BK102; clear HB; have HO105 := n0_; have BK101 := n1_; have BK102 := n2_; have HB := n3_; clear n0_ n1_ n2_ n3_; (try clear hb); (try clear hb2); (try clear hk); (try clear hi); have hcz17_0 : w16.cell? ⟨gb101, 0, none⟩ = some (.int .i64 a0_0) := (zkc BK101.out 0).trans rfl; have hcz17_1 : w16.cell? ⟨gb101, 1, none⟩ = some (.int .i64 a0_1) := (zkc BK101.out 1).trans rfl; have hfz17_0 := zkz BK101.out 0; have hfz17_1 := zkz BK101.out 1; have hcz18_0 : w16.cell? ⟨gb102, 0, none⟩ = some (.int .i64 a1_0) := (zkc BK102.out 0).trans rfl; have hcz18_1 : w16.cell? ⟨gb102, 1, none⟩ = some (.int .i64 a1_1) := (zkc BK102.out 1).trans rfl; have hfz18_0 := zkz BK102.out 0; have hfz18_1 := zkz BK102.out 1) | ((with_reducible refine zgc (f := 81) rfl ?_); refine goesL_ (some 19) rfl rfl Try.func81 (by kernel_rfl) rfl #[.agg #[.int .i64 a0_0, .int .i64 a0_1], .agg #[.int .i64 a1_0, .int .i64 a1_1]] rfl (by (try simp only [zmt, List.map_cons, List.map_nil]); first | done | rfl | (simp only [zld, zlt]; rfl)) ?_; (with_reducible refine (bound_meet.calls a0_0 a0_1 a1_0 a1_1 t107 t108 true _ A5.out).mono ?_); rintro e w19 ⟨rfl, hb⟩; refine ⟨_, rfl, ?_⟩; have n0_ := zam (Kd.R_below (by (with_reducible repeat (first | apply zRa | apply zRn | apply zRd)); exact HO105.out) hb); have n1_ := zam (zkb (g := gb101) (o := .cells #[.int .i64 a0_0, .int .i64 a0_1] 32 (0, 0)) (by (with_reducible repeat (first | refine zkn ?_ _ | refine zkd ?_ | refine zka ?_ _)); exact BK101.out) hb); have n2_ := zam (zkb (g := gb102) (o := .cells #[.int .i64 a1_0, .int .i64 a1_1] 32 (0, 0)) (by (with_reducible repeat (first | refine zkn ?_ _ | refine zkd ?_ | refine zka ?_ _)); exact BK102.out) hb); have n3_ := zam (zbt (by repeat (first | (with_reducible first | exact HB.out | apply zba | apply zbn | apply zb1 | refine zbs ?_ GE101.out | refine zbs ?_ GE102.out) | exact HB.out)) hb); clear HO105; clear BK101; clear BK102; clear HB; have HO105 := n0_; have BK101 := n1_; have BK102 := n2_; have HB := n3_; clear n0_ n1_ n2_ n3_; (try clear hb); (try clear hb2); (try clear hk); (try clear hi)) | ((with_reducible refine zgd (N := 7) rfl ?_); refine box_event ?hg (N := 7) ?hd (cs := #[.int .i64 0, .int .i64 0]) (t := 32) ?hr ?_; (case hd => rfl); (case hg => rfl); (case hr => first | (go_simp; done) | (go_simp; rfl)); intro gb110 hg w20 hbox hb; have n0_ := zam (Kd.R_below (Kd.R_elderB (by (with_reducible repeat (first | apply zRa | apply zRn | apply zRd)); exact HO105.out) gb110 (Nat.le_of_eq hg.symm)) hb); have n1_ := zam (zkb (g := gb101) (o := .cells #[.int .i64 a0_0, .int .i64 a0_1] 32 (0, 0)) (by (with_reducible repeat (first | refine zkn ?_ _ | refine zkd ?_ | refine zka ?_ _)); exact BK101.out) hb); have n2_ := zam (zkb (g := gb102) (o := .cells #[.int .i64 a1_0, .int .i64 a1_1] 32 (0, 0)) (by (with_reducible repeat (first | refine zkn ?_ _ | refine zkd ?_ | refine zka ?_ _)); exact BK102.out) hb); have n3_ := zam (zbt (by repeat (first | (with_reducible first | exact HB.out | apply zba | apply zbn | apply zb1 | refine zbs ?_ GE101.out | refine zbs ?_ GE102.out) | exact HB.out)) hb); have n4_ := zam (hbox); have n5_ := zam ((by rw [hg]; exact (zbz (by repeat (first | (with_reducible first | exact HB.out | apply zba | apply zbn | apply zb1 | refine zbs ?_ GE101.out | refine zbs ?_ GE102.out) | exact HB.out))) : w.heap.size ≤ gb110)); have n6_ := zam ((by rw [hg]; exact (zbz (by repeat (first | (with_reducible first | exact HB.out | apply zba | apply zbn | apply zb1 | refine zbs ?_ GE101.out | refine zbs ?_ GE102.out) | exact HB.out))) : w.heap.size ≤ gb110)); have n7_ := zam ((by rw [hg]; exact Nat.ne_of_lt (blk_lt (g := gb101) (o := .cells #[.int .i64 a0_0, .int .i64 a0_1] 32 (0, 0)) (by (with_reducible repeat (first | refine zkn ?_ _ | refine zkd ?_ | refine zka ?_ _)); exact BK101.out)) : gb101 ≠ gb110)); have n8_ := zam ((by rw [hg]; exact Nat.ne_of_gt (blk_lt (g := gb101) (o := .cells #[.int .i64 a0_0, .int .i64 a0_1] 32 (0, 0)) (by (with_reducible repeat (first | refine zkn ?_ _ | refine zkd ?_ | refine zka ?_ _)); exact BK101.out)) : gb110 ≠ gb101)); have n9_ := zam ((by rw [hg]; exact Nat.ne_of_lt (blk_lt (g := gb102) (o := .cells #[.int .i64 a1_0, .int .i64 a1_1] 32 (0, 0)) (by (with_reducible repeat (first | refine zkn ?_ _ | refine zkd ?_ | refine zka ?_ _)); exact BK102.out)) : gb102 ≠ gb110)); have n10_ := zam ((by rw [hg]; exact Nat.ne_of_gt (blk_lt (g := gb102) (o := .cells #[.int .i64 a1_0, .int .i64 a1_1] 32 (0, 0)) (by (with_reducible repeat (first | refine zkn ?_ _ | refine zkd ?_ | refine zka ?_ _)); exact BK102.out)) : gb110 ≠ gb102)); clear HO105; clear BK101; clear BK102; clear HB; have HO105 := n0_; have BK101 := n1_; have BK102 := n2_; have HB := n3_; have BK110 := n4_; have GW110 := n5_; have GE110 := n6_; have NB101_110 := n7_; have NB110_101 := n8_; have NB102_110 := n9_; have NB110_102 := n10_; clear n0_ n1_ n2_ n3_ n4_ n5_ n6_ n7_ n8_ n9_ n10_; clear hb hbox hg; have hnb21 := NB110_101.out; have hnc21 := NB101_110.out; have hnb22 := NB110_102.out; have hnc22 := NB102_110.out; have hcz23_0 : w20.cell? ⟨gb110, 0, none⟩ = some (.int .i64 0) := (zkc BK110.out 0).trans rfl; have hcz23_1 : w20.cell? ⟨gb110, 1, none⟩ = some (.int .i64 0) := (zkc BK110.out 1).trans rfl; have hfz23_0 := zkz BK110.out 0; have hfz23_1 := zkz BK110.out 1; have hcz24_0 : w20.cell? ⟨gb101, 0, none⟩ = some (.int .i64 a0_0) := (zkc BK101.out 0).trans rfl; have hcz24_1 : w20.cell? ⟨gb101, 1, none⟩ = some (.int .i64 a0_1) := (zkc BK101.out 1).trans rfl; have hfz24_0 := zkz BK101.out 0; have hfz24_1 := zkz BK101.out 1))
    go_ret2
    exact ⟨by first | rfl | (simp [errW_none, errW_some] <;> rfl) | (simp [*, errW_none, errW_some] <;> rfl), by repeat (first | (with_reducible first | exact HB.out | apply zba | apply zbn | apply zb1 | refine zbs ?_ GE101.out | refine zbs ?_ GE102.out | refine zbs ?_ GE110.out) | exact HB.out)⟩
   rw [if_neg c7] at H
   have c7b0 : (t107 == a0_0 && (t108 == a0_1)) = false := by simpa using c7
   (try (have c7b1 : decide (t107 = a0_0 && (t108 == a0_1)) = false := by simpa using c7))
   (try (have c7b2 : (t107 == a0_0 && (t108 == a0_1)) = false := by simpa using c7))
   (try (have c7b3 : ¬ (t107 = a0_0 && (t108 == a0_1)) := by simpa using c7))
   clear c7
   simp only [Option.some.injEq, Prod.mk.injEq] at H
   obtain ⟨rfl, rfl⟩ := H
   go_enter Try.func25, Try.ntmps25
   go_wp2_with (first | ((with_reducible refine zgd (N := 2) rfl ?_); refine box_event ?hg (N := 2) ?hd (cs := #[.int .i64 a0_0, .int .i64 a0_1]) (t := 32) ?hr ?_; (case hd => rfl); (case hg => rfl); (case hr => first | (go_simp; done) | (go_simp; rfl)); intro gb101 hg w25 hbox hb; have n0_ := zam (zbt (by repeat (first | (with_reducible first | exact HB.out | apply zba | apply zbn | apply zb1) | exact HB.out)) hb); have n1_ := zam (hbox); have n2_ := zam ((by rw [hg]; exact (zbz (by repeat (first | (with_reducible first | exact HB.out | apply zba | apply zbn | apply zb1) | exact HB.out))) : w.heap.size ≤ gb101)); have n3_ := zam ((by rw [hg]; exact (zbz (by repeat (first | (with_reducible first | exact HB.out | apply zba | apply zbn | apply zb1) | exact HB.out))) : w.heap.size ≤ gb101)); clear HB; have HB := n0_; have BK101 := n1_; have GW101 := n2_; have GE101 := n3_; clear n0_ n1_ n2_ n3_; clear hb hbox hg) | ((with_reducible refine zgd (N := 3) rfl ?_); refine box_event ?hg (N := 3) ?hd (cs := #[.int .i64 a1_0, .int .i64 a1_1]) (t := 32) ?hr ?_; (case hd => rfl); (case hg => rfl); (case hr => first | (go_simp; done) | (go_simp; rfl)); intro gb102 hg w26 hbox hb; have n0_ := zam (zkb (g := gb101) (o := .cells #[.int .i64 a0_0, .int .i64 a0_1] 32 (0, 0)) (by (with_reducible repeat (first | refine zkn ?_ _ | refine zkd ?_ | refine zka ?_ _)); exact BK101.out) hb); have n1_ := zam (zbt (by repeat (first | (with_reducible first | exact HB.out | apply zba | apply zbn | apply zb1 | refine zbs ?_ GE101.out) | exact HB.out)) hb); have n2_ := zam (hbox); have n3_ := zam ((by rw [hg]; exact (zbz (by repeat (first | (with_reducible first | exact HB.out | apply zba | apply zbn | apply zb1 | refine zbs ?_ GE101.out) | exact HB.out))) : w.heap.size ≤ gb102)); have n4_ := zam ((by rw [hg]; exact (zbz (by repeat (first | (with_reducible first | exact HB.out | apply zba | apply zbn | apply zb1 | refine zbs ?_ GE101.out) | exact HB.out))) : w.heap.size ≤ gb102)); have n5_ := zam ((by rw [hg]; exact Nat.ne_of_lt (blk_lt (g := gb101) (o := .cells #[.int .i64 a0_0, .int .i64 a0_1] 32 (0, 0)) (by (with_reducible repeat (first | refine zkn ?_ _ | refine zkd ?_ | refine zka ?_ _)); exact BK101.out)) : gb101 ≠ gb102)); have n6_ := zam ((by rw [hg]; exact Nat.ne_of_gt (blk_lt (g := gb101) (o := .cells #[.int .i64 a0_0, .int .i64 a0_1] 32 (0, 0)) (by (with_reducible repeat (first | refine zkn ?_ _ | refine zkd ?_ | refine zka ?_ _)); exact BK101.out)) : gb102 ≠ gb101)); clear BK101; clear HB; have BK101 := n0_; have HB := n1_; have BK102 := n2_; have GW102 := n3_; have GE102 := n4_; have NB101_102 := n5_; have NB102_101 := n6_; clear n0_ n1_ n2_ n3_ n4_ n5_ n6_; clear hb hbox hg; have hnb27 := NB101_102.out; have hnc27 := NB102_101.out; have hcz28_0 : w26.cell? ⟨gb101, 0, none⟩ = some (.int .i64 a0_0) := (zkc BK101.out 0).trans rfl; have hcz28_1 : w26.cell? ⟨gb101, 1, none⟩ = some (.int .i64 a0_1) := (zkc BK101.out 1).trans rfl; have hfz28_0 := zkz BK101.out 0; have hfz28_1 := zkz BK101.out 1; have hcz29_0 : w26.cell? ⟨gb102, 0, none⟩ = some (.int .i64 a1_0) := (zkc BK102.out 0).trans rfl; have hcz29_1 : w26.cell? ⟨gb102, 1, none⟩ = some (.int .i64 a1_1) := (zkc BK102.out 1).trans rfl; have hfz29_0 := zkz BK102.out 0; have hfz29_1 := zkz BK102.out 1) | ((with_reducible refine zgd (N := 11) rfl ?_); refine Kd.R_lit k32 _ 32 ?hg (N := 11) ?hd (xs := ([(⟨a0_0, a0_1⟩ : S32), (⟨a1_0, a1_1⟩ : S32)] : List (S32))) (inner := [.int .i64 a0_0, .int .i64 a0_1, .int .i64 a1_0, .int .i64 a1_1]) (ok := fun _ => True) (okp := fun _ => True) ?hr ?hp (fun _ hk => hk) trivial (Below.refl _ _) (Nat.le_refl _) (by simp) ?_; (case hd => rfl); (case hg => rfl); (case hr => first | (go_simp; done) | (go_simp; rfl)); (case hp => exact (Reps.c2 (show Kd.M k32 _ _ _ (⟨a0_0, a0_1⟩ : S32) [.int .i64 a0_0, .int .i64 a0_1] from (k32_mkM _ _ _ (⟨a0_0, a0_1⟩ : S32) )) (Reps.c2 (show Kd.M k32 _ _ _ (⟨a1_0, a1_1⟩ : S32) [.int .i64 a1_0, .int .i64 a1_1] from (k32_mkM _ _ _ (⟨a1_0, a1_1⟩ : S32) )) (Reps.none _ _)))); intro v104 w30 ho31 hb hg_ hnew_; clear hg_ hnew_; (first | rw [← Ny103.out] at ho31 | (simp only [Int.reduceToNat] at ho31; rw [← Ny103.out] at ho31)); have n0_ := zam (Kd.R_lower (Kd.R_newB (Kd.R_newB ho31 (g := gb101) (o := .cells #[.int .i64 a0_0, .int .i64 a0_1] 32 (0, 0)) (by (with_reducible repeat (first | refine zkn ?_ _ | refine zkd ?_ | refine zka ?_ _)); exact BK101.out)) (g := gb102) (o := .cells #[.int .i64 a1_0, .int .i64 a1_1] 32 (0, 0)) (by (with_reducible repeat (first | refine zkn ?_ _ | refine zkd ?_ | refine zka ?_ _)); exact BK102.out)) (zbz (by repeat (first | (with_reducible first | exact HB.out | apply zba | apply zbn | apply zb1 | refine zbs ?_ GE101.out | refine zbs ?_ GE102.out) | exact HB.out)))); have n1_ := zam (zkb (g := gb101) (o := .cells #[.int .i64 a0_0, .int .i64 a0_1] 32 (0, 0)) (by (with_reducible repeat (first | refine zkn ?_ _ | refine zkd ?_ | refine zka ?_ _)); exact BK101.out) hb); have n2_ := zam (zkb (g := gb102) (o := .cells #[.int .i64 a1_0, .int .i64 a1_1] 32 (0, 0)) (by (with_reducible repeat (first | refine zkn ?_ _ | refine zkd ?_ | refine zka ?_ _)); exact BK102.out) hb); have n3_ := zam (zbt (by repeat (first | (with_reducible first | exact HB.out | apply zba | apply zbn | apply zb1 | refine zbs ?_ GE101.out | refine zbs ?_ GE102.out) | exact HB.out)) hb); clear BK101; clear BK102; clear HB; have HO105 := n0_; have BK101 := n1_; have BK102 := n2_; have HB := n3_; clear n0_ n1_ n2_ n3_; clear hb ho31; obtain ⟨Ao32, co32, eo32⟩ := Kd.R_slice HO105.out; subst eo32) | ((with_reducible refine zgc (f := 80) rfl ?_); refine goesL_ (some 12) rfl rfl Try.func80 (by kernel_rfl) rfl #[.slice Ao32 y103.length co32] rfl (by (try simp only [zmt, List.map_cons, List.map_nil]); first | done | rfl | (simp only [zld, zlt]; rfl)) ?_; (with_reducible refine (bound_check.calls k _ _ y103 t106 _ ?side1 ?side2 A3.out).mono ?_); (case side1 => repeat (first | exact (Kd.R_reads' HO105.out).2.2 | (with_reducible refine Kd.C_alloc ?_ _) | (with_reducible refine Kd.C_drewN ?_ _) | (with_reducible refine Kd.C_drew ?_))); (case side2 => exact (Kd.R_reads' HO105.out).2.1); rintro e w33 ⟨rfl, hb⟩; refine ⟨_, rfl, ?_⟩; have n0_ := zam (Kd.R_below (by (with_reducible repeat (first | apply zRa | apply zRn | apply zRd)); exact HO105.out) hb); have n1_ := zam (zkb (g := gb101) (o := .cells #[.int .i64 a0_0, .int .i64 a0_1] 32 (0, 0)) (by (with_reducible repeat (first | refine zkn ?_ _ | refine zkd ?_ | refine zka ?_ _)); exact BK101.out) hb); have n2_ := zam (zkb (g := gb102) (o := .cells #[.int .i64 a1_0, .int .i64 a1_1] 32 (0, 0)) (by (with_reducible repeat (first | refine zkn ?_ _ | refine zkd ?_ | refine zka ?_ _)); exact BK102.out) hb); have n3_ := zam (zbt (by repeat (first | (with_reducible first | exact HB.out | apply zba | apply zbn | apply zb1 | refine zbs ?_ GE101.out | refine zbs ?_ GE102.out) | exact HB.out)) hb); clear HO105; clear BK101; clear BK102; clear HB; have HO105 := n0_; have BK101 := n1_; have BK102 := n2_; have HB := n3_; clear n0_ n1_ n2_ n3_; (try clear hb); (try clear hb2); (try clear hk); (try clear hi); have hcz34_0 : w33.cell? ⟨gb101, 0, none⟩ = some (.int .i64 a0_0) := (zkc BK101.out 0).trans rfl; have hcz34_1 : w33.cell? ⟨gb101, 1, none⟩ = some (.int .i64 a0_1) := (zkc BK101.out 1).trans rfl; have hfz34_0 := zkz BK101.out 0; have hfz34_1 := zkz BK101.out 1; have hcz35_0 : w33.cell? ⟨gb102, 0, none⟩ = some (.int .i64 a1_0) := (zkc BK102.out 0).trans rfl; have hcz35_1 : w33.cell? ⟨gb102, 1, none⟩ = some (.int .i64 a1_1) := (zkc BK102.out 1).trans rfl; have hfz35_0 := zkz BK102.out 0; have hfz35_1 := zkz BK102.out 1) | ((with_reducible refine zgc (f := 81) rfl ?_); refine goesL_ (some 19) rfl rfl Try.func81 (by kernel_rfl) rfl #[.agg #[.int .i64 a0_0, .int .i64 a0_1], .agg #[.int .i64 a1_0, .int .i64 a1_1]] rfl (by (try simp only [zmt, List.map_cons, List.map_nil]); first | done | rfl | (simp only [zld, zlt]; rfl)) ?_; (with_reducible refine (bound_meet.calls a0_0 a0_1 a1_0 a1_1 t107 t108 true _ A5.out).mono ?_); rintro e w36 ⟨rfl, hb⟩; refine ⟨_, rfl, ?_⟩; have n0_ := zam (Kd.R_below (by (with_reducible repeat (first | apply zRa | apply zRn | apply zRd)); exact HO105.out) hb); have n1_ := zam (zkb (g := gb101) (o := .cells #[.int .i64 a0_0, .int .i64 a0_1] 32 (0, 0)) (by (with_reducible repeat (first | refine zkn ?_ _ | refine zkd ?_ | refine zka ?_ _)); exact BK101.out) hb); have n2_ := zam (zkb (g := gb102) (o := .cells #[.int .i64 a1_0, .int .i64 a1_1] 32 (0, 0)) (by (with_reducible repeat (first | refine zkn ?_ _ | refine zkd ?_ | refine zka ?_ _)); exact BK102.out) hb); have n3_ := zam (zbt (by repeat (first | (with_reducible first | exact HB.out | apply zba | apply zbn | apply zb1 | refine zbs ?_ GE101.out | refine zbs ?_ GE102.out) | exact HB.out)) hb); clear HO105; clear BK101; clear BK102; clear HB; have HO105 := n0_; have BK101 := n1_; have BK102 := n2_; have HB := n3_; clear n0_ n1_ n2_ n3_; (try clear hb); (try clear hb2); (try clear hk); (try clear hi)) | ((with_reducible refine zgd (N := 7) rfl ?_); refine box_event ?hg (N := 7) ?hd (cs := #[.int .i64 0, .int .i64 0]) (t := 32) ?hr ?_; (case hd => rfl); (case hg => rfl); (case hr => first | (go_simp; done) | (go_simp; rfl)); intro gb110 hg w37 hbox hb; have n0_ := zam (Kd.R_below (Kd.R_elderB (by (with_reducible repeat (first | apply zRa | apply zRn | apply zRd)); exact HO105.out) gb110 (Nat.le_of_eq hg.symm)) hb); have n1_ := zam (zkb (g := gb101) (o := .cells #[.int .i64 a0_0, .int .i64 a0_1] 32 (0, 0)) (by (with_reducible repeat (first | refine zkn ?_ _ | refine zkd ?_ | refine zka ?_ _)); exact BK101.out) hb); have n2_ := zam (zkb (g := gb102) (o := .cells #[.int .i64 a1_0, .int .i64 a1_1] 32 (0, 0)) (by (with_reducible repeat (first | refine zkn ?_ _ | refine zkd ?_ | refine zka ?_ _)); exact BK102.out) hb); have n3_ := zam (zbt (by repeat (first | (with_reducible first | exact HB.out | apply zba | apply zbn | apply zb1 | refine zbs ?_ GE101.out | refine zbs ?_ GE102.out) | exact HB.out)) hb); have n4_ := zam (hbox); have n5_ := zam ((by rw [hg]; exact (zbz (by repeat (first | (with_reducible first | exact HB.out | apply zba | apply zbn | apply zb1 | refine zbs ?_ GE101.out | refine zbs ?_ GE102.out) | exact HB.out))) : w.heap.size ≤ gb110)); have n6_ := zam ((by rw [hg]; exact (zbz (by repeat (first | (with_reducible first | exact HB.out | apply zba | apply zbn | apply zb1 | refine zbs ?_ GE101.out | refine zbs ?_ GE102.out) | exact HB.out))) : w.heap.size ≤ gb110)); have n7_ := zam ((by rw [hg]; exact Nat.ne_of_lt (blk_lt (g := gb101) (o := .cells #[.int .i64 a0_0, .int .i64 a0_1] 32 (0, 0)) (by (with_reducible repeat (first | refine zkn ?_ _ | refine zkd ?_ | refine zka ?_ _)); exact BK101.out)) : gb101 ≠ gb110)); have n8_ := zam ((by rw [hg]; exact Nat.ne_of_gt (blk_lt (g := gb101) (o := .cells #[.int .i64 a0_0, .int .i64 a0_1] 32 (0, 0)) (by (with_reducible repeat (first | refine zkn ?_ _ | refine zkd ?_ | refine zka ?_ _)); exact BK101.out)) : gb110 ≠ gb101)); have n9_ := zam ((by rw [hg]; exact Nat.ne_of_lt (blk_lt (g := gb102) (o := .cells #[.int .i64 a1_0, .int .i64 a1_1] 32 (0, 0)) (by (with_reducible repeat (first | refine zkn ?_ _ | refine zkd ?_ | refine zka ?_ _)); exact BK102.out)) : gb102 ≠ gb110)); have n10_ := zam ((by rw [hg]; exact Nat.ne_of_gt (blk_lt (g := gb102) (o := .cells #[.int .i64 a1_0, .int .i64 a1_1] 32 (0, 0)) (by (with_reducible repeat (first | refine zkn ?_ _ | refine zkd ?_ | refine zka ?_ _)); exact BK102.out)) : gb110 ≠ gb102)); clear HO105; clear BK101; clear BK102; clear HB; have HO105 := n0_; have BK101 := n1_; have BK102 := n2_; have HB := n3_; have BK110 := n4_; have GW110 := n5_; have GE110 := n6_; have NB101_110 := n7_; have NB110_101 := n8_; have NB102_110 := n9_; have NB110_102 := n10_; clear n0_ n1_ n2_ n3_ n4_ n5_ n6_ n7_ n8_ n9_ n10_; clear hb hbox hg; have hnb38 := NB110_101.out; have hnc38 := NB101_110.out; have hnb39 := NB110_102.out; have hnc39 := NB102_110.out; have hcz40_0 : w37.cell? ⟨gb110, 0, none⟩ = some (.int .i64 0) := (zkc BK110.out 0).trans rfl; have hcz40_1 : w37.cell? ⟨gb110, 1, none⟩ = some (.int .i64 0) := (zkc BK110.out 1).trans rfl; have hfz40_0 := zkz BK110.out 0; have hfz40_1 := zkz BK110.out 1; have hcz41_0 : w37.cell? ⟨gb101, 0, none⟩ = some (.int .i64 a0_0) := (zkc BK101.out 0).trans rfl; have hcz41_1 : w37.cell? ⟨gb101, 1, none⟩ = some (.int .i64 a0_1) := (zkc BK101.out 1).trans rfl; have hfz41_0 := zkz BK101.out 0; have hfz41_1 := zkz BK101.out 1))
   go_ret2
   exact ⟨by first | rfl | (simp [errW_none, errW_some] <;> rfl) | (simp [*, errW_none, errW_some] <;> rfl), by repeat (first | (with_reducible first | exact HB.out | apply zba | apply zbn | apply zb1 | refine zbs ?_ GE101.out | refine zbs ?_ GE102.out | refine zbs ?_ GE110.out) | exact HB.out)⟩
  replace c6 := Bool.eq_false_iff.mpr c6
  subst c6
  have H1 : (some (0, 0)) = some (r1, r2) := by rw [if_neg (show ¬ (false = true) by decide)] at H; exact H
  clear H
  have H := H1
  clear H1
  simp only [Option.some.injEq, Prod.mk.injEq] at H
  obtain ⟨rfl, rfl⟩ := H
  go_enter Try.func25, Try.ntmps25
  go_wp2_with (first | ((with_reducible refine zgd (N := 2) rfl ?_); refine box_event ?hg (N := 2) ?hd (cs := #[.int .i64 a0_0, .int .i64 a0_1]) (t := 32) ?hr ?_; (case hd => rfl); (case hg => rfl); (case hr => first | (go_simp; done) | (go_simp; rfl)); intro gb101 hg w42 hbox hb; have n0_ := zam (zbt (by repeat (first | (with_reducible first | exact HB.out | apply zba | apply zbn | apply zb1) | exact HB.out)) hb); have n1_ := zam (hbox); have n2_ := zam ((by rw [hg]; exact (zbz (by repeat (first | (with_reducible first | exact HB.out | apply zba | apply zbn | apply zb1) | exact HB.out))) : w.heap.size ≤ gb101)); have n3_ := zam ((by rw [hg]; exact (zbz (by repeat (first | (with_reducible first | exact HB.out | apply zba | apply zbn | apply zb1) | exact HB.out))) : w.heap.size ≤ gb101)); clear HB; have HB := n0_; have BK101 := n1_; have GW101 := n2_; have GE101 := n3_; clear n0_ n1_ n2_ n3_; clear hb hbox hg) | ((with_reducible refine zgd (N := 3) rfl ?_); refine box_event ?hg (N := 3) ?hd (cs := #[.int .i64 a1_0, .int .i64 a1_1]) (t := 32) ?hr ?_; (case hd => rfl); (case hg => rfl); (case hr => first | (go_simp; done) | (go_simp; rfl)); intro gb102 hg w43 hbox hb; have n0_ := zam (zkb (g := gb101) (o := .cells #[.int .i64 a0_0, .int .i64 a0_1] 32 (0, 0)) (by (with_reducible repeat (first | refine zkn ?_ _ | refine zkd ?_ | refine zka ?_ _)); exact BK101.out) hb); have n1_ := zam (zbt (by repeat (first | (with_reducible first | exact HB.out | apply zba | apply zbn | apply zb1 | refine zbs ?_ GE101.out) | exact HB.out)) hb); have n2_ := zam (hbox); have n3_ := zam ((by rw [hg]; exact (zbz (by repeat (first | (with_reducible first | exact HB.out | apply zba | apply zbn | apply zb1 | refine zbs ?_ GE101.out) | exact HB.out))) : w.heap.size ≤ gb102)); have n4_ := zam ((by rw [hg]; exact (zbz (by repeat (first | (with_reducible first | exact HB.out | apply zba | apply zbn | apply zb1 | refine zbs ?_ GE101.out) | exact HB.out))) : w.heap.size ≤ gb102)); have n5_ := zam ((by rw [hg]; exact Nat.ne_of_lt (blk_lt (g := gb101) (o := .cells #[.int .i64 a0_0, .int .i64 a0_1] 32 (0, 0)) (by (with_reducible repeat (first | refine zkn ?_ _ | refine zkd ?_ | refine zka ?_ _)); exact BK101.out)) : gb101 ≠ gb102)); have n6_ := zam ((by rw [hg]; exact Nat.ne_of_gt (blk_lt (g := gb101) (o := .cells #[.int .i64 a0_0, .int .i64 a0_1] 32 (0, 0)) (by (with_reducible repeat (first | refine zkn ?_ _ | refine zkd ?_ | refine zka ?_ _)); exact BK101.out)) : gb102 ≠ gb101)); clear BK101; clear HB; have BK101 := n0_; have HB := n1_; have BK102 := n2_; have GW102 := n3_; have GE102 := n4_; have NB101_102 := n5_; have NB102_101 := n6_; clear n0_ n1_ n2_ n3_ n4_ n5_ n6_; clear hb hbox hg; have hnb44 := NB101_102.out; have hnc44 := NB102_101.out; have hcz45_0 : w43.cell? ⟨gb101, 0, none⟩ = some (.int .i64 a0_0) := (zkc BK101.out 0).trans rfl; have hcz45_1 : w43.cell? ⟨gb101, 1, none⟩ = some (.int .i64 a0_1) := (zkc BK101.out 1).trans rfl; have hfz45_0 := zkz BK101.out 0; have hfz45_1 := zkz BK101.out 1; have hcz46_0 : w43.cell? ⟨gb102, 0, none⟩ = some (.int .i64 a1_0) := (zkc BK102.out 0).trans rfl; have hcz46_1 : w43.cell? ⟨gb102, 1, none⟩ = some (.int .i64 a1_1) := (zkc BK102.out 1).trans rfl; have hfz46_0 := zkz BK102.out 0; have hfz46_1 := zkz BK102.out 1) | ((with_reducible refine zgd (N := 11) rfl ?_); refine Kd.R_lit k32 _ 32 ?hg (N := 11) ?hd (xs := ([(⟨a0_0, a0_1⟩ : S32), (⟨a1_0, a1_1⟩ : S32)] : List (S32))) (inner := [.int .i64 a0_0, .int .i64 a0_1, .int .i64 a1_0, .int .i64 a1_1]) (ok := fun _ => True) (okp := fun _ => True) ?hr ?hp (fun _ hk => hk) trivial (Below.refl _ _) (Nat.le_refl _) (by simp) ?_; (case hd => rfl); (case hg => rfl); (case hr => first | (go_simp; done) | (go_simp; rfl)); (case hp => exact (Reps.c2 (show Kd.M k32 _ _ _ (⟨a0_0, a0_1⟩ : S32) [.int .i64 a0_0, .int .i64 a0_1] from (k32_mkM _ _ _ (⟨a0_0, a0_1⟩ : S32) )) (Reps.c2 (show Kd.M k32 _ _ _ (⟨a1_0, a1_1⟩ : S32) [.int .i64 a1_0, .int .i64 a1_1] from (k32_mkM _ _ _ (⟨a1_0, a1_1⟩ : S32) )) (Reps.none _ _)))); intro v104 w47 ho48 hb hg_ hnew_; clear hg_ hnew_; (first | rw [← Ny103.out] at ho48 | (simp only [Int.reduceToNat] at ho48; rw [← Ny103.out] at ho48)); have n0_ := zam (Kd.R_lower (Kd.R_newB (Kd.R_newB ho48 (g := gb101) (o := .cells #[.int .i64 a0_0, .int .i64 a0_1] 32 (0, 0)) (by (with_reducible repeat (first | refine zkn ?_ _ | refine zkd ?_ | refine zka ?_ _)); exact BK101.out)) (g := gb102) (o := .cells #[.int .i64 a1_0, .int .i64 a1_1] 32 (0, 0)) (by (with_reducible repeat (first | refine zkn ?_ _ | refine zkd ?_ | refine zka ?_ _)); exact BK102.out)) (zbz (by repeat (first | (with_reducible first | exact HB.out | apply zba | apply zbn | apply zb1 | refine zbs ?_ GE101.out | refine zbs ?_ GE102.out) | exact HB.out)))); have n1_ := zam (zkb (g := gb101) (o := .cells #[.int .i64 a0_0, .int .i64 a0_1] 32 (0, 0)) (by (with_reducible repeat (first | refine zkn ?_ _ | refine zkd ?_ | refine zka ?_ _)); exact BK101.out) hb); have n2_ := zam (zkb (g := gb102) (o := .cells #[.int .i64 a1_0, .int .i64 a1_1] 32 (0, 0)) (by (with_reducible repeat (first | refine zkn ?_ _ | refine zkd ?_ | refine zka ?_ _)); exact BK102.out) hb); have n3_ := zam (zbt (by repeat (first | (with_reducible first | exact HB.out | apply zba | apply zbn | apply zb1 | refine zbs ?_ GE101.out | refine zbs ?_ GE102.out) | exact HB.out)) hb); clear BK101; clear BK102; clear HB; have HO105 := n0_; have BK101 := n1_; have BK102 := n2_; have HB := n3_; clear n0_ n1_ n2_ n3_; clear hb ho48; obtain ⟨Ao49, co49, eo49⟩ := Kd.R_slice HO105.out; subst eo49) | ((with_reducible refine zgc (f := 80) rfl ?_); refine goesL_ (some 12) rfl rfl Try.func80 (by kernel_rfl) rfl #[.slice Ao49 y103.length co49] rfl (by (try simp only [zmt, List.map_cons, List.map_nil]); first | done | rfl | (simp only [zld, zlt]; rfl)) ?_; (with_reducible refine (bound_check.calls k _ _ y103 t106 _ ?side1 ?side2 A3.out).mono ?_); (case side1 => repeat (first | exact (Kd.R_reads' HO105.out).2.2 | (with_reducible refine Kd.C_alloc ?_ _) | (with_reducible refine Kd.C_drewN ?_ _) | (with_reducible refine Kd.C_drew ?_))); (case side2 => exact (Kd.R_reads' HO105.out).2.1); rintro e w50 ⟨rfl, hb⟩; refine ⟨_, rfl, ?_⟩; have n0_ := zam (Kd.R_below (by (with_reducible repeat (first | apply zRa | apply zRn | apply zRd)); exact HO105.out) hb); have n1_ := zam (zkb (g := gb101) (o := .cells #[.int .i64 a0_0, .int .i64 a0_1] 32 (0, 0)) (by (with_reducible repeat (first | refine zkn ?_ _ | refine zkd ?_ | refine zka ?_ _)); exact BK101.out) hb); have n2_ := zam (zkb (g := gb102) (o := .cells #[.int .i64 a1_0, .int .i64 a1_1] 32 (0, 0)) (by (with_reducible repeat (first | refine zkn ?_ _ | refine zkd ?_ | refine zka ?_ _)); exact BK102.out) hb); have n3_ := zam (zbt (by repeat (first | (with_reducible first | exact HB.out | apply zba | apply zbn | apply zb1 | refine zbs ?_ GE101.out | refine zbs ?_ GE102.out) | exact HB.out)) hb); clear HO105; clear BK101; clear BK102; clear HB; have HO105 := n0_; have BK101 := n1_; have BK102 := n2_; have HB := n3_; clear n0_ n1_ n2_ n3_; (try clear hb); (try clear hb2); (try clear hk); (try clear hi); have hcz51_0 : w50.cell? ⟨gb101, 0, none⟩ = some (.int .i64 a0_0) := (zkc BK101.out 0).trans rfl; have hcz51_1 : w50.cell? ⟨gb101, 1, none⟩ = some (.int .i64 a0_1) := (zkc BK101.out 1).trans rfl; have hfz51_0 := zkz BK101.out 0; have hfz51_1 := zkz BK101.out 1; have hcz52_0 : w50.cell? ⟨gb102, 0, none⟩ = some (.int .i64 a1_0) := (zkc BK102.out 0).trans rfl; have hcz52_1 : w50.cell? ⟨gb102, 1, none⟩ = some (.int .i64 a1_1) := (zkc BK102.out 1).trans rfl; have hfz52_0 := zkz BK102.out 0; have hfz52_1 := zkz BK102.out 1) | ((with_reducible refine zgc (f := 81) rfl ?_); refine goesL_ (some 19) rfl rfl Try.func81 (by kernel_rfl) rfl #[.agg #[.int .i64 a0_0, .int .i64 a0_1], .agg #[.int .i64 a1_0, .int .i64 a1_1]] rfl (by (try simp only [zmt, List.map_cons, List.map_nil]); first | done | rfl | (simp only [zld, zlt]; rfl)) ?_; (with_reducible refine (bound_meet.calls a0_0 a0_1 a1_0 a1_1 t107 t108 false _ A5.out).mono ?_); rintro e w53 ⟨rfl, hb⟩; refine ⟨_, rfl, ?_⟩; have n0_ := zam (Kd.R_below (by (with_reducible repeat (first | apply zRa | apply zRn | apply zRd)); exact HO105.out) hb); have n1_ := zam (zkb (g := gb101) (o := .cells #[.int .i64 a0_0, .int .i64 a0_1] 32 (0, 0)) (by (with_reducible repeat (first | refine zkn ?_ _ | refine zkd ?_ | refine zka ?_ _)); exact BK101.out) hb); have n2_ := zam (zkb (g := gb102) (o := .cells #[.int .i64 a1_0, .int .i64 a1_1] 32 (0, 0)) (by (with_reducible repeat (first | refine zkn ?_ _ | refine zkd ?_ | refine zka ?_ _)); exact BK102.out) hb); have n3_ := zam (zbt (by repeat (first | (with_reducible first | exact HB.out | apply zba | apply zbn | apply zb1 | refine zbs ?_ GE101.out | refine zbs ?_ GE102.out) | exact HB.out)) hb); clear HO105; clear BK101; clear BK102; clear HB; have HO105 := n0_; have BK101 := n1_; have BK102 := n2_; have HB := n3_; clear n0_ n1_ n2_ n3_; (try clear hb); (try clear hb2); (try clear hk); (try clear hi)) | ((with_reducible refine zgd (N := 7) rfl ?_); refine box_event ?hg (N := 7) ?hd (cs := #[.int .i64 0, .int .i64 0]) (t := 32) ?hr ?_; (case hd => rfl); (case hg => rfl); (case hr => first | (go_simp; done) | (go_simp; rfl)); intro gb110 hg w54 hbox hb; have n0_ := zam (Kd.R_below (Kd.R_elderB (by (with_reducible repeat (first | apply zRa | apply zRn | apply zRd)); exact HO105.out) gb110 (Nat.le_of_eq hg.symm)) hb); have n1_ := zam (zkb (g := gb101) (o := .cells #[.int .i64 a0_0, .int .i64 a0_1] 32 (0, 0)) (by (with_reducible repeat (first | refine zkn ?_ _ | refine zkd ?_ | refine zka ?_ _)); exact BK101.out) hb); have n2_ := zam (zkb (g := gb102) (o := .cells #[.int .i64 a1_0, .int .i64 a1_1] 32 (0, 0)) (by (with_reducible repeat (first | refine zkn ?_ _ | refine zkd ?_ | refine zka ?_ _)); exact BK102.out) hb); have n3_ := zam (zbt (by repeat (first | (with_reducible first | exact HB.out | apply zba | apply zbn | apply zb1 | refine zbs ?_ GE101.out | refine zbs ?_ GE102.out) | exact HB.out)) hb); have n4_ := zam (hbox); have n5_ := zam ((by rw [hg]; exact (zbz (by repeat (first | (with_reducible first | exact HB.out | apply zba | apply zbn | apply zb1 | refine zbs ?_ GE101.out | refine zbs ?_ GE102.out) | exact HB.out))) : w.heap.size ≤ gb110)); have n6_ := zam ((by rw [hg]; exact (zbz (by repeat (first | (with_reducible first | exact HB.out | apply zba | apply zbn | apply zb1 | refine zbs ?_ GE101.out | refine zbs ?_ GE102.out) | exact HB.out))) : w.heap.size ≤ gb110)); have n7_ := zam ((by rw [hg]; exact Nat.ne_of_lt (blk_lt (g := gb101) (o := .cells #[.int .i64 a0_0, .int .i64 a0_1] 32 (0, 0)) (by (with_reducible repeat (first | refine zkn ?_ _ | refine zkd ?_ | refine zka ?_ _)); exact BK101.out)) : gb101 ≠ gb110)); have n8_ := zam ((by rw [hg]; exact Nat.ne_of_gt (blk_lt (g := gb101) (o := .cells #[.int .i64 a0_0, .int .i64 a0_1] 32 (0, 0)) (by (with_reducible repeat (first | refine zkn ?_ _ | refine zkd ?_ | refine zka ?_ _)); exact BK101.out)) : gb110 ≠ gb101)); have n9_ := zam ((by rw [hg]; exact Nat.ne_of_lt (blk_lt (g := gb102) (o := .cells #[.int .i64 a1_0, .int .i64 a1_1] 32 (0, 0)) (by (with_reducible repeat (first | refine zkn ?_ _ | refine zkd ?_ | refine zka ?_ _)); exact BK102.out)) : gb102 ≠ gb110)); have n10_ := zam ((by rw [hg]; exact Nat.ne_of_gt (blk_lt (g := gb102) (o := .cells #[.int .i64 a1_0, .int .i64 a1_1] 32 (0, 0)) (by (with_reducible repeat (first | refine zkn ?_ _ | refine zkd ?_ | refine zka ?_ _)); exact BK102.out)) : gb110 ≠ gb102)); clear HO105; clear BK101; clear BK102; clear HB; have HO105 := n0_; have BK101 := n1_; have BK102 := n2_; have HB := n3_; have BK110 := n4_; have GW110 := n5_; have GE110 := n6_; have NB101_110 := n7_; have NB110_101 := n8_; have NB102_110 := n9_; have NB110_102 := n10_; clear n0_ n1_ n2_ n3_ n4_ n5_ n6_ n7_ n8_ n9_ n10_; clear hb hbox hg; have hnb55 := NB110_101.out; have hnc55 := NB101_110.out; have hnb56 := NB110_102.out; have hnc56 := NB102_110.out; have hcz57_0 : w54.cell? ⟨gb110, 0, none⟩ = some (.int .i64 0) := (zkc BK110.out 0).trans rfl; have hcz57_1 : w54.cell? ⟨gb110, 1, none⟩ = some (.int .i64 0) := (zkc BK110.out 1).trans rfl; have hfz57_0 := zkz BK110.out 0; have hfz57_1 := zkz BK110.out 1))
  go_ret2
  exact ⟨by first | rfl | (simp [errW_none, errW_some] <;> rfl) | (simp [*, errW_none, errW_some] <;> rfl), by repeat (first | (with_reducible first | exact HB.out | apply zba | apply zbn | apply zb1 | refine zbs ?_ GE101.out | refine zbs ?_ GE102.out | refine zbs ?_ GE110.out) | exact HB.out)⟩
 rw [if_neg c4] at H
 have c4b0 : (t106 == 0) = false := beq_eq_false_iff_ne.mpr c4
 have c4b1 : (t106 != 0) = true := bne_iff_ne.mpr c4
 simp only [Option.some.injEq, Prod.mk.injEq] at H
 obtain ⟨rfl, rfl⟩ := H
 go_enter Try.func25, Try.ntmps25
 go_wp2_with (first | ((with_reducible refine zgd (N := 2) rfl ?_); refine box_event ?hg (N := 2) ?hd (cs := #[.int .i64 a0_0, .int .i64 a0_1]) (t := 32) ?hr ?_; (case hd => rfl); (case hg => rfl); (case hr => first | (go_simp; done) | (go_simp; rfl)); intro gb101 hg w58 hbox hb; have n0_ := zam (zbt (by repeat (first | (with_reducible first | exact HB.out | apply zba | apply zbn | apply zb1) | exact HB.out)) hb); have n1_ := zam (hbox); have n2_ := zam ((by rw [hg]; exact (zbz (by repeat (first | (with_reducible first | exact HB.out | apply zba | apply zbn | apply zb1) | exact HB.out))) : w.heap.size ≤ gb101)); have n3_ := zam ((by rw [hg]; exact (zbz (by repeat (first | (with_reducible first | exact HB.out | apply zba | apply zbn | apply zb1) | exact HB.out))) : w.heap.size ≤ gb101)); clear HB; have HB := n0_; have BK101 := n1_; have GW101 := n2_; have GE101 := n3_; clear n0_ n1_ n2_ n3_; clear hb hbox hg) | ((with_reducible refine zgd (N := 3) rfl ?_); refine box_event ?hg (N := 3) ?hd (cs := #[.int .i64 a1_0, .int .i64 a1_1]) (t := 32) ?hr ?_; (case hd => rfl); (case hg => rfl); (case hr => first | (go_simp; done) | (go_simp; rfl)); intro gb102 hg w59 hbox hb; have n0_ := zam (zkb (g := gb101) (o := .cells #[.int .i64 a0_0, .int .i64 a0_1] 32 (0, 0)) (by (with_reducible repeat (first | refine zkn ?_ _ | refine zkd ?_ | refine zka ?_ _)); exact BK101.out) hb); have n1_ := zam (zbt (by repeat (first | (with_reducible first | exact HB.out | apply zba | apply zbn | apply zb1 | refine zbs ?_ GE101.out) | exact HB.out)) hb); have n2_ := zam (hbox); have n3_ := zam ((by rw [hg]; exact (zbz (by repeat (first | (with_reducible first | exact HB.out | apply zba | apply zbn | apply zb1 | refine zbs ?_ GE101.out) | exact HB.out))) : w.heap.size ≤ gb102)); have n4_ := zam ((by rw [hg]; exact (zbz (by repeat (first | (with_reducible first | exact HB.out | apply zba | apply zbn | apply zb1 | refine zbs ?_ GE101.out) | exact HB.out))) : w.heap.size ≤ gb102)); have n5_ := zam ((by rw [hg]; exact Nat.ne_of_lt (blk_lt (g := gb101) (o := .cells #[.int .i64 a0_0, .int .i64 a0_1] 32 (0, 0)) (by (with_reducible repeat (first | refine zkn ?_ _ | refine zkd ?_ | refine zka ?_ _)); exact BK101.out)) : gb101 ≠ gb102)); have n6_ := zam ((by rw [hg]; exact Nat.ne_of_gt (blk_lt (g := gb101) (o := .cells #[.int .i64 a0_0, .int .i64 a0_1] 32 (0, 0)) (by (with_reducible repeat (first | refine zkn ?_ _ | refine zkd ?_ | refine zka ?_ _)); exact BK101.out)) : gb102 ≠ gb101)); clear BK101; clear HB; have BK101 := n0_; have HB := n1_; have BK102 := n2_; have GW102 := n3_; have GE102 := n4_; have NB101_102 := n5_; have NB102_101 := n6_; clear n0_ n1_ n2_ n3_ n4_ n5_ n6_; clear hb hbox hg; have hnb60 := NB101_102.out; have hnc60 := NB102_101.out; have hcz61_0 : w59.cell? ⟨gb101, 0, none⟩ = some (.int .i64 a0_0) := (zkc BK101.out 0).trans rfl; have hcz61_1 : w59.cell? ⟨gb101, 1, none⟩ = some (.int .i64 a0_1) := (zkc BK101.out 1).trans rfl; have hfz61_0 := zkz BK101.out 0; have hfz61_1 := zkz BK101.out 1; have hcz62_0 : w59.cell? ⟨gb102, 0, none⟩ = some (.int .i64 a1_0) := (zkc BK102.out 0).trans rfl; have hcz62_1 : w59.cell? ⟨gb102, 1, none⟩ = some (.int .i64 a1_1) := (zkc BK102.out 1).trans rfl; have hfz62_0 := zkz BK102.out 0; have hfz62_1 := zkz BK102.out 1) | ((with_reducible refine zgd (N := 11) rfl ?_); refine Kd.R_lit k32 _ 32 ?hg (N := 11) ?hd (xs := ([(⟨a0_0, a0_1⟩ : S32), (⟨a1_0, a1_1⟩ : S32)] : List (S32))) (inner := [.int .i64 a0_0, .int .i64 a0_1, .int .i64 a1_0, .int .i64 a1_1]) (ok := fun _ => True) (okp := fun _ => True) ?hr ?hp (fun _ hk => hk) trivial (Below.refl _ _) (Nat.le_refl _) (by simp) ?_; (case hd => rfl); (case hg => rfl); (case hr => first | (go_simp; done) | (go_simp; rfl)); (case hp => exact (Reps.c2 (show Kd.M k32 _ _ _ (⟨a0_0, a0_1⟩ : S32) [.int .i64 a0_0, .int .i64 a0_1] from (k32_mkM _ _ _ (⟨a0_0, a0_1⟩ : S32) )) (Reps.c2 (show Kd.M k32 _ _ _ (⟨a1_0, a1_1⟩ : S32) [.int .i64 a1_0, .int .i64 a1_1] from (k32_mkM _ _ _ (⟨a1_0, a1_1⟩ : S32) )) (Reps.none _ _)))); intro v104 w63 ho64 hb hg_ hnew_; clear hg_ hnew_; (first | rw [← Ny103.out] at ho64 | (simp only [Int.reduceToNat] at ho64; rw [← Ny103.out] at ho64)); have n0_ := zam (Kd.R_lower (Kd.R_newB (Kd.R_newB ho64 (g := gb101) (o := .cells #[.int .i64 a0_0, .int .i64 a0_1] 32 (0, 0)) (by (with_reducible repeat (first | refine zkn ?_ _ | refine zkd ?_ | refine zka ?_ _)); exact BK101.out)) (g := gb102) (o := .cells #[.int .i64 a1_0, .int .i64 a1_1] 32 (0, 0)) (by (with_reducible repeat (first | refine zkn ?_ _ | refine zkd ?_ | refine zka ?_ _)); exact BK102.out)) (zbz (by repeat (first | (with_reducible first | exact HB.out | apply zba | apply zbn | apply zb1 | refine zbs ?_ GE101.out | refine zbs ?_ GE102.out) | exact HB.out)))); have n1_ := zam (zkb (g := gb101) (o := .cells #[.int .i64 a0_0, .int .i64 a0_1] 32 (0, 0)) (by (with_reducible repeat (first | refine zkn ?_ _ | refine zkd ?_ | refine zka ?_ _)); exact BK101.out) hb); have n2_ := zam (zkb (g := gb102) (o := .cells #[.int .i64 a1_0, .int .i64 a1_1] 32 (0, 0)) (by (with_reducible repeat (first | refine zkn ?_ _ | refine zkd ?_ | refine zka ?_ _)); exact BK102.out) hb); have n3_ := zam (zbt (by repeat (first | (with_reducible first | exact HB.out | apply zba | apply zbn | apply zb1 | refine zbs ?_ GE101.out | refine zbs ?_ GE102.out) | exact HB.out)) hb); clear BK101; clear BK102; clear HB; have HO105 := n0_; have BK101 := n1_; have BK102 := n2_; have HB := n3_; clear n0_ n1_ n2_ n3_; clear hb ho64; obtain ⟨Ao65, co65, eo65⟩ := Kd.R_slice HO105.out; subst eo65) | ((with_reducible refine zgc (f := 80) rfl ?_); refine goesL_ (some 12) rfl rfl Try.func80 (by kernel_rfl) rfl #[.slice Ao65 y103.length co65] rfl (by (try simp only [zmt, List.map_cons, List.map_nil]); first | done | rfl | (simp only [zld, zlt]; rfl)) ?_; (with_reducible refine (bound_check.calls k _ _ y103 t106 _ ?side1 ?side2 A3.out).mono ?_); (case side1 => repeat (first | exact (Kd.R_reads' HO105.out).2.2 | (with_reducible refine Kd.C_alloc ?_ _) | (with_reducible refine Kd.C_drewN ?_ _) | (with_reducible refine Kd.C_drew ?_))); (case side2 => exact (Kd.R_reads' HO105.out).2.1); rintro e w66 ⟨rfl, hb⟩; refine ⟨_, rfl, ?_⟩; have n0_ := zam (Kd.R_below (by (with_reducible repeat (first | apply zRa | apply zRn | apply zRd)); exact HO105.out) hb); have n1_ := zam (zkb (g := gb101) (o := .cells #[.int .i64 a0_0, .int .i64 a0_1] 32 (0, 0)) (by (with_reducible repeat (first | refine zkn ?_ _ | refine zkd ?_ | refine zka ?_ _)); exact BK101.out) hb); have n2_ := zam (zkb (g := gb102) (o := .cells #[.int .i64 a1_0, .int .i64 a1_1] 32 (0, 0)) (by (with_reducible repeat (first | refine zkn ?_ _ | refine zkd ?_ | refine zka ?_ _)); exact BK102.out) hb); have n3_ := zam (zbt (by repeat (first | (with_reducible first | exact HB.out | apply zba | apply zbn | apply zb1 | refine zbs ?_ GE101.out | refine zbs ?_ GE102.out) | exact HB.out)) hb); clear HO105; clear BK101; clear BK102; clear HB; have HO105 := n0_; have BK101 := n1_; have BK102 := n2_; have HB := n3_; clear n0_ n1_ n2_ n3_; (try clear hb); (try clear hb2); (try clear hk); (try clear hi)))
 go_ret2
 exact ⟨by first | rfl | (simp [errW_none, errW_some] <;> rfl) | (simp [*, errW_none, errW_some] <;> rfl), by repeat (first | (with_reducible first | exact HB.out | apply zba | apply zbn | apply zb1 | refine zbs ?_ GE101.out | refine zbs ?_ GE102.out) | exact HB.out)⟩
end Go.Proofs.Ytlkafgibgipodaa.P
namespace Go.Proofs.Ytlkafgibgipodaa.P
open Go.RowKit Go.Proofs.YtlkafgibgipodaaW.PrintWords Go.Proofs.YtlkafgibgipodaaW.PrintLast Go.Proofs.YtlkafgibgipodaaW.PrintMore
attribute [local go_sem] max2_int min2_int max_two min_two max_three min_three max_four min_four   -- for this text's walks alone
set_option linter.unusedVariables false
set_option linter.unusedSimpArgs false
set_option maxHeartbeats 8000000 in
set_option maxRecDepth 100000 in
theorem bound_Less.calls (k : Nat) (a0_0 : Int) (a0_1 : Int) (a1_0 : Int) (a1_1 : Int) (r1 : Int) (r2 : Int) (w : World) (h : bound_Less.f k a0_0 a0_1 a1_0 a1_1 = some (r1, r2)) :
  Calls Try.prog 24 #[.agg #[.int .i64 a0_0, .int .i64 a0_1], .agg #[.int .i64 a1_0, .int .i64 a1_1]] w fun e w' => e = .returned (.tuple #[.int .i64 r1, .int .i64 r2]) ∧ Below w.heap.size w w' := by
 have hu32 := Try.underlying32
 have HB := zam (Below.refl w.heap.size w)
 have H : ((bound_check.f k (([(⟨a0_0, a0_1⟩ : S32), (⟨a1_0, a1_1⟩ : S32)] : List (S32)))).bind fun t106 => (if t106 = 0 then (if a0_1 < a1_0 then (some (2, 0)) else (if a0_0 ≥ a1_1 then (some (0, 0)) else (some (1, 0)))) else (some (0, t106)))) = some (r1, r2) := h
 clear h
 obtain ⟨y103, hy103⟩ : ∃ y_ : List (S32), y_ = (([(⟨a0_0, a0_1⟩ : S32), (⟨a1_0, a1_1⟩ : S32)] : List (S32))) := ⟨_, rfl⟩
 replace H : ((bound_check.f k y103).bind fun t106 => (if t106 = 0 then (if a0_1 < a1_0 then (some (2, 0)) else (if a0_0 ≥ a1_1 then (some (0, 0)) else (some (1, 0)))) else (some (0, t106)))) = some (r1, r2) := by first | (rw [hy103]; with_reducible exact H) | (have H2_ := (Option.bind_some _ _).symm.trans H; rw [hy103]; with_reducible exact H2_) | (have H2_ := (Option.bind_some _ _).symm.trans H; with_reducible exact H2_) | with_reducible exact H | (rw [hy103]; exact H) | exact H
 have Ny103 := zam hy103
 clear hy103
 replace H := Option.bind_eq_some_iff.mp H
 obtain ⟨t106, A30, H⟩ := H
 replace H : (if t106 = 0 then (if a0_1 < a1_0 then (some (2, 0)) else (if a0_0 ≥ a1_1 then (some (0, 0)) else (some (1, 0)))) else (some (0, t106))) = some (r1, r2) := H
 have A3 := zam A30
 clear A30
 by_cases c4 : t106 = 0
 ·rw [if_pos c4] at H
  have c4b0 : (t106 == 0) = true := beq_iff_eq.mpr c4
  have c4b1 : (t106 != 0) = false := bne_eq_false_iff_eq.mpr c4
  clear c4
  by_cases c5 : a0_1 < a1_0
  ·rw [if_pos c5] at H
   have c5b0 : decide (a0_1 < a1_0) = true := zdt c5
   clear c5
   simp only [Option.some.injEq, Prod.mk.injEq] at H
   obtain ⟨rfl, rfl⟩ := H
   go_enter Try.func24, Try.ntmps24
   go_wp2_with (first | ((with_reducible refine zgd (N := 2) rfl ?_); refine box_event ?hg (N := 2) ?hd (cs := #[.int .i64 a0_0, .int .i64 a0_1]) (t := 32) ?hr ?_; (case hd => rfl); (case hg => rfl); (case hr => first | (go_simp; done) | (go_simp; rfl)); intro gb101 hg w6 hbox hb; have n0_ := zam (zbt (by repeat (first | (with_reducible first | exact HB.out | apply zba | apply zbn | apply zb1) | exact HB.out)) hb); have n1_ := zam (hbox); have n2_ := zam ((by rw [hg]; exact (zbz (by repeat (first | (with_reducible first | exact HB.out | apply zba | apply zbn | apply zb1) | exact HB.out))) : w.heap.size ≤ gb101)); have n3_ := zam ((by rw [hg]; exact (zbz (by repeat (first | (with_reducible first | exact HB.out | apply zba | apply zbn | apply zb1) | exact HB.out))) : w.heap.size ≤ gb101)); clear HB; have HB := n0_; have BK101 := n1_; have GW101 := n2_; have GE101 := n3_; clear n0_ n1_ n2_ n3_; clear hb hbox hg) | ((with_reducible refine zgd (N := 3) rfl ?_); refine box_event ?hg (N := 3) ?hd (cs := #[.int .i64 a1_0, .int .i64 a1_1]) (t := 32) ?hr ?_; (case hd => rfl); (case hg => rfl); (case hr => first | (go_simp; done) | (go_simp; rfl)); intro gb102 hg w7 hbox hb; have n0_ := zam (zkb (g := gb101) (o := .cells #[.int .i64 a0_0, .int .i64 a0_1] 32 (0, 0)) (by (with_reducible repeat (first | refine zkn ?_ _ | refine zkd ?_ | refine zka ?_ _)); exact BK101.out) hb); have n1_ := zam (zbt (by repeat (first | (with_reducible first | exact HB.out | apply zba | apply zbn | apply zb1 | refine zbs ?_ GE101.out) | exact HB.out)) hb); have n2_ := zam (hbox); have n3_ := zam ((by rw [hg]; exact (zbz (by repeat (first | (with_reducible first | exact HB.out | apply zba | apply zbn | apply zb1 | refine zbs ?_ GE101.out) | exact HB.out))) : w.heap.size ≤ gb102)); have n4_ := zam ((by rw [hg]; exact (zbz (by repeat (first | (with_reducible first | exact HB.out | apply zba | apply zbn | apply zb1 | refine zbs ?_ GE101.out) | exact HB.out))) : w.heap.size ≤ gb102)); have n5_ := zam ((by rw [hg]; exact Nat.ne_of_lt (blk_lt (g := gb101) (o := .cells #[.int .i64 a0_0, .int .i64 a0_1] 32 (0, 0)) (by (with_reducible repeat (first | refine zkn ?_ _ | refine zkd ?_ | refine zka ?_ _)); exact BK101.out)) : gb101 ≠ gb102)); have n6_ := zam ((by rw [hg]; exact Nat.ne_of_gt (blk_lt (g := gb101) (o := .cells #[.int .i64 a0_0, .int .i64 a0_1] 32 (0, 0)) (by (with_reducible repeat (first | refine zkn ?_ _ | refine zkd ?_ | refine zka ?_ _)); exact BK101.out)) : gb102 ≠ gb101)); clear BK101; clear HB; have BK101 := n0_; have HB := n1_; have BK102 := n2_; have GW102 := n3_; have GE102 := n4_; have NB101_102 := n5_; have NB102_101 := n6_; clear n0_ n1_ n2_ n3_ n4_ n5_ n6_; clear hb hbox hg; have hnb8 := NB101_102.out; have hnc8 := NB102_101.out; have hcz9_0 : w7.cell? ⟨gb101, 0, none⟩ = some (.int .i64 a0_0) := (zkc BK101.out 0).trans rfl; have hcz9_1 : w7.cell? ⟨gb101, 1, none⟩ = some (.int .i64 a0_1) := (zkc BK101.out 1).trans rfl; have hfz9_0 := zkz BK101.out 0; have hfz9_1 := zkz BK101.out 1; have hcz10_0 : w7.cell? ⟨gb102, 0, none⟩ = some (.int .i64 a1_0) := (zkc BK102.out 0).trans rfl; have hcz10_1 : w7.cell? ⟨gb102, 1, none⟩ = some (.int .i64 a1_1) := (zkc BK102.out 1).trans rfl; have hfz10_0 := zkz BK102.out 0; have hfz10_1 := zkz BK102.out 1) | ((with_reducible refine zgd (N := 9) rfl ?_); refine Kd.R_lit k32 _ 32 ?hg (N := 9) ?hd (xs := ([(⟨a0_0, a0_1⟩ : S32), (⟨a1_0, a1_1⟩ : S32)] : List (S32))) (inner := [.int .i64 a0_0, .int .i64 a0_1, .int .i64 a1_0, .int .i64 a1_1]) (ok := fun _ => True) (okp := fun _ => True) ?hr ?hp (fun _ hk => hk) trivial (Below.refl _ _) (Nat.le_refl _) (by simp) ?_; (case hd => rfl); (case hg => rfl); (case hr => first | (go_simp; done) | (go_simp; rfl)); (case hp => exact (Reps.c2 (show Kd.M k32 _ _ _ (⟨a0_0, a0_1⟩ : S32) [.int .i64 a0_0, .int .i64 a0_1] from (k32_mkM _ _ _ (⟨a0_0, a0_1⟩ : S32) )) (Reps.c2 (show Kd.M k32 _ _ _ (⟨a1_0, a1_1⟩ : S32) [.int .i64 a1_0, .int .i64 a1_1] from (k32_mkM _ _ _ (⟨a1_0, a1_1⟩ : S32) )) (Reps.none _ _)))); intro v104 w11 ho12 hb hg_ hnew_; clear hg_ hnew_; (first | rw [← Ny103.out] at ho12 | (simp only [Int.reduceToNat] at ho12; rw [← Ny103.out] at ho12)); have n0_ := zam (Kd.R_lower (Kd.R_newB (Kd.R_newB ho12 (g := gb101) (o := .cells #[.int .i64 a0_0, .int .i64 a0_1] 32 (0, 0)) (by (with_reducible repeat (first | refine zkn ?_ _ | refine zkd ?_ | refine zka ?_ _)); exact BK101.out)) (g := gb102) (o := .cells #[.int .i64 a1_0, .int .i64 a1_1] 32 (0, 0)) (by (with_reducible repeat (first | refine zkn ?_ _ | refine zkd ?_ | refine zka ?_ _)); exact BK102.out)) (zbz (by repeat (first | (with_reducible first | exact HB.out | apply zba | apply zbn | apply zb1 | refine zbs ?_ GE101.out | refine zbs ?_ GE102.out) | exact HB.out)))); have n1_ := zam (zkb (g := gb101) (o := .cells #[.int .i64 a0_0, .int .i64 a0_1] 32 (0, 0)) (by (with_reducible repeat (first | refine zkn ?_ _ | refine zkd ?_ | refine zka ?_ _)); exact BK101.out) hb); have n2_ := zam (zkb (g := gb102) (o := .cells #[.int .i64 a1_0, .int .i64 a1_1] 32 (0, 0)) (by (with_reducible repeat (first | refine zkn ?_ _ | refine zkd ?_ | refine zka ?_ _)); exact BK102.out) hb); have n3_ := zam (zbt (by repeat (first | (with_reducible first | exact HB.out | apply zba | apply zbn | apply zb1 | refine zbs ?_ GE101.out | refine zbs ?_ GE102.out) | exact HB.out)) hb); clear BK101; clear BK102; clear HB; have HO105 := n0_; have BK101 := n1_; have BK102 := n2_; have HB := n3_; clear n0_ n1_ n2_ n3_; clear hb ho12; obtain ⟨Ao13, co13, eo13⟩ := Kd.R_slice HO105.out; subst eo13) | ((with_reducible refine zgc (f := 80) rfl ?_); refine goesL_ (some 10) rfl rfl Try.func80 (by kernel_rfl) rfl #[.slice Ao13 y103.length co13] rfl (by (try simp only [zmt, List.map_cons, List.map_nil]); first | done | rfl | (simp only [zld, zlt]; rfl)) ?_; (with_reducible refine (bound_check.calls k _ _ y103 t106 _ ?side1 ?side2 A3.out).mono ?_); (case side1 => repeat (first | exact (Kd.R_reads' HO105.out).2.2 | (with_reducible refine Kd.C_alloc ?_ _) | (with_reducible refine Kd.C_drewN ?_ _) | (with_reducible refine Kd.C_drew ?_))); (case side2 => exact (Kd.R_reads' HO105.out).2.1); rintro e w14 ⟨rfl, hb⟩; refine ⟨_, rfl, ?_⟩; have n0_ := zam (Kd.R_below (by (with_reducible repeat (first | apply zRa | apply zRn | apply zRd)); exact HO105.out) hb); have n1_ := zam (zkb (g := gb101) (o := .cells #[.int .i64 a0_0, .int .i64 a0_1] 32 (0, 0)) (by (with_reducible repeat (first | refine zkn ?_ _ | refine zkd ?_ | refine zka ?_ _)); exact BK101.out) hb); have n2_ := zam (zkb (g := gb102) (o := .cells #[.int .i64 a1_0, .int .i64 a1_1] 32 (0, 0)) (by (with_reducible repeat (first | refine zkn ?_ _ | refine zkd ?_ | refine zka ?_ _)); exact BK102.out) hb); have n3_ := zam (zbt (by repeat (first | (with_reducible first | exact HB.out | apply zba | apply zbn | apply zb1 | refine zbs ?_ GE101.out | refine zbs ?_ GE102.out) | exact HB.out)) hb); clear HO105; clear BK101; clear BK102; clear HB; have HO105 := n0_; have BK101 := n1_; have BK102 := n2_; have HB := n3_; clear n0_ n1_ n2_ n3_; (try clear hb); (try clear hb2); (try clear hk); (try clear hi); have hcz15_0 : w14.cell? ⟨gb101, 0, none⟩ = some (.int .i64 a0_0) := (zkc BK101.out 0).trans rfl; have hcz15_1 : w14.cell? ⟨gb101, 1, none⟩ = some (.int .i64 a0_1) := (zkc BK101.out 1).trans rfl; have hfz15_0 := zkz BK101.out 0; have hfz15_1 := zkz BK101.out 1; have hcz16_0 : w14.cell? ⟨gb102, 0, none⟩ = some (.int .i64 a1_0) := (zkc BK102.out 0).trans rfl; have hcz16_1 : w14.cell? ⟨gb102, 1, none⟩ = some (.int .i64 a1_1) := (zkc BK102.out 1).trans rfl; have hfz16_0 := zkz BK102.out 0; have hfz16_1 := zkz BK102.out 1))
   go_ret2
   exact ⟨by first | rfl | (simp [errW_none, errW_some] <;> rfl) | (simp [*, errW_none, errW_some] <;> rfl), by repeat (first | (with_reducible first | exact HB.out | apply zba | apply zbn | apply zb1 | refine zbs ?_ GE101.out | refine zbs ?_ GE102.out) | exact HB.out)⟩
  rw [if_neg c5] at H
  have c5b0 : decide (a0_1 < a1_0) = false := zdf c5
  clear c5
  by_cases c17 : a0_0 ≥ a1_1
  ·rw [if_pos c17] at H
   have c17b0 : decide (a1_1 ≤ a0_0) = true := zdt c17
   clear c17
   simp only [Option.some.injEq, Prod.mk.injEq] at H
   obtain ⟨rfl, rfl⟩ := H
   go_enter Try.func24, Try.ntmps24
   go_wp2_with (first | ((with_reducible refine zgd (N := 2) rfl ?_); refine box_event ?hg (N := 2) ?hd (cs := #[.int .i64 a0_0, .int .i64 a0_1]) (t := 32) ?hr ?_; (case hd => rfl); (case hg => rfl); (case hr => first | (go_simp; done) | (go_simp; rfl)); intro gb101 hg w18 hbox hb; have n0_ := zam (zbt (by repeat (first | (with_reducible first | exact HB.out | apply zba | apply zbn | apply zb1) | exact HB.out)) hb); have n1_ := zam (hbox); have n2_ := zam ((by rw [hg]; exact (zbz (by repeat (first | (with_reducible first | exact HB.out | apply zba | apply zbn | apply zb1) | exact HB.out))) : w.heap.size ≤ gb101)); have n3_ := zam ((by rw [hg]; exact (zbz (by repeat (first | (with_reducible first | exact HB.out | apply zba | apply zbn | apply zb1) | exact HB.out))) : w.heap.size ≤ gb101)); clear HB; have HB := n0_; have BK101 := n1_; have GW101 := n2_; have GE101 := n3_; clear n0_ n1_ n2_ n3_; clear hb hbox hg) | ((with_reducible refine zgd (N := 3) rfl ?_); refine box_event ?hg (N := 3) ?hd (cs := #[.int .i64 a1_0, .int .i64 a1_1]) (t := 32) ?hr ?_; (case hd => rfl); (case hg => rfl); (case hr => first | (go_simp; done) | (go_simp; rfl)); intro gb102 hg w19 hbox hb; have n0_ := zam (zkb (g := gb101) (o := .cells #[.int .i64 a0_0, .int .i64 a0_1] 32 (0, 0)) (by (with_reducible repeat (first | refine zkn ?_ _ | refine zkd ?_ | refine zka ?_ _)); exact BK101.out) hb); have n1_ := zam (zbt (by repeat (first | (with_reducible first | exact HB.out | apply zba | apply zbn | apply zb1 | refine zbs ?_ GE101.out) | exact HB.out)) hb); have n2_ := zam (hbox); have n3_ := zam ((by rw [hg]; exact (zbz (by repeat (first | (with_reducible first | exact HB.out | apply zba | apply zbn | apply zb1 | refine zbs ?_ GE101.out) | exact HB.out))) : w.heap.size ≤ gb102)); have n4_ := zam ((by rw [hg]; exact (zbz (by repeat (first | (with_reducible first | exact HB.out | apply zba | apply zbn | apply zb1 | refine zbs ?_ GE101.out) | exact HB.out))) : w.heap.size ≤ gb102)); have n5_ := zam ((by rw [hg]; exact Nat.ne_of_lt (blk_lt (g := gb101) (o := .cells #[.int .i64 a0_0, .int .i64 a0_1] 32 (0, 0)) (by (with_reducible repeat (first | refine zkn ?_ _ | refine zkd ?_ | refine zka ?_ _)); exact BK101.out)) : gb101 ≠ gb102)); have n6_ := zam ((by rw [hg]; exact Nat.ne_of_gt (blk_lt (g := gb101) (o := .cells #[.int .i64 a0_0, .int .i64 a0_1] 32 (0, 0)) (by (with_reducible repeat (first | refine zkn ?_ _ | refine zkd ?_ | refine zka ?_ _)); exact BK101.out)) : gb102 ≠ gb101)); clear BK101; clear HB; have BK101 := n0_; have HB := n1_; have BK102 := n2_; have GW102 := n3_; have GE102 := n4_; have NB101_102 := n5_; have NB102_101 := n6_; clear n0_ n1_ n2_ n3_ n4_ n5_ n6_; clear hb hbox hg; have hnb20 := NB101_102.out; have hnc20 := NB102_101.out; have hcz21_0 : w19.cell? ⟨gb101, 0, none⟩ = some (.int .i64 a0_0) := (zkc BK101.out 0).trans rfl; have hcz21_1 : w19.cell? ⟨gb101, 1, none⟩ = some (.int .i64 a0_1) := (zkc BK101.out 1).trans rfl; have hfz21_0 := zkz BK101.out 0; have hfz21_1 := zkz BK101.out 1; have hcz22_0 : w19.cell? ⟨gb102, 0, none⟩ = some (.int .i64 a1_0) := (zkc BK102.out 0).trans rfl; have hcz22_1 : w19.cell? ⟨gb102, 1, none⟩ = some (.int .i64 a1_1) := (zkc BK102.out 1).trans rfl; have hfz22_0 := zkz BK102.out 0; have hfz22_1 := zkz BK102.out 1) | ((with_reducible refine zgd (N := 9) rfl ?_); refine Kd.R_lit k32 _ 32 ?hg (N := 9) ?hd (xs := ([(⟨a0_0, a0_1⟩ : S32), (⟨a1_0, a1_1⟩ : S32)] : List (S32))) (inner := [.int .i64 a0_0, .int .i64 a0_1, .int .i64 a1_0, .int .i64 a1_1]) (ok := fun _ => True) (okp := fun _ => True) ?hr ?hp (fun _ hk => hk) trivial (Below.refl _ _) (Nat.le_refl _) (by simp) ?_; (case hd => rfl); (case hg => rfl); (case hr => first | (go_simp; done) | (go_simp; rfl)); (case hp => exact (Reps.c2 (show Kd.M k32 _ _ _ (⟨a0_0, a0_1⟩ : S32) [.int .i64 a0_0, .int .i64 a0_1] from (k32_mkM _ _ _ (⟨a0_0, a0_1⟩ : S32) )) (Reps.c2 (show Kd.M k32 _ _ _ (⟨a1_0, a1_1⟩ : S32) [.int .i64 a1_0, .int .i64 a1_1] from (k32_mkM _ _ _ (⟨a1_0, a1_1⟩ : S32) )) (Reps.none _ _)))); intro v104 w23 ho24 hb hg_ hnew_; clear hg_ hnew_; (first | rw [← Ny103.out] at ho24 | (simp only [Int.reduceToNat] at ho24; rw [← Ny103.out] at ho24)); have n0_ := zam (Kd.R_lower (Kd.R_newB (Kd.R_newB ho24 (g := gb101) (o := .cells #[.int .i64 a0_0, .int .i64 a0_1] 32 (0, 0)) (by (with_reducible repeat (first | refine zkn ?_ _ | refine zkd ?_ | refine zka ?_ _)); exact BK101.out)) (g := gb102) (o := .cells #[.int .i64 a1_0, .int .i64 a1_1] 32 (0, 0)) (by (with_reducible repeat (first | refine zkn ?_ _ | refine zkd ?_ | refine zka ?_ _)); exact BK102.out)) (zbz (by repeat (first | (with_reducible first | exact HB.out | apply zba | apply zbn | apply zb1 | refine zbs ?_ GE101.out | refine zbs ?_ GE102.out) | exact HB.out)))); have n1_ := zam (zkb (g := gb101) (o := .cells #[.int .i64 a0_0, .int .i64 a0_1] 32 (0, 0)) (by (with_reducible repeat (first | refine zkn ?_ _ | refine zkd ?_ | refine zka ?_ _)); exact BK101.out) hb); have n2_ := zam (zkb (g := gb102) (o := .cells #[.int .i64 a1_0, .int .i64 a1_1] 32 (0, 0)) (by (with_reducible repeat (first | refine zkn ?_ _ | refine zkd ?_ | refine zka ?_ _)); exact BK102.out) hb); have n3_ := zam (zbt (by repeat (first | (with_reducible first | exact HB.out | apply zba | apply zbn | apply zb1 | refine zbs ?_ GE101.out | refine zbs ?_ GE102.out) | exact HB.out)) hb); clear BK101; clear BK102; clear HB; have HO105 := n0_; have BK101 := n1_; have BK102 := n2_; have HB := n3_; clear n0_ n1_ n2_ n3_; clear hb ho24; obtain ⟨Ao25, co25, eo25⟩ := Kd.R_slice HO105.out; subst eo25) | ((with_reducible refine zgc (f := 80) rfl ?_); refine goesL_ (some 10) rfl rfl Try.func80 (by kernel_rfl) rfl #[.slice Ao25 y103.length co25] rfl (by (try simp only [zmt, List.map_cons, List.map_nil]); first | done | rfl | (simp only [zld, zlt]; rfl)) ?_; (with_reducible refine (bound_check.calls k _ _ y103 t106 _ ?side1 ?side2 A3.out).mono ?_); (case side1 => repeat (first | exact (Kd.R_reads' HO105.out).2.2 | (with_reducible refine Kd.C_alloc ?_ _) | (with_reducible refine Kd.C_drewN ?_ _) | (with_reducible refine Kd.C_drew ?_))); (case side2 => exact (Kd.R_reads' HO105.out).2.1); rintro e w26 ⟨rfl, hb⟩; refine ⟨_, rfl, ?_⟩; have n0_ := zam (Kd.R_below (by (with_reducible repeat (first | apply zRa | apply zRn | apply zRd)); exact HO105.out) hb); have n1_ := zam (zkb (g := gb101) (o := .cells #[.int .i64 a0_0, .int .i64 a0_1] 32 (0, 0)) (by (with_reducible repeat (first | refine zkn ?_ _ | refine zkd ?_ | refine zka ?_ _)); exact BK101.out) hb); have n2_ := zam (zkb (g := gb102) (o := .cells #[.int .i64 a1_0, .int .i64 a1_1] 32 (0, 0)) (by (with_reducible repeat (first | refine zkn ?_ _ | refine zkd ?_ | refine zka ?_ _)); exact BK102.out) hb); have n3_ := zam (zbt (by repeat (first | (with_reducible first | exact HB.out | apply zba | apply zbn | apply zb1 | refine zbs ?_ GE101.out | refine zbs ?_ GE102.out) | exact HB.out)) hb); clear HO105; clear BK101; clear BK102; clear HB; have HO105 := n0_; have BK101 := n1_; have BK102 := n2_; have HB := n3_; clear n0_ n1_ n2_ n3_; (try clear hb); (try clear hb2); (try clear hk); (try clear hi); have hcz27_0 : w26.cell? ⟨gb101, 0, none⟩ = some (.int .i64 a0_0) := (zkc BK101.out 0).trans rfl; have hcz27_1 : w26.cell? ⟨gb101, 1, none⟩ = some (.int .i64 a0_1) := (zkc BK101.out 1).trans rfl; have hfz27_0 := zkz BK101.out 0; have hfz27_1 := zkz BK101.out 1; have hcz28_0 : w26.cell? ⟨gb102, 0, none⟩ = some (.int .i64 a1_0) := (zkc BK102.out 0).trans rfl; have hcz28_1 : w26.cell? ⟨gb102, 1, none⟩ = some (.int .i64 a1_1) := (zkc BK102.out 1).trans rfl; have hfz28_0 := zkz BK102.out 0; have hfz28_1 := zkz BK102.out 1))
   go_ret2
   exact ⟨by first | rfl | (simp [errW_none, errW_some] <;> rfl) | (simp [*, errW_none, errW_some] <;> rfl), by repeat (first | (with_reducible first | exact HB.out | apply zba | apply zbn | apply zb1 | refine zbs ?_ GE101.out | refine zbs ?_ GE102.out) | exact HB.out)⟩
  rw [if_neg c17] at H
  have c17b0 : decide (a1_1 ≤ a0_0) = false := zdf c17
  clear c17
  simp only [Option.some.injEq, Prod.mk.injEq] at H
  obtain ⟨rfl, rfl⟩ := H
  go_enter Try.func24, Try.ntmps24
  go_wp2_with (first | ((with_reducible refine zgd (N := 2) rfl ?_); refine box_event ?hg (N := 2) ?hd (cs := #[.int .i64 a0_0, .int .i64 a0_1]) (t := 32) ?hr ?_; (case hd => rfl); (case hg => rfl); (case hr => first | (go_simp; done) | (go_simp; rfl)); intro gb101 hg w29 hbox hb; have n0_ := zam (zbt (by repeat (first | (with_reducible first | exact HB.out | apply zba | apply zbn | apply zb1) | exact HB.out)) hb); have n1_ := zam (hbox); have n2_ := zam ((by rw [hg]; exact (zbz (by repeat (first | (with_reducible first | exact HB.out | apply zba | apply zbn | apply zb1) | exact HB.out))) : w.heap.size ≤ gb101)); have n3_ := zam ((by rw [hg]; exact (zbz (by repeat (first | (with_reducible first | exact HB.out | apply zba | apply zbn | apply zb1) | exact HB.out))) : w.heap.size ≤ gb101)); clear HB; have HB := n0_; have BK101 := n1_; have GW101 := n2_; have GE101 := n3_; clear n0_ n1_ n2_ n3_; clear hb hbox hg) | ((with_reducible refine zgd (N := 3) rfl ?_); refine box_event ?hg (N := 3) ?hd (cs := #[.int .i64 a1_0, .int .i64 a1_1]) (t := 32) ?hr ?_; (case hd => rfl); (case hg => rfl); (case hr => first | (go_simp; done) | (go_simp; rfl)); intro gb102 hg w30 hbox hb; have n0_ := zam (zkb (g := gb101) (o := .cells #[.int .i64 a0_0, .int .i64 a0_1] 32 (0, 0)) (by (with_reducible repeat (first | refine zkn ?_ _ | refine zkd ?_ | refine zka ?_ _)); exact BK101.out) hb); have n1_ := zam (zbt (by repeat (first | (with_reducible first | exact HB.out | apply zba | apply zbn | apply zb1 | refine zbs ?_ GE101.out) | exact HB.out)) hb); have n2_ := zam (hbox); have n3_ := zam ((by rw [hg]; exact (zbz (by repeat (first | (with_reducible first | exact HB.out | apply zba | apply zbn | apply zb1 | refine zbs ?_ GE101.out) | exact HB.out))) : w.heap.size ≤ gb102)); have n4_ := zam ((by rw [hg]; exact (zbz (by repeat (first | (with_reducible first | exact HB.out | apply zba | apply zbn | apply zb1 | refine zbs ?_ GE101.out) | exact HB.out))) : w.heap.size ≤ gb102)); have n5_ := zam ((by rw [hg]; exact Nat.ne_of_lt (blk_lt (g := gb101) (o := .cells #[.int .i64 a0_0, .int .i64 a0_1] 32 (0, 0)) (by (with_reducible repeat (first | refine zkn ?_ _ | refine zkd ?_ | refine zka ?_ _)); exact BK101.out)) : gb101 ≠ gb102)); have n6_ := zam ((by rw [hg]; exact Nat.ne_of_gt (blk_lt (g := gb101) (o := .cells #[.int .i64 a0_0, .int .i64 a0_1] 32 (0, 0)) (by (with_reducible repeat (first | refine zkn ?_ _ | refine zkd ?_ | refine zka ?_ _)); exact BK101.out)) : gb102 ≠ gb101)); clear BK101; clear HB; have BK101 := n0_; have HB := n1_; have BK102 := n2_; have GW102 := n3_; have GE102 := n4_; have NB101_102 := n5_; have NB102_101 := n6_; clear n0_ n1_ n2_ n3_ n4_ n5_ n6_; clear hb hbox hg; have hnb31 := NB101_102.out; have hnc31 := NB102_101.out; have hcz32_0 : w30.cell? ⟨gb101, 0, none⟩ = some (.int .i64 a0_0) := (zkc BK101.out 0).trans rfl; have hcz32_1 : w30.cell? ⟨gb101, 1, none⟩ = some (.int .i64 a0_1) := (zkc BK101.out 1).trans rfl; have hfz32_0 := zkz BK101.out 0; have hfz32_1 := zkz BK101.out 1; have hcz33_0 : w30.cell? ⟨gb102, 0, none⟩ = some (.int .i64 a1_0) := (zkc BK102.out 0).trans rfl; have hcz33_1 : w30.cell? ⟨gb102, 1, none⟩ = some (.int .i64 a1_1) := (zkc BK102.out 1).trans rfl; have hfz33_0 := zkz BK102.out 0; have hfz33_1 := zkz BK102.out 1) | ((with_reducible refine zgd (N := 9) rfl ?_); refine Kd.R_lit k32 _ 32 ?hg (N := 9) ?hd (xs := ([(⟨a0_0, a0_1⟩ : S32), (⟨a1_0, a1_1⟩ : S32)] : List (S32))) (inner := [.int .i64 a0_0, .int .i64 a0_1, .int .i64 a1_0, .int .i64 a1_1]) (ok := fun _ => True) (okp := fun _ => True) ?hr ?hp (fun _ hk => hk) trivial (Below.refl _ _) (Nat.le_refl _) (by simp) ?_; (case hd => rfl); (case hg => rfl); (case hr => first | (go_simp; done) | (go_simp; rfl)); (case hp => exact (Reps.c2 (show Kd.M k32 _ _ _ (⟨a0_0, a0_1⟩ : S32) [.int .i64 a0_0, .int .i64 a0_1] from (k32_mkM _ _ _ (⟨a0_0, a0_1⟩ : S32) )) (Reps.c2 (show Kd.M k32 _ _ _ (⟨a1_0, a1_1⟩ : S32) [.int .i64 a1_0, .int .i64 a1_1] from (k32_mkM _ _ _ (⟨a1_0, a1_1⟩ : S32) )) (Reps.none _ _)))); intro v104 w34 ho35 hb hg_ hnew_; clear hg_ hnew_; (first | rw [← Ny103.out] at ho35 | (simp only [Int.reduceToNat] at ho35; rw [← Ny103.out] at ho35)); have n0_ := zam (Kd.R_lower (Kd.R_newB (Kd.R_newB ho35 (g := gb101) (o := .cells #[.int .i64 a0_0, .int .i64 a0_1] 32 (0, 0)) (by (with_reducible repeat (first | refine zkn ?_ _ | refine zkd ?_ | refine zka ?_ _)); exact BK101.out)) (g := gb102) (o := .cells #[.int .i64 a1_0, .int .i64 a1_1] 32 (0, 0)) (by (with_reducible repeat (first | refine zkn ?_ _ | refine zkd ?_ | refine zka ?_ _)); exact BK102.out)) (zbz (by repeat (first | (with_reducible first | exact HB.out | apply zba | apply zbn | apply zb1 | refine zbs ?_ GE101.out | refine zbs ?_ GE102.out) | exact HB.out)))); have n1_ := zam (zkb (g := gb101) (o := .cells #[.int .i64 a0_0, .int .i64 a0_1] 32 (0, 0)) (by (with_reducible repeat (first | refine zkn ?_ _ | refine zkd ?_ | refine zka ?_ _)); exact BK101.out) hb); have n2_ := zam (zkb (g := gb102) (o := .cells #[.int .i64 a1_0, .int .i64 a1_1] 32 (0, 0)) (by (with_reducible repeat (first | refine zkn ?_ _ | refine zkd ?_ | refine zka ?_ _)); exact BK102.out) hb); have n3_ := zam (zbt (by repeat (first | (with_reducible first | exact HB.out | apply zba | apply zbn | apply zb1 | refine zbs ?_ GE101.out | refine zbs ?_ GE102.out) | exact HB.out)) hb); clear BK101; clear BK102; clear HB; have HO105 := n0_; have BK101 := n1_; have BK102 := n2_; have HB := n3_; clear n0_ n1_ n2_ n3_; clear hb ho35; obtain ⟨Ao36, co36, eo36⟩ := Kd.R_slice HO105.out; subst eo36) | ((with_reducible refine zgc (f := 80) rfl ?_); refine goesL_ (some 10) rfl rfl Try.func80 (by kernel_rfl) rfl #[.slice Ao36 y103.length co36] rfl (by (try simp only [zmt, List.map_cons, List.map_nil]); first | done | rfl | (simp only [zld, zlt]; rfl)) ?_; (with_reducible refine (bound_check.calls k _ _ y103 t106 _ ?side1 ?side2 A3.out).mono ?_); (case side1 => repeat (first | exact (Kd.R_reads' HO105.out).2.2 | (with_reducible refine Kd.C_alloc ?_ _) | (with_reducible refine Kd.C_drewN ?_ _) | (with_reducible refine Kd.C_drew ?_))); (case side2 => exact (Kd.R_reads' HO105.out).2.1); rintro e w37 ⟨rfl, hb⟩; refine ⟨_, rfl, ?_⟩; have n0_ := zam (Kd.R_below (by (with_reducible repeat (first | apply zRa | apply zRn | apply zRd)); exact HO105.out) hb); have n1_ := zam (zkb (g := gb101) (o := .cells #[.int .i64 a0_0, .int .i64 a0_1] 32 (0, 0)) (by (with_reducible repeat (first | refine zkn ?_ _ | refine zkd ?_ | refine zka ?_ _)); exact BK101.out) hb); have n2_ := zam (zkb (g := gb102) (o := .cells #[.int .i64 a1_0, .int .i64 a1_1] 32 (0, 0)) (by (with_reducible repeat (first | refine zkn ?_ _ | refine zkd ?_ | refine zka ?_ _)); exact BK102.out) hb); have n3_ := zam (zbt (by repeat (first | (with_reducible first | exact HB.out | apply zba | apply zbn | apply zb1 | refine zbs ?_ GE101.out | refine zbs ?_ GE102.out) | exact HB.out)) hb); clear HO105; clear BK101; clear BK102; clear HB; have HO105 := n0_; have BK101 := n1_; have BK102 := n2_; have HB := n3_; clear n0_ n1_ n2_ n3_; (try clear hb); (try clear hb2); (try clear hk); (try clear hi); have hcz38_0 : w37.cell? ⟨gb101, 0, none⟩ = some (.int .i64 a0_0) := (zkc BK101.out 0).trans rfl; have hcz38_1 : w37.cell? ⟨gb101, 1, none⟩ = some (.int .i64 a0_1) := (zkc BK101.out 1).trans rfl; have hfz38_0 := zkz BK101.out 0; have hfz38_1 := zkz BK101.out 1; have hcz39_0 : w37.cell? ⟨gb102, 0, none⟩ = some (.int .i64 a1_0) := (zkc BK102.out 0).trans rfl; have hcz39_1 : w37.cell? ⟨gb102, 1, none⟩ = some (.int .i64 a1_1) := (zkc BK102.out 1).trans rfl; have hfz39_0 := zkz BK102.out 0; have hfz39_1 := zkz BK102.out 1))
  go_ret2
  exact ⟨by first | rfl | (simp [errW_none, errW_some] <;> rfl) | (simp [*, errW_none, errW_some] <;> rfl), by repeat (first | (with_reducible first | exact HB.out | apply zba | apply zbn | apply zb1 | refine zbs ?_ GE101.out | refine zbs ?_ GE102.out) | exact HB.out)⟩
 rw [if_neg c4] at H
 have c4b0 : (t106 == 0) = false := beq_eq_false_iff_ne.mpr c4
 have c4b1 : (t106 != 0) = true := bne_iff_ne.mpr c4
 simp only [Option.some.injEq, Prod.mk.injEq] at H
 obtain ⟨rfl, rfl⟩ := H
 go_enter Try.func24, Try.ntmps24
 go_wp2_with (first | ((with_reducible refine zgd (N := 2) rfl ?_); refine box_event ?hg (N := 2) ?hd (cs := #[.int .i64 a0_0, .int .i64 a0_1]) (t := 32) ?hr ?_; (case hd => rfl); (case hg => rfl); (case hr => first | (go_simp; done) | (go_simp; rfl)); intro gb101 hg w40 hbox hb; have n0_ := zam (zbt (by repeat (first | (with_reducible first | exact HB.out | apply zba | apply zbn | apply zb1) | exact HB.out)) hb); have n1_ := zam (hbox); have n2_ := zam ((by rw [hg]; exact (zbz (by repeat (first | (with_reducible first | exact HB.out | apply zba | apply zbn | apply zb1) | exact HB.out))) : w.heap.size ≤ gb101)); have n3_ := zam ((by rw [hg]; exact (zbz (by repeat (first | (with_reducible first | exact HB.out | apply zba | apply zbn | apply zb1) | exact HB.out))) : w.heap.size ≤ gb101)); clear HB; have HB := n0_; have BK101 := n1_; have GW101 := n2_; have GE101 := n3_; clear n0_ n1_ n2_ n3_; clear hb hbox hg) | ((with_reducible refine zgd (N := 3) rfl ?_); refine box_event ?hg (N := 3) ?hd (cs := #[.int .i64 a1_0, .int .i64 a1_1]) (t := 32) ?hr ?_; (case hd => rfl); (case hg => rfl); (case hr => first | (go_simp; done) | (go_simp; rfl)); intro gb102 hg w41 hbox hb; have n0_ := zam (zkb (g := gb101) (o := .cells #[.int .i64 a0_0, .int .i64 a0_1] 32 (0, 0)) (by (with_reducible repeat (first | refine zkn ?_ _ | refine zkd ?_ | refine zka ?_ _)); exact BK101.out) hb); have n1_ := zam (zbt (by repeat (first | (with_reducible first | exact HB.out | apply zba | apply zbn | apply zb1 | refine zbs ?_ GE101.out) | exact HB.out)) hb); have n2_ := zam (hbox); have n3_ := zam ((by rw [hg]; exact (zbz (by repeat (first | (with_reducible first | exact HB.out | apply zba | apply zbn | apply zb1 | refine zbs ?_ GE101.out) | exact HB.out))) : w.heap.size ≤ gb102)); have n4_ := zam ((by rw [hg]; exact (zbz (by repeat (first | (with_reducible first | exact HB.out | apply zba | apply zbn | apply zb1 | refine zbs ?_ GE101.out) | exact HB.out))) : w.heap.size ≤ gb102)); have n5_ := zam ((by rw [hg]; exact Nat.ne_of_lt (blk_lt (g := gb101) (o := .cells #[.int .i64 a0_0, .int .i64 a0_1] 32 (0, 0)) (by (with_reducible repeat (first | refine zkn ?_ _ | refine zkd ?_ | refine zka ?_ _)); exact BK101.out)) : gb101 ≠ gb102)); have n6_ := zam ((by rw [hg]; exact Nat.ne_of_gt (blk_lt (g := gb101) (o := .cells #[.int .i64 a0_0, .int .i64 a0_1] 32 (0, 0)) (by (with_reducible repeat (first | refine zkn ?_ _ | refine zkd ?_ | refine zka ?_ _)); exact BK101.out)) : gb102 ≠ gb101)); clear BK101; clear HB; have BK101 := n0_; have HB := n1_; have BK102 := n2_; have GW102 := n3_; have GE102 := n4_; have NB101_102 := n5_; have NB102_101 := n6_; clear n0_ n1_ n2_ n3_ n4_ n5_ n6_; clear hb hbox hg; have hnb42 := NB101_102.out; have hnc42 := NB102_101.out; have hcz43_0 : w41.cell? ⟨gb101, 0, none⟩ = some (.int .i64 a0_0) := (zkc BK101.out 0).trans rfl; have hcz43_1 : w41.cell? ⟨gb101, 1, none⟩ = some (.int .i64 a0_1) := (zkc BK101.out 1).trans rfl; have hfz43_0 := zkz BK101.out 0; have hfz43_1 := zkz BK101.out 1; have hcz44_0 : w41.cell? ⟨gb102, 0, none⟩ = some (.int .i64 a1_0) := (zkc BK102.out 0).trans rfl; have hcz44_1 : w41.cell? ⟨gb102, 1, none⟩ = some (.int .i64 a1_1) := (zkc BK102.out 1).trans rfl; have hfz44_0 := zkz BK102.out 0; have hfz44_1 := zkz BK102.out 1) | ((with_reducible refine zgd (N := 9) rfl ?_); refine Kd.R_lit k32 _ 32 ?hg (N := 9) ?hd (xs := ([(⟨a0_0, a0_1⟩ : S32), (⟨a1_0, a1_1⟩ : S32)] : List (S32))) (inner := [.int .i64 a0_0, .int .i64 a0_1, .int .i64 a1_0, .int .i64 a1_1]) (ok := fun _ => True) (okp := fun _ => True) ?hr ?hp (fun _ hk => hk) trivial (Below.refl _ _) (Nat.le_refl _) (by simp) ?_; (case hd => rfl); (case hg => rfl); (case hr => first | (go_simp; done) | (go_simp; rfl)); (case hp => exact (Reps.c2 (show Kd.M k32 _ _ _ (⟨a0_0, a0_1⟩ : S32) [.int .i64 a0_0, .int .i64 a0_1] from (k32_mkM _ _ _ (⟨a0_0, a0_1⟩ : S32) )) (Reps.c2 (show Kd.M k32 _ _ _ (⟨a1_0, a1_1⟩ : S32) [.int .i64 a1_0, .int .i64 a1_1] from (k32_mkM _ _ _ (⟨a1_0, a1_1⟩ : S32) )) (Reps.none _ _)))); intro v104 w45 ho46 hb hg_ hnew_; clear hg_ hnew_; (first | rw [← Ny103.out] at ho46 | (simp only [Int.reduceToNat] at ho46; rw [← Ny103.out] at ho46)); have n0_ := zam (Kd.R_lower (Kd.R_newB (Kd.R_newB ho46 (g := gb101) (o := .cells #[.int .i64 a0_0, .int .i64 a0_1] 32 (0, 0)) (by (with_reducible repeat (first | refine zkn ?_ _ | refine zkd ?_ | refine zka ?_ _)); exact BK101.out)) (g := gb102) (o := .cells #[.int .i64 a1_0, .int .i64 a1_1] 32 (0, 0)) (by (with_reducible repeat (first | refine zkn ?_ _ | refine zkd ?_ | refine zka ?_ _)); exact BK102.out)) (zbz (by repeat (first | (with_reducible first | exact HB.out | apply zba | apply zbn | apply zb1 | refine zbs ?_ GE101.out | refine zbs ?_ GE102.out) | exact HB.out)))); have n1_ := zam (zkb (g := gb101) (o := .cells #[.int .i64 a0_0, .int .i64 a0_1] 32 (0, 0)) (by (with_reducible repeat (first | refine zkn ?_ _ | refine zkd ?_ | refine zka ?_ _)); exact BK101.out) hb); have n2_ := zam (zkb (g := gb102) (o := .cells #[.int .i64 a1_0, .int .i64 a1_1] 32 (0, 0)) (by (with_reducible repeat (first | refine zkn ?_ _ | refine zkd ?_ | refine zka ?_ _)); exact BK102.out) hb); have n3_ := zam (zbt (by repeat (first | (with_reducible first | exact HB.out | apply zba | apply zbn | apply zb1 | refine zbs ?_ GE101.out | refine zbs ?_ GE102.out) | exact HB.out)) hb); clear BK101; clear BK102; clear HB; have HO105 := n0_; have BK101 := n1_; have BK102 := n2_; have HB := n3_; clear n0_ n1_ n2_ n3_; clear hb ho46; obtain ⟨Ao47, co47, eo47⟩ := Kd.R_slice HO105.out; subst eo47) | ((with_reducible refine zgc (f := 80) rfl ?_); refine goesL_ (some 10) rfl rfl Try.func80 (by kernel_rfl) rfl #[.slice Ao47 y103.length co47] rfl (by (try simp only [zmt, List.map_cons, List.map_nil]); first | done | rfl | (simp only [zld, zlt]; rfl)) ?_; (with_reducible refine (bound_check.calls k _ _ y103 t106 _ ?side1 ?side2 A3.out).mono ?_); (case side1 => repeat (first | exact (Kd.R_reads' HO105.out).2.2 | (with_reducible refine Kd.C_alloc ?_ _) | (with_reducible refine Kd.C_drewN ?_ _) | (with_reducible refine Kd.C_drew ?_))); (case side2 => exact (Kd.R_reads' HO105.out).2.1); rintro e w48 ⟨rfl, hb⟩; refine ⟨_, rfl, ?_⟩; have n0_ := zam (Kd.R_below (by (with_reducible repeat (first | apply zRa | apply zRn | apply zRd)); exact HO105.out) hb); have n1_ := zam (zkb (g := gb101) (o := .cells #[.int .i64 a0_0, .int .i64 a0_1] 32 (0, 0)) (by (with_reducible repeat (first | refine zkn ?_ _ | refine zkd ?_ | refine zka ?_ _)); exact BK101.out) hb); have n2_ := zam (zkb (g := gb102) (o := .cells #[.int .i64 a1_0, .int .i64 a1_1] 32 (0, 0)) (by (with_reducible repeat (first | refine zkn ?_ _ | refine zkd ?_ | refine zka ?_ _)); exact BK102.out) hb); have n3_ := zam (zbt (by repeat (first | (with_reducible first | exact HB.out | apply zba | apply zbn | apply zb1 | refine zbs ?_ GE101.out | refine zbs ?_ GE102.out) | exact HB.out)) hb); clear HO105; clear BK101; clear BK102; clear HB; have HO105 := n0_; have BK101 := n1_; have BK102 := n2_; have HB := n3_; clear n0_ n1_ n2_ n3_; (try clear hb); (try clear hb2); (try clear hk); (try clear hi)))
 go_ret2
 exact ⟨by first | rfl | (simp [errW_none, errW_some] <;> rfl) | (simp [*, errW_none, errW_some] <;> rfl), by repeat (first | (with_reducible first | exact HB.out | apply zba | apply zbn | apply zb1 | refine zbs ?_ GE101.out | refine zbs ?_ GE102.out) | exact HB.out)⟩
def isobathlaw01_Part.f (a0_0 : Int) (a0_1 : Int) (a1 : Int) : Option (Int) := some (wrap64 (a0_0 + (wrap64 (Int.tdiv (wrap64 ((wrap64 (a0_1 - a0_0)) * (wrap64 (a1)))) 65535))))
set_option maxHeartbeats 8000000 in
set_option maxRecDepth 100000 in
theorem isobathlaw01_Part.calls (a0_0 : Int) (a0_1 : Int) (a1 : Int) (r : Int) (w : World) (h : isobathlaw01_Part.f a0_0 a0_1 a1 = some r) :
  Calls Try.prog 23 #[.agg #[.int .i64 a0_0, .int .i64 a0_1], .int .u16 a1] w fun e w' => e = .returned (.int .i64 r) ∧ Below w.heap.size w w' := by
 have hu32 := Try.underlying32
 have HB := zam (Below.refl w.heap.size w)
 have H : (some (wrap64 (a0_0 + (wrap64 (Int.tdiv (wrap64 ((wrap64 (a0_1 - a0_0)) * (wrap64 (a1)))) 65535))))) = some r := h
 clear h
 obtain rfl := zsi H
 go_enter Try.func23, Try.ntmps23
 go_wp2_with (first | ((with_reducible refine zgd (N := 2) rfl ?_); refine box_event ?hg (N := 2) ?hd (cs := #[.int .i64 a0_0, .int .i64 a0_1]) (t := 32) ?hr ?_; (case hd => rfl); (case hg => rfl); (case hr => first | (go_simp; done) | (go_simp; rfl)); intro gb101 hg w3 hbox hb; have n0_ := zam (zbt (by repeat (first | (with_reducible first | exact HB.out | apply zba | apply zbn | apply zb1) | exact HB.out)) hb); have n1_ := zam (hbox); have n2_ := zam ((by rw [hg]; exact (zbz (by repeat (first | (with_reducible first | exact HB.out | apply zba | apply zbn | apply zb1) | exact HB.out))) : w.heap.size ≤ gb101)); have n3_ := zam ((by rw [hg]; exact (zbz (by repeat (first | (with_reducible first | exact HB.out | apply zba | apply zbn | apply zb1) | exact HB.out))) : w.heap.size ≤ gb101)); clear HB; have HB := n0_; have BK101 := n1_; have GW101 := n2_; have GE101 := n3_; clear n0_ n1_ n2_ n3_; clear hb hbox hg; have hcz4_0 : w3.cell? ⟨gb101, 0, none⟩ = some (.int .i64 a0_0) := (zkc BK101.out 0).trans rfl; have hcz4_1 : w3.cell? ⟨gb101, 1, none⟩ = some (.int .i64 a0_1) := (zkc BK101.out 1).trans rfl; have hfz4_0 := zkz BK101.out 0; have hfz4_1 := zkz BK101.out 1))
 go_ret
 exact ⟨by first | rfl | (simp [errW_none, errW_some] <;> rfl) | (simp [*, errW_none, errW_some] <;> rfl), by repeat (first | (with_reducible first | exact HB.out | apply zba | apply zbn | apply zb1 | refine zbs ?_ GE101.out) | exact HB.out)⟩
def isobathlaw01_holds.f (a0_0 : Int) (a0_1 : Int) (a1 : Int) : Option (Bool) := if a0_0 ≤ a1 then (some (decide (a1 ≤ a0_1))) else (some false)
set_option maxHeartbeats 8000000 in
set_option maxRecDepth 100000 in
theorem isobathlaw01_holds.calls (a0_0 : Int) (a0_1 : Int) (a1 : Int) (r : Bool) (w : World) (h : isobathlaw01_holds.f a0_0 a0_1 a1 = some r) :
  Calls Try.prog 26 #[.agg #[.int .i64 a0_0, .int .i64 a0_1], .int .i64 a1] w fun e w' => e = .returned (.bool r) ∧ Below w.heap.size w w' := by
 have hu32 := Try.underlying32
 have HB := zam (Below.refl w.heap.size w)
 have H : (if a0_0 ≤ a1 then (some (decide (a1 ≤ a0_1))) else (some false)) = some r := h
 clear h
 by_cases c3 : a0_0 ≤ a1
 ·rw [if_pos c3] at H
  have c3b0 : decide (a0_0 ≤ a1) = true := zdt c3
  clear c3
  obtain rfl := zsi H
  go_enter Try.func26, Try.ntmps26
  go_wp2_with (first | ((with_reducible refine zgd (N := 2) rfl ?_); refine box_event ?hg (N := 2) ?hd (cs := #[.int .i64 a0_0, .int .i64 a0_1]) (t := 32) ?hr ?_; (case hd => rfl); (case hg => rfl); (case hr => first | (go_simp; done) | (go_simp; rfl)); intro gb101 hg w4 hbox hb; have n0_ := zam (zbt (by repeat (first | (with_reducible first | exact HB.out | apply zba | apply zbn | apply zb1) | exact HB.out)) hb); have n1_ := zam (hbox); have n2_ := zam ((by rw [hg]; exact (zbz (by repeat (first | (with_reducible first | exact HB.out | apply zba | apply zbn | apply zb1) | exact HB.out))) : w.heap.size ≤ gb101)); have n3_ := zam ((by rw [hg]; exact (zbz (by repeat (first | (with_reducible first | exact HB.out | apply zba | apply zbn | apply zb1) | exact HB.out))) : w.heap.size ≤ gb101)); clear HB; have HB := n0_; have BK101 := n1_; have GW101 := n2_; have GE101 := n3_; clear n0_ n1_ n2_ n3_; clear hb hbox hg; have hcz5_0 : w4.cell? ⟨gb101, 0, none⟩ = some (.int .i64 a0_0) := (zkc BK101.out 0).trans rfl; have hcz5_1 : w4.cell? ⟨gb101, 1, none⟩ = some (.int .i64 a0_1) := (zkc BK101.out 1).trans rfl; have hfz5_0 := zkz BK101.out 0; have hfz5_1 := zkz BK101.out 1))
  go_ret
  exact ⟨by first | rfl | (simp [errW_none, errW_some] <;> rfl) | (simp [*, errW_none, errW_some] <;> rfl), by repeat (first | (with_reducible first | exact HB.out | apply zba | apply zbn | apply zb1 | refine zbs ?_ GE101.out) | exact HB.out)⟩
 rw [if_neg c3] at H
 have c3b0 : decide (a0_0 ≤ a1) = false := zdf c3
 clear c3
 obtain rfl := zsi H
 go_enter Try.func26, Try.ntmps26
 go_wp2_with (first | ((with_reducible refine zgd (N := 2) rfl ?_); refine box_event ?hg (N := 2) ?hd (cs := #[.int .i64 a0_0, .int .i64 a0_1]) (t := 32) ?hr ?_; (case hd => rfl); (case hg => rfl); (case hr => first | (go_simp; done) | (go_simp; rfl)); intro gb101 hg w6 hbox hb; have n0_ := zam (zbt (by repeat (first | (with_reducible first | exact HB.out | apply zba | apply zbn | apply zb1) | exact HB.out)) hb); have n1_ := zam (hbox); have n2_ := zam ((by rw [hg]; exact (zbz (by repeat (first | (with_reducible first | exact HB.out | apply zba | apply zbn | apply zb1) | exact HB.out))) : w.heap.size ≤ gb101)); have n3_ := zam ((by rw [hg]; exact (zbz (by repeat (first | (with_reducible first | exact HB.out | apply zba | apply zbn | apply zb1) | exact HB.out))) : w.heap.size ≤ gb101)); clear HB; have HB := n0_; have BK101 := n1_; have GW101 := n2_; have GE101 := n3_; clear n0_ n1_ n2_ n3_; clear hb hbox hg; have hcz7_0 : w6.cell? ⟨gb101, 0, none⟩ = some (.int .i64 a0_0) := (zkc BK101.out 0).trans rfl; have hcz7_1 : w6.cell? ⟨gb101, 1, none⟩ = some (.int .i64 a0_1) := (zkc BK101.out 1).trans rfl; have hfz7_0 := zkz BK101.out 0; have hfz7_1 := zkz BK101.out 1))
 go_ret
 exact ⟨by first | rfl | (simp [errW_none, errW_some] <;> rfl) | (simp [*, errW_none, errW_some] <;> rfl), by repeat (first | (with_reducible first | exact HB.out | apply zba | apply zbn | apply zb1 | refine zbs ?_ GE101.out) | exact HB.out)⟩
set_option maxHeartbeats 8000000 in
set_option maxRecDepth 100000 in
theorem isobathref01_Within.calls (a0 : Int) (a1 : Int) (a2 : Int) (r : Bool) (w : World) (h : isobathref01_Within.f a0 a1 a2 = some r) :
  Calls Try.prog 79 #[.int .i64 a0, .int .i64 a1, .int .i64 a2] w fun e w' => e = .returned (.bool r) ∧ Drawn0 w w' := by
 have H : (if a0 ≥ a1 then (some (decide (a0 ≤ a2))) else (some false)) = some r := h
 clear h
 by_cases c4 : a0 ≥ a1
 ·rw [if_pos c4] at H
  have c4b0 : decide (a1 ≤ a0) = true := zdt c4
  clear c4
  obtain rfl := zsi H
  go_enter Try.func79, Try.ntmps79
  go_wp2
  go_ret
  exact ⟨by first | rfl | (simp; done) | (simp [*]; done), by repeat (first | exact Drawn0.refl _ | apply Drawn0.step)⟩
 rw [if_neg c4] at H
 have c4b0 : decide (a1 ≤ a0) = false := zdf c4
 clear c4
 obtain rfl := zsi H
 go_enter Try.func79, Try.ntmps79
 go_wp2
 go_ret
 exact ⟨by first | rfl | (simp; done) | (simp [*]; done), by repeat (first | exact Drawn0.refl _ | apply Drawn0.step)⟩
set_option maxHeartbeats 8000000 in
set_option maxRecDepth 100000 in
theorem isobathref01_Valid.calls (a0_0 : Int) (a0_1 : Int) (r : Bool) (w : World) (h : isobathref01_Valid.f a0_0 a0_1 = some r) :
  Calls Try.prog 22 #[.agg #[.int .i64 a0_0, .int .i64 a0_1]] w fun e w' => e = .returned (.bool r) ∧ Below w.heap.size w w' := by
 have hu32 := Try.underlying32
 have HB := zam (Below.refl w.heap.size w)
 have H : (if a0_0 ≤ a0_1 then ((isobathref01_Within.f a0_0 (-1073741824) 1073741824).bind fun t102 => (if t102 = true then ((isobathref01_Within.f a0_1 (-1073741824) 1073741824).bind fun t103 => (some t103)) else (some false))) else (some false)) = some r := h
 clear h
 by_cases c2 : a0_0 ≤ a0_1
 ·rw [if_pos c2] at H
  have c2b0 : decide (a0_0 ≤ a0_1) = true := zdt c2
  clear c2
  replace H := Option.bind_eq_some_iff.mp H
  obtain ⟨t102, A30, H⟩ := H
  replace H : (if t102 = true then ((isobathref01_Within.f a0_1 (-1073741824) 1073741824).bind fun t103 => (some t103)) else (some false)) = some r := H
  have A3 := zam A30
  clear A30
  by_cases c4 : t102 = true
  ·subst c4
   have H1 : ((isobathref01_Within.f a0_1 (-1073741824) 1073741824).bind fun t103 => (some t103)) = some r := by rw [if_pos rfl] at H; exact H
   clear H
   have H := H1
   clear H1
   replace H := Option.bind_eq_some_iff.mp H
   obtain ⟨t103, A50, H⟩ := H
   replace H : (some t103) = some r := H
   have A5 := zam A50
   clear A50
   obtain rfl := zsi H
   go_enter Try.func22, Try.ntmps22
   go_wp2_with (first | ((with_reducible refine zgd (N := 1) rfl ?_); refine box_event ?hg (N := 1) ?hd (cs := #[.int .i64 a0_0, .int .i64 a0_1]) (t := 32) ?hr ?_; (case hd => rfl); (case hg => rfl); (case hr => first | (go_simp; done) | (go_simp; rfl)); intro gb101 hg w6 hbox hb; have n0_ := zam (zbt (by repeat (first | (with_reducible first | exact HB.out | apply zba | apply zbn | apply zb1) | exact HB.out)) hb); have n1_ := zam (hbox); have n2_ := zam ((by rw [hg]; exact (zbz (by repeat (first | (with_reducible first | exact HB.out | apply zba | apply zbn | apply zb1) | exact HB.out))) : w.heap.size ≤ gb101)); have n3_ := zam ((by rw [hg]; exact (zbz (by repeat (first | (with_reducible first | exact HB.out | apply zba | apply zbn | apply zb1) | exact HB.out))) : w.heap.size ≤ gb101)); clear HB; have HB := n0_; have BK101 := n1_; have GW101 := n2_; have GE101 := n3_; clear n0_ n1_ n2_ n3_; clear hb hbox hg; have hcz7_0 : w6.cell? ⟨gb101, 0, none⟩ = some (.int .i64 a0_0) := (zkc BK101.out 0).trans rfl; have hcz7_1 : w6.cell? ⟨gb101, 1, none⟩ = some (.int .i64 a0_1) := (zkc BK101.out 1).trans rfl; have hfz7_0 := zkz BK101.out 0; have hfz7_1 := zkz BK101.out 1) | (go_at_call 79; (with_reducible refine (isobathref01_Within.calls a0_0 (-1073741824) 1073741824 true _ A3.out).mono ?_); rintro e w' ⟨rfl, ⟨nd, rfl⟩⟩) | (go_at_call 79; (with_reducible refine (isobathref01_Within.calls a0_1 (-1073741824) 1073741824 t103 _ A5.out).mono ?_); rintro e w' ⟨rfl, ⟨nd, rfl⟩⟩))
   go_ret
   exact ⟨by first | rfl | (simp [errW_none, errW_some] <;> rfl) | (simp [*, errW_none, errW_some] <;> rfl), by repeat (first | (with_reducible first | exact HB.out | apply zba | apply zbn | apply zb1 | refine zbs ?_ GE101.out) | exact HB.out)⟩
  replace c4 := Bool.eq_false_iff.mpr c4
  subst c4
  have H1 : (some false) = some r := by rw [if_neg (show ¬ (false = true) by decide)] at H; exact H
  clear H
  have H := H1
  clear H1
  obtain rfl := zsi H
  go_enter Try.func22, Try.ntmps22
  go_wp2_with (first | ((with_reducible refine zgd (N := 1) rfl ?_); refine box_event ?hg (N := 1) ?hd (cs := #[.int .i64 a0_0, .int .i64 a0_1]) (t := 32) ?hr ?_; (case hd => rfl); (case hg => rfl); (case hr => first | (go_simp; done) | (go_simp; rfl)); intro gb101 hg w8 hbox hb; have n0_ := zam (zbt (by repeat (first | (with_reducible first | exact HB.out | apply zba | apply zbn | apply zb1) | exact HB.out)) hb); have n1_ := zam (hbox); have n2_ := zam ((by rw [hg]; exact (zbz (by repeat (first | (with_reducible first | exact HB.out | apply zba | apply zbn | apply zb1) | exact HB.out))) : w.heap.size ≤ gb101)); have n3_ := zam ((by rw [hg]; exact (zbz (by repeat (first | (with_reducible first | exact HB.out | apply zba | apply zbn | apply zb1) | exact HB.out))) : w.heap.size ≤ gb101)); clear HB; have HB := n0_; have BK101 := n1_; have GW101 := n2_; have GE101 := n3_; clear n0_ n1_ n2_ n3_; clear hb hbox hg; have hcz9_0 : w8.cell? ⟨gb101, 0, none⟩ = some (.int .i64 a0_0) := (zkc BK101.out 0).trans rfl; have hcz9_1 : w8.cell? ⟨gb101, 1, none⟩ = some (.int .i64 a0_1) := (zkc BK101.out 1).trans rfl; have hfz9_0 := zkz BK101.out 0; have hfz9_1 := zkz BK101.out 1) | (go_at_call 79; (with_reducible refine (isobathref01_Within.calls a0_0 (-1073741824) 1073741824 false _ A3.out).mono ?_); rintro e w' ⟨rfl, ⟨nd, rfl⟩⟩))
  go_ret
  exact ⟨by first | rfl | (simp [errW_none, errW_some] <;> rfl) | (simp [*, errW_none, errW_some] <;> rfl), by repeat (first | (with_reducible first | exact HB.out | apply zba | apply zbn | apply zb1 | refine zbs ?_ GE101.out) | exact HB.out)⟩
 rw [if_neg c2] at H
 have c2b0 : decide (a0_0 ≤ a0_1) = false := zdf c2
 clear c2
 obtain rfl := zsi H
 go_enter Try.func22, Try.ntmps22
 go_wp2_with (first | ((with_reducible refine zgd (N := 1) rfl ?_); refine box_event ?hg (N := 1) ?hd (cs := #[.int .i64 a0_0, .int .i64 a0_1]) (t := 32) ?hr ?_; (case hd => rfl); (case hg => rfl); (case hr => first | (go_simp; done) | (go_simp; rfl)); intro gb101 hg w10 hbox hb; have n0_ := zam (zbt (by repeat (first | (with_reducible first | exact HB.out | apply zba | apply zbn | apply zb1) | exact HB.out)) hb); have n1_ := zam (hbox); have n2_ := zam ((by rw [hg]; exact (zbz (by repeat (first | (with_reducible first | exact HB.out | apply zba | apply zbn | apply zb1) | exact HB.out))) : w.heap.size ≤ gb101)); have n3_ := zam ((by rw [hg]; exact (zbz (by repeat (first | (with_reducible first | exact HB.out | apply zba | apply zbn | apply zb1) | exact HB.out))) : w.heap.size ≤ gb101)); clear HB; have HB := n0_; have BK101 := n1_; have GW101 := n2_; have GE101 := n3_; clear n0_ n1_ n2_ n3_; clear hb hbox hg; have hcz11_0 : w10.cell? ⟨gb101, 0, none⟩ = some (.int .i64 a0_0) := (zkc BK101.out 0).trans rfl; have hcz11_1 : w10.cell? ⟨gb101, 1, none⟩ = some (.int .i64 a0_1) := (zkc BK101.out 1).trans rfl; have hfz11_0 := zkz BK101.out 0; have hfz11_1 := zkz BK101.out 1))
 go_ret
 exact ⟨by first | rfl | (simp [errW_none, errW_some] <;> rfl) | (simp [*, errW_none, errW_some] <;> rfl), by repeat (first | (with_reducible first | exact HB.out | apply zba | apply zbn | apply zb1 | refine zbs ?_ GE101.out) | exact HB.out)⟩
mutual
def isobathlaw01_BoundThree.j0 : Nat → Int → Int → Bool → Int → Int → Int → Int → Option (Bool)
 | 0, _, _, _, _, _, _, _ => none
 | k + 1, x2, x3, x22, x102000, x102001, x103000, x103001 => if x22 = true then ((isobathlaw01_Works.f k).bind fun t105 => (some t105)) else ((isobathlaw01_Part.f x102000 x102001 x2).bind fun t106 => ((isobathlaw01_Part.f x103000 x103001 x3).bind fun t107 => ((bound_Less.f k x102000 x102001 x103000 x103001).bind fun bt108 => ((bound_In.f k x102000 x102001 x103000 x103001).bind fun bt110 => (if bt108.2 = 0 then (isobathlaw01_BoundThree.j1 k t106 t107 bt108.1 bt110.1 (bt110.2 != 0) x102000 x102001 x103000 x103001) else (none))))))
def isobathlaw01_BoundThree.j1 : Nat → Int → Int → Int → Int → Bool → Int → Int → Int → Int → Option (Bool)
 | 0, _, _, _, _, _, _, _, _, _ => none
 | k + 1, x9, x10, x11, x13, x47, x102000, x102001, x103000, x103001 => if x47 = true then (none) else (if x11 = 2 then (if x9 ≥ x10 then (none) else (if x11 = 0 then (if x9 < x10 then (none) else (if x11 = 1 then (if x102000 ≥ x103001 then (none) else (if x102001 < x103000 then (none) else (if x11 < 0 then (none) else (isobathlaw01_BoundThree.j2 k x9 x13 (decide (x11 > 2)) x102000 x102001 x103000 x103001)))) else (if x11 < 0 then (none) else (isobathlaw01_BoundThree.j2 k x9 x13 (decide (x11 > 2)) x102000 x102001 x103000 x103001)))) else (if x11 = 1 then (if x102000 ≥ x103001 then (none) else (if x102001 < x103000 then (none) else (if x11 < 0 then (none) else (isobathlaw01_BoundThree.j2 k x9 x13 (decide (x11 > 2)) x102000 x102001 x103000 x103001)))) else (if x11 < 0 then (none) else (isobathlaw01_BoundThree.j2 k x9 x13 (decide (x11 > 2)) x102000 x102001 x103000 x103001))))) else (if x11 = 0 then (if x9 < x10 then (none) else (if x11 = 1 then (if x102000 ≥ x103001 then (none) else (if x102001 < x103000 then (none) else (if x11 < 0 then (none) else (isobathlaw01_BoundThree.j2 k x9 x13 (decide (x11 > 2)) x102000 x102001 x103000 x103001)))) else (if x11 < 0 then (none) else (isobathlaw01_BoundThree.j2 k x9 x13 (decide (x11 > 2)) x102000 x102001 x103000 x103001)))) else (if x11 = 1 then (if x102000 ≥ x103001 then (none) else (if x102001 < x103000 then (none) else (if x11 < 0 then (none) else (isobathlaw01_BoundThree.j2 k x9 x13 (decide (x11 > 2)) x102000 x102001 x103000 x103001)))) else (if x11 < 0 then (none) else (isobathlaw01_BoundThree.j2 k x9 x13 (decide (x11 > 2)) x102000 x102001 x103000 x103001)))))
def isobathlaw01_BoundThree.j2 : Nat → Int → Int → Bool → Int → Int → Int → Int → Option (Bool)
 | 0, _, _, _, _, _, _, _ => none
 | k + 1, x9, x13, x89, x102000, x102001, x103000, x103001 => if x89 = true then (none) else (if x13 = 2 then ((isobathlaw01_holds.f x103000 x103001 x9).bind fun t112 => (if t112 = true then (if x13 = 0 then ((isobathlaw01_holds.f x103000 x103001 x9).bind fun t113 => (if t113 = true then (none) else (if x13 < 0 then (none) else (isobathlaw01_BoundThree.j3 k x13 (decide (x13 > 2)) x102000 x102001 x103000 x103001)))) else (if x13 < 0 then (none) else (isobathlaw01_BoundThree.j3 k x13 (decide (x13 > 2)) x102000 x102001 x103000 x103001))) else (none))) else (if x13 = 0 then ((isobathlaw01_holds.f x103000 x103001 x9).bind fun t114 => (if t114 = true then (none) else (if x13 < 0 then (none) else (isobathlaw01_BoundThree.j3 k x13 (decide (x13 > 2)) x102000 x102001 x103000 x103001)))) else (if x13 < 0 then (none) else (isobathlaw01_BoundThree.j3 k x13 (decide (x13 > 2)) x102000 x102001 x103000 x103001))))
def isobathlaw01_BoundThree.j3 : Nat → Int → Bool → Int → Int → Int → Int → Option (Bool)
 | 0, _, _, _, _, _, _ => none
 | k + 1, x13, x114, x102000, x102001, x103000, x103001 => if x114 = true then (none) else (if x13 = 1 then ((isobathlaw01_holds.f x103000 x103001 x102000).bind fun t115 => (if t115 = true then ((isobathlaw01_holds.f x103000 x103001 x102001).bind fun t116 => (if t116 = true then (none) else (if (mx x102000 x103000) ≤ (mn x102001 x103001) then ((isobathlaw01_Works.f k).bind fun t117 => (some t117)) else (none)))) else (if (mx x102000 x103000) ≤ (mn x102001 x103001) then ((isobathlaw01_Works.f k).bind fun t118 => (some t118)) else (none)))) else ((isobathlaw01_Works.f k).bind fun t119 => (some t119)))
end
def isobathlaw01_BoundThree.f (k : Nat) (a0_0 : Int) (a0_1 : Int) (a1_0 : Int) (a1_1 : Int) (a2 : Int) (a3 : Int) : Option (Bool) := (isobathref01_Valid.f a0_0 a0_1).bind fun t103 => (if t103 = true then ((isobathref01_Valid.f a1_0 a1_1).bind fun t104 => (isobathlaw01_BoundThree.j0 k a2 a3 (!t104) a0_0 a0_1 a1_0 a1_1)) else (isobathlaw01_BoundThree.j0 k a2 a3 true a0_0 a0_1 a1_0 a1_1))
def isobathlaw01_BoundThree.T3 : Bool × List (List Nat × List Nat) := (true, [([], []), ([], []), ([0, 1], [0, 1]), ([], []), ([], []), ([3, 4, 2], [3, 4]), ([2, 5, 0, 1, 2], [2]), ([5, 6, 0, 1, 2, 3, 4, 5, 6], [5])])
def isobathlaw01_BoundThree.B3 : List Nat := [0, 0, 3, 0, 0, 31, 63, 127]
theorem isobathlaw01_BoundThree.tab3 : rtab .any (opsOf Try.f4 3) = isobathlaw01_BoundThree.T3 := by kernel_rfl
theorem isobathlaw01_BoundThree.bits3 : waitsOk isobathlaw01_BoundThree.T3.2 isobathlaw01_BoundThree.B3 = true := by kernel_rfl
set_option maxHeartbeats 8000000 in
set_option maxRecDepth 100000 in
theorem isobathlaw01_BoundThree.calls (k : Nat) (a0_0 : Int) (a0_1 : Int) (a1_0 : Int) (a1_1 : Int) (a2 : Int) (a3 : Int) (r : Bool) (w : World) (h : isobathlaw01_BoundThree.f k a0_0 a0_1 a1_0 a1_1 a2 a3 = some r) :
  Calls Try.prog 4 #[.agg #[.int .i64 a0_0, .int .i64 a0_1], .agg #[.int .i64 a1_0, .int .i64 a1_1], .int .u16 a2, .int .u16 a3] w fun e w' => e = .returned (.bool r) ∧ Below w.heap.size w w' := by
 have hu32 := Try.underlying32
 have HB := zam (Below.refl w.heap.size w)
 have H : ((isobathref01_Valid.f a0_0 a0_1).bind fun t103 => (if t103 = true then ((isobathref01_Valid.f a1_0 a1_1).bind fun t104 => (isobathlaw01_BoundThree.j0 k a2 a3 (!t104) a0_0 a0_1 a1_0 a1_1)) else (isobathlaw01_BoundThree.j0 k a2 a3 true a0_0 a0_1 a1_0 a1_1))) = some r := h
 clear h
 have HC5 := zam H
 clear H
 go_enter Try.func4, Try.ntmps4
 go_upto_region 1 with (first | ((with_reducible refine zgd (N := 4) rfl ?_); (try (refine gate_guard (by rfl) ?_; dsimp only)); refine box_event ?hg (N := 4) ?hd (cs := #[.int .i64 a0_0, .int .i64 a0_1]) (t := 32) ?hr ?_; (case hd => rfl); (case hg => rfl); (case hr => first | (go_simp; done) | (go_simp; rfl)); intro gb101 hg w6 hbox hb; have n0_ := zam (zbt (by repeat (first | (with_reducible first | exact HB.out | apply zba | apply zbn | apply zb1) | exact HB.out)) hb); have n1_ := zam (hbox); have n2_ := zam ((by rw [hg]; exact (zbz (by repeat (first | (with_reducible first | exact HB.out | apply zba | apply zbn | apply zb1) | exact HB.out))) : w.heap.size ≤ gb101)); have n3_ := zam ((by rw [hg]; exact (zbz (by repeat (first | (with_reducible first | exact HB.out | apply zba | apply zbn | apply zb1) | exact HB.out))) : w.heap.size ≤ gb101)); clear HB; have HB := n0_; have BK101 := n1_; have GW101 := n2_; have GE101 := n3_; clear n0_ n1_ n2_ n3_; clear hb hbox hg) | ((with_reducible refine zgd (N := 5) rfl ?_); (try (refine gate_guard (by rfl) ?_; dsimp only)); refine box_event ?hg (N := 5) ?hd (cs := #[.int .i64 a1_0, .int .i64 a1_1]) (t := 32) ?hr ?_; (case hd => rfl); (case hg => rfl); (case hr => first | (go_simp; done) | (go_simp; rfl)); intro gb102 hg w7 hbox hb; have n0_ := zam (zkb (g := gb101) (o := .cells #[.int .i64 a0_0, .int .i64 a0_1] 32 (0, 0)) (by (with_reducible repeat (first | refine zkn ?_ _ | refine zkd ?_ | refine zka ?_ _)); exact BK101.out) hb); have n1_ := zam (zbt (by repeat (first | (with_reducible first | exact HB.out | apply zba | apply zbn | apply zb1 | refine zbs ?_ GE101.out) | exact HB.out)) hb); have n2_ := zam (hbox); have n3_ := zam ((by rw [hg]; exact (zbz (by repeat (first | (with_reducible first | exact HB.out | apply zba | apply zbn | apply zb1 | refine zbs ?_ GE101.out) | exact HB.out))) : w.heap.size ≤ gb102)); have n4_ := zam ((by rw [hg]; exact (zbz (by repeat (first | (with_reducible first | exact HB.out | apply zba | apply zbn | apply zb1 | refine zbs ?_ GE101.out) | exact HB.out))) : w.heap.size ≤ gb102)); have n5_ := zam ((by rw [hg]; exact Nat.ne_of_lt (blk_lt (g := gb101) (o := .cells #[.int .i64 a0_0, .int .i64 a0_1] 32 (0, 0)) (by (with_reducible repeat (first | refine zkn ?_ _ | refine zkd ?_ | refine zka ?_ _)); exact BK101.out)) : gb101 ≠ gb102)); have n6_ := zam ((by rw [hg]; exact Nat.ne_of_gt (blk_lt (g := gb101) (o := .cells #[.int .i64 a0_0, .int .i64 a0_1] 32 (0, 0)) (by (with_reducible repeat (first | refine zkn ?_ _ | refine zkd ?_ | refine zka ?_ _)); exact BK101.out)) : gb102 ≠ gb101)); clear BK101; clear HB; have BK101 := n0_; have HB := n1_; have BK102 := n2_; have GW102 := n3_; have GE102 := n4_; have NB101_102 := n5_; have NB102_101 := n6_; clear n0_ n1_ n2_ n3_ n4_ n5_ n6_; clear hb hbox hg))
 (try simp only [Act.put, zsa, zsz, zss])
 go_cut [22] (fun v22 wc => ∃ (kq : Nat) (x22_4 : Bool), v22 = .bool x22_4 ∧ Aside0 (isobathlaw01_BoundThree.j0 kq a2 a3 x22_4 a0_0 a0_1 a1_0 a1_1 = some r) ∧ Aside0 (kq ≤ k) ∧ Aside0 (wc.heap[gb101]? = some (.cells #[.int .i64 a0_0, .int .i64 a0_1] 32 (0, 0))) ∧ Aside0 (wc.heap[gb102]? = some (.cells #[.int .i64 a1_0, .int .i64 a1_1] 32 (0, 0))) ∧ Aside0 (Below w.heap.size w wc))
 case first =>
  have H := HC5.out
  clear HC5
  replace H := Option.bind_eq_some_iff.mp H
  obtain ⟨t103, A80, H⟩ := H
  replace H : (if t103 = true then ((isobathref01_Valid.f a1_0 a1_1).bind fun t104 => (isobathlaw01_BoundThree.j0 k a2 a3 (!t104) a0_0 a0_1 a1_0 a1_1)) else (isobathlaw01_BoundThree.j0 k a2 a3 true a0_0 a0_1 a1_0 a1_1)) = some r := H
  have A8 := zam A80
  clear A80
  by_cases c9 : t103 = true
  ·subst c9
   have H1 : ((isobathref01_Valid.f a1_0 a1_1).bind fun t104 => (isobathlaw01_BoundThree.j0 k a2 a3 (!t104) a0_0 a0_1 a1_0 a1_1)) = some r := by rw [if_pos rfl] at H; exact H
   clear H
   have H := H1
   clear H1
   replace H := Option.bind_eq_some_iff.mp H
   obtain ⟨t104, A100, H⟩ := H
   replace H : (isobathlaw01_BoundThree.j0 k a2 a3 (!t104) a0_0 a0_1 a1_0 a1_1) = some r := H
   have A10 := zam A100
   clear A100
   have H' := zam H
   clear H
   have hnb11 := NB101_102.out
   have hnc11 := NB102_101.out
   have hcz12_0 : w7.cell? ⟨gb101, 0, none⟩ = some (.int .i64 a0_0) := (zkc BK101.out 0).trans rfl
   have hcz12_1 : w7.cell? ⟨gb101, 1, none⟩ = some (.int .i64 a0_1) := (zkc BK101.out 1).trans rfl
   have hfz12_0 := zkz BK101.out 0
   have hfz12_1 := zkz BK101.out 1
   go_wp2_with (first | ((with_reducible refine zgc (f := 22) rfl ?_); refine goesL_ (some 16) rfl rfl Try.func22 (by kernel_rfl) rfl #[.agg #[.int .i64 a0_0, .int .i64 a0_1]] rfl (by (try simp only [zmt, List.map_cons, List.map_nil]); first | done | rfl | (simp only [zld, zlt]; rfl)) ?_; (with_reducible refine (isobathref01_Valid.calls a0_0 a0_1 true _ A8.out).mono ?_); rintro e w13 ⟨rfl, hb⟩; refine ⟨_, rfl, ?_⟩; have n0_ := zam (zkb (g := gb101) (o := .cells #[.int .i64 a0_0, .int .i64 a0_1] 32 (0, 0)) (by (with_reducible repeat (first | refine zkn ?_ _ | refine zkd ?_ | refine zka ?_ _)); exact BK101.out) hb); have n1_ := zam (zkb (g := gb102) (o := .cells #[.int .i64 a1_0, .int .i64 a1_1] 32 (0, 0)) (by (with_reducible repeat (first | refine zkn ?_ _ | refine zkd ?_ | refine zka ?_ _)); exact BK102.out) hb); have n2_ := zam (zbt (by repeat (first | (with_reducible first | exact HB.out | apply zba | apply zbn | apply zb1 | refine zbs ?_ GE101.out | refine zbs ?_ GE102.out) | exact HB.out)) hb); clear BK101; clear BK102; clear HB; have BK101 := n0_; have BK102 := n1_; have HB := n2_; clear n0_ n1_ n2_; (try clear hb); (try clear hb2); (try clear hk); (try clear hi); have hcz14_0 : w13.cell? ⟨gb102, 0, none⟩ = some (.int .i64 a1_0) := (zkc BK102.out 0).trans rfl; have hcz14_1 : w13.cell? ⟨gb102, 1, none⟩ = some (.int .i64 a1_1) := (zkc BK102.out 1).trans rfl; have hfz14_0 := zkz BK102.out 0; have hfz14_1 := zkz BK102.out 1) | (go_at_call 22; (with_reducible refine (isobathref01_Valid.calls a1_0 a1_1 t104 _ A10.out).mono ?_); rintro e w15 ⟨rfl, hb⟩; have n0_ := zam (zkb (g := gb101) (o := .cells #[.int .i64 a0_0, .int .i64 a0_1] 32 (0, 0)) (by (with_reducible repeat (first | refine zkn ?_ _ | refine zkd ?_ | refine zka ?_ _)); exact BK101.out) hb); have n1_ := zam (zkb (g := gb102) (o := .cells #[.int .i64 a1_0, .int .i64 a1_1] 32 (0, 0)) (by (with_reducible repeat (first | refine zkn ?_ _ | refine zkd ?_ | refine zka ?_ _)); exact BK102.out) hb); have n2_ := zam (zbt (by repeat (first | (with_reducible first | exact HB.out | apply zba | apply zbn | apply zb1 | refine zbs ?_ GE101.out | refine zbs ?_ GE102.out) | exact HB.out)) hb); clear BK101; clear BK102; clear HB; have BK101 := n0_; have BK102 := n1_; have HB := n2_; clear n0_ n1_ n2_; (try clear hb); (try clear hb2); (try clear hk); (try clear hi)))
   go_meet
   case rel => exact ⟨_, (!t104), (by first | rfl | (simp; done) | (simp [*]; done) | (exfalso; simp only [beq_iff_eq] at *; omega)), H', ⟨by first | omega | exact Nat.le_refl _⟩, ⟨by (with_reducible repeat (first | refine zkn ?_ _ | refine zkd ?_ | refine zka ?_ _)); exact BK101.out⟩, ⟨by (with_reducible repeat (first | refine zkn ?_ _ | refine zkd ?_ | refine zka ?_ _)); exact BK102.out⟩, ⟨by repeat (first | (with_reducible first | exact HB.out | apply zba | apply zbn | apply zb1 | refine zbs ?_ GE101.out | refine zbs ?_ GE102.out) | exact HB.out)⟩⟩
  replace c9 := Bool.eq_false_iff.mpr c9
  subst c9
  have H1 : (isobathlaw01_BoundThree.j0 k a2 a3 true a0_0 a0_1 a1_0 a1_1) = some r := by rw [if_neg (show ¬ (false = true) by decide)] at H; exact H
  clear H
  have H := H1
  clear H1
  have H' := zam H
  clear H
  have hnb16 := NB101_102.out
  have hnc16 := NB102_101.out
  have hcz17_0 : w7.cell? ⟨gb101, 0, none⟩ = some (.int .i64 a0_0) := (zkc BK101.out 0).trans rfl
  have hcz17_1 : w7.cell? ⟨gb101, 1, none⟩ = some (.int .i64 a0_1) := (zkc BK101.out 1).trans rfl
  have hfz17_0 := zkz BK101.out 0
  have hfz17_1 := zkz BK101.out 1
  go_wp2_with (first | ((with_reducible refine zgc (f := 22) rfl ?_); refine goesL_ (some 16) rfl rfl Try.func22 (by kernel_rfl) rfl #[.agg #[.int .i64 a0_0, .int .i64 a0_1]] rfl (by (try simp only [zmt, List.map_cons, List.map_nil]); first | done | rfl | (simp only [zld, zlt]; rfl)) ?_; (with_reducible refine (isobathref01_Valid.calls a0_0 a0_1 false _ A8.out).mono ?_); rintro e w18 ⟨rfl, hb⟩; refine ⟨_, rfl, ?_⟩; have n0_ := zam (zkb (g := gb101) (o := .cells #[.int .i64 a0_0, .int .i64 a0_1] 32 (0, 0)) (by (with_reducible repeat (first | refine zkn ?_ _ | refine zkd ?_ | refine zka ?_ _)); exact BK101.out) hb); have n1_ := zam (zkb (g := gb102) (o := .cells #[.int .i64 a1_0, .int .i64 a1_1] 32 (0, 0)) (by (with_reducible repeat (first | refine zkn ?_ _ | refine zkd ?_ | refine zka ?_ _)); exact BK102.out) hb); have n2_ := zam (zbt (by repeat (first | (with_reducible first | exact HB.out | apply zba | apply zbn | apply zb1 | refine zbs ?_ GE101.out | refine zbs ?_ GE102.out) | exact HB.out)) hb); clear BK101; clear BK102; clear HB; have BK101 := n0_; have BK102 := n1_; have HB := n2_; clear n0_ n1_ n2_; (try clear hb); (try clear hb2); (try clear hk); (try clear hi)))
  go_meet
  case rel => exact ⟨_, (true), (by first | rfl | (simp; done) | (simp [*]; done) | (exfalso; simp only [beq_iff_eq] at *; omega)), H', ⟨by first | omega | exact Nat.le_refl _⟩, ⟨by (with_reducible repeat (first | refine zkn ?_ _ | refine zkd ?_ | refine zka ?_ _)); exact BK101.out⟩, ⟨by (with_reducible repeat (first | refine zkn ?_ _ | refine zkd ?_ | refine zka ?_ _)); exact BK102.out⟩, ⟨by repeat (first | (with_reducible first | exact HB.out | apply zba | apply zbn | apply zb1 | refine zbs ?_ GE101.out | refine zbs ?_ GE102.out) | exact HB.out)⟩⟩
 case rest =>
  clear HC5
  try clear c1
  try clear c2
  try clear p2
  try clear c4
  try clear c9
  try clear c11
  try clear c16
  try clear hcz12_0
  try clear hcz12_1
  try clear hcz14_0
  try clear hcz14_1
  try clear hcz17_0
  try clear hcz17_1
  try clear hfz12_0
  try clear hfz12_1
  try clear hfz14_0
  try clear hfz14_1
  try clear hfz17_0
  try clear hfz17_1
  obtain ⟨kq, x22_4, rfl, HA, HJ4, BK101, BK102, HB⟩ := hcut
  cases kq with
  | zero => exact absurd HA.out (by simp [isobathlaw01_BoundThree.j0])
  | succ kj4 =>
   have H := HA.out
   clear HA
   simp only [isobathlaw01_BoundThree.j0] at H
   by_cases c19 : x22_4 = true
   ·subst c19
    have H1 : ((isobathlaw01_Works.f kj4).bind fun t105 => (some t105)) = some r := by rw [if_pos rfl] at H; exact H
    clear H
    have H := H1
    clear H1
    replace H := Option.bind_eq_some_iff.mp H
    obtain ⟨t105, A200, H⟩ := H
    replace H : (some t105) = some r := H
    have A20 := zam A200
    clear A200
    obtain rfl := zsi H
    go_wp2_with (first | ((with_reducible refine zgc (f := 18) rfl ?_); refine goesL_ (some 23) rfl rfl Try.func18 (by kernel_rfl) rfl #[] rfl (by (try simp only [zmt, List.map_cons, List.map_nil]); first | done | rfl | (simp only [zld, zlt]; rfl)) ?_; (with_reducible refine (isobathlaw01_Works.calls kj4  t105 _ A20.out).mono ?_); rintro e w21 ⟨rfl, hb⟩; refine ⟨_, rfl, ?_⟩; have n0_ := zam (zkb (g := gb101) (o := .cells #[.int .i64 a0_0, .int .i64 a0_1] 32 (0, 0)) (by (with_reducible repeat (first | refine zkn ?_ _ | refine zkd ?_ | refine zka ?_ _)); exact BK101.out) hb); have n1_ := zam (zkb (g := gb102) (o := .cells #[.int .i64 a1_0, .int .i64 a1_1] 32 (0, 0)) (by (with_reducible repeat (first | refine zkn ?_ _ | refine zkd ?_ | refine zka ?_ _)); exact BK102.out) hb); have n2_ := zam (zbt (by repeat (first | (with_reducible first | exact HB.out | apply zba | apply zbn | apply zb1 | refine zbs ?_ GE101.out | refine zbs ?_ GE102.out) | exact HB.out)) hb); clear BK101; clear BK102; clear HB; have BK101 := n0_; have BK102 := n1_; have HB := n2_; clear n0_ n1_ n2_; (try clear hb); (try clear hb2); (try clear hk); (try clear hi)))
    go_ret
    exact ⟨by first | rfl | (simp [errW_none, errW_some] <;> rfl) | (simp [*, errW_none, errW_some] <;> rfl), by repeat (first | (with_reducible first | exact HB.out | apply zba | apply zbn | apply zb1 | refine zbs ?_ GE101.out | refine zbs ?_ GE102.out) | exact HB.out)⟩
   replace c19 := Bool.eq_false_iff.mpr c19
   subst c19
   have H1 : ((isobathlaw01_Part.f a0_0 a0_1 a2).bind fun t106 => ((isobathlaw01_Part.f a1_0 a1_1 a3).bind fun t107 => ((bound_Less.f kj4 a0_0 a0_1 a1_0 a1_1).bind fun bt108 => ((bound_In.f kj4 a0_0 a0_1 a1_0 a1_1).bind fun bt110 => (if bt108.2 = 0 then (isobathlaw01_BoundThree.j1 kj4 t106 t107 bt108.1 bt110.1 (bt110.2 != 0) a0_0 a0_1 a1_0 a1_1) else (none)))))) = some r := by rw [if_neg (show ¬ (false = true) by decide)] at H; exact H
   clear H
   have H := H1
   clear H1
   replace H := Option.bind_eq_some_iff.mp H
   obtain ⟨t106, A220, H⟩ := H
   replace H : ((isobathlaw01_Part.f a1_0 a1_1 a3).bind fun t107 => ((bound_Less.f kj4 a0_0 a0_1 a1_0 a1_1).bind fun bt108 => ((bound_In.f kj4 a0_0 a0_1 a1_0 a1_1).bind fun bt110 => (if bt108.2 = 0 then (isobathlaw01_BoundThree.j1 kj4 t106 t107 bt108.1 bt110.1 (bt110.2 != 0) a0_0 a0_1 a1_0 a1_1) else (none))))) = some r := H
   have A22 := zam A220
   clear A220
   replace H := Option.bind_eq_some_iff.mp H
   obtain ⟨t107, A230, H⟩ := H
   replace H : ((bound_Less.f kj4 a0_0 a0_1 a1_0 a1_1).bind fun bt108 => ((bound_In.f kj4 a0_0 a0_1 a1_0 a1_1).bind fun bt110 => (if bt108.2 = 0 then (isobathlaw01_BoundThree.j1 kj4 t106 t107 bt108.1 bt110.1 (bt110.2 != 0) a0_0 a0_1 a1_0 a1_1) else (none)))) = some r := H
   have A23 := zam A230
   clear A230
   replace H := Option.bind_eq_some_iff.mp H
   obtain ⟨⟨t108, t109⟩, A240, H⟩ := H
   replace H : ((bound_In.f kj4 a0_0 a0_1 a1_0 a1_1).bind fun bt110 => (if t109 = 0 then (isobathlaw01_BoundThree.j1 kj4 t106 t107 t108 bt110.1 (bt110.2 != 0) a0_0 a0_1 a1_0 a1_1) else (none))) = some r := H
   have A24 := zam A240
   clear A240
   replace H := Option.bind_eq_some_iff.mp H
   obtain ⟨⟨t110, t111⟩, A250, H⟩ := H
   replace H : (if t109 = 0 then (isobathlaw01_BoundThree.j1 kj4 t106 t107 t108 t110 (t111 != 0) a0_0 a0_1 a1_0 a1_1) else (none)) = some r := H
   have A25 := zam A250
   clear A250
   have HC26 := zam H
   clear H
   try go_wp2
   have n0_ := zam (zkd BK101.out)
   have n1_ := zam (zkd BK102.out)
   have n2_ := zam (zb1 HB.out)
   clear BK101
   clear BK102
   clear HB
   have BK101 := n0_
   have BK102 := n1_
   have HB := n2_
   clear n0_ n1_ n2_
   refine start_ (n := 8) (S := fun w' => w'.cell? ⟨gb101, 0, none⟩ = some (.int .i64 a0_0) ∧ w'.cell? ⟨gb101, 1, none⟩ = some (.int .i64 a0_1) ∧ w'.cell? ⟨gb102, 0, none⟩ = some (.int .i64 a1_0) ∧ w'.cell? ⟨gb102, 1, none⟩ = some (.int .i64 a1_1)) (ds := []) #[false, false, false, false, false, false, false, false] (by kernel_rfl) rfl rfl ⟨(zkc BK101.out 0).trans rfl, (zkc BK101.out 1).trans rfl, (zkc BK102.out 0).trans rfl, (zkc BK102.out 1).trans rfl⟩ (fun hHeld => ?_); refine with_tabW isobathlaw01_BoundThree.tab3 isobathlaw01_BoundThree.bits3 (fun HT_ HW_ => ?_)
   generalize wc.drew = w27 at BK101 BK102 HB hHeld ⊢
   refine pure_ (i := 1) (N := some 25) (v := ?_) (a' := ?_) #[false, true, false, false, false, false, false, false] rfl rfl (any_of HT_.out (by kernel_rfl)) (fun _ _ _ h => h) (Or.inl ⟨by rfl, ?_⟩) ?_ ?_
   rotate_left
   ·intro w'
    go_simp
    with_reducible rfl
   rotate_left
   ·simp only [Act.put, zsa, zsz, zss, i64_w, i32_w]
    rfl
   refine pure_ (i := 4) (N := some 28) (v := ?_) (a' := ?_) #[false, true, false, false, true, false, false, false] rfl rfl (any_of HT_.out (by kernel_rfl)) (fun _ _ _ h => h) (Or.inl ⟨by rfl, ?_⟩) ?_ ?_
   rotate_left
   ·intro w'
    go_simp
    with_reducible rfl
   rotate_left
   ·simp only [Act.put, zsa, zsz, zss, i64_w, i32_w]
    rfl
   refine take_ (i := 0) (N := some 24) (v := ?_) (a' := ?_) #[true, true, false, false, true, false, false, false] rfl rfl (take_ofW HT_.out HW_.out (by kernel_rfl)) (fun _ _ _ h => h) (Or.inl ⟨by rfl, ?_⟩) hHeld ?_ ?_
   rotate_left
   ·rintro w' ⟨s0, s1, s2, s3⟩
    go_simp
    with_reducible rfl
   rotate_left
   ·simp only [Act.put, zsa, zsz, zss, i64_w, i32_w]
    rfl
   refine take_ (i := 3) (N := some 27) (v := ?_) (a' := ?_) #[true, true, false, true, true, false, false, false] rfl rfl (take_ofW HT_.out HW_.out (by kernel_rfl)) (fun _ _ _ h => h) (Or.inl ⟨by rfl, ?_⟩) hHeld ?_ ?_
   rotate_left
   ·rintro w' ⟨s0, s1, s2, s3⟩
    go_simp
    with_reducible rfl
   rotate_left
   ·simp only [Act.put, zsa, zsz, zss, i64_w, i32_w]
    rfl
   refine one_ (i := 2) (N := some 26) #[true, true, true, true, true, false, false, false] rfl rfl (one_of HT_.out (by kernel_rfl)) (by decide) (fun K hK => ?_)
   refine goes_ Try.func23 (by kernel_rfl) rfl #[.agg #[.int .i64 a0_0, .int .i64 a0_1], .int .u16 a2] (by rfl) rfl rfl (by (try simp only [zmt, List.map_cons, List.map_nil]); first | done | rfl | (simp only [zld, zlt]; rfl)) ?_
   with_reducible refine (isobathlaw01_Part.calls a0_0 a0_1 a2 t106 _ A22.out).mono ?_
   rintro e w28 ⟨rfl, hb⟩
   refine ⟨_, rfl, ?_⟩
   have n0_ := zam (zkb (g := gb101) (o := .cells #[.int .i64 a0_0, .int .i64 a0_1] 32 (0, 0)) (by (with_reducible repeat (first | refine zkn ?_ _ | refine zkd ?_ | refine zka ?_ _)); exact BK101.out) hb)
   have n1_ := zam (zkb (g := gb102) (o := .cells #[.int .i64 a1_0, .int .i64 a1_1] 32 (0, 0)) (by (with_reducible repeat (first | refine zkn ?_ _ | refine zkd ?_ | refine zka ?_ _)); exact BK102.out) hb)
   have n2_ := zam (zbt (by repeat (first | (with_reducible first | exact HB.out | apply zba | apply zbn | apply zb1 | refine zbs ?_ GE101.out | refine zbs ?_ GE102.out) | exact HB.out)) hb)
   clear BK101
   clear BK102
   clear HB
   have BK101 := n0_
   have BK102 := n1_
   have HB := n2_
   clear n0_ n1_ n2_
   (try clear hb)
   (try clear hb2)
   (try clear hk)
   (try clear hi)
   refine hK.out _ _ ⟨(zkc BK101.out 0).trans rfl, (zkc BK101.out 1).trans rfl, (zkc BK102.out 0).trans rfl, (zkc BK102.out 1).trans rfl⟩ (fun hHeld => ?_)
   clear hK K
   refine norm_ (a' := ?_) ?_ ?_
   rotate_left
   ·show Act.put _ (some 26) _ = _
    simp only [Act.put, zsa, zsz, zss, i64_w, i32_w]
    rfl
   refine one_ (i := 5) (N := some 29) #[true, true, true, true, true, true, false, false] rfl rfl (one_of HT_.out (by kernel_rfl)) (by decide) (fun K hK => ?_)
   refine goes_ Try.func23 (by kernel_rfl) rfl #[.agg #[.int .i64 a1_0, .int .i64 a1_1], .int .u16 a3] (by rfl) rfl rfl (by (try simp only [zmt, List.map_cons, List.map_nil]); first | done | rfl | (simp only [zld, zlt]; rfl)) ?_
   with_reducible refine (isobathlaw01_Part.calls a1_0 a1_1 a3 t107 _ A23.out).mono ?_
   rintro e w29 ⟨rfl, hb⟩
   refine ⟨_, rfl, ?_⟩
   have n0_ := zam (zkb (g := gb101) (o := .cells #[.int .i64 a0_0, .int .i64 a0_1] 32 (0, 0)) (by (with_reducible repeat (first | refine zkn ?_ _ | refine zkd ?_ | refine zka ?_ _)); exact BK101.out) hb)
   have n1_ := zam (zkb (g := gb102) (o := .cells #[.int .i64 a1_0, .int .i64 a1_1] 32 (0, 0)) (by (with_reducible repeat (first | refine zkn ?_ _ | refine zkd ?_ | refine zka ?_ _)); exact BK102.out) hb)
   have n2_ := zam (zbt (by repeat (first | (with_reducible first | exact HB.out | apply zba | apply zbn | apply zb1 | refine zbs ?_ GE101.out | refine zbs ?_ GE102.out) | exact HB.out)) hb)
   clear BK101
   clear BK102
   clear HB
   have BK101 := n0_
   have BK102 := n1_
   have HB := n2_
   clear n0_ n1_ n2_
   (try clear hb)
   (try clear hb2)
   (try clear hk)
   (try clear hi)
   refine hK.out _ _ ⟨(zkc BK101.out 0).trans rfl, (zkc BK101.out 1).trans rfl, (zkc BK102.out 0).trans rfl, (zkc BK102.out 1).trans rfl⟩ (fun hHeld => ?_)
   clear hK K
   refine norm_ (a' := ?_) ?_ ?_
   rotate_left
   ·show Act.put _ (some 29) _ = _
    simp only [Act.put, zsa, zsz, zss, i64_w, i32_w]
    rfl
   refine pure_ (i := 6) (N := some 9) (v := ?_) (a' := ?_) #[true, true, true, true, true, true, true, false] rfl rfl (any_of HT_.out (by kernel_rfl)) (fun _ _ _ h => h) (Or.inl ⟨by rfl, ?_⟩) ?_ ?_
   rotate_left
   ·intro w'
    go_simp
    with_reducible rfl
   rotate_left
   ·simp only [Act.put, zsa, zsz, zss, i64_w, i32_w]
    rfl
   refine pure_ (i := 7) (N := some 10) (v := ?_) (a' := ?_) #[true, true, true, true, true, true, true, true] rfl rfl (any_of HT_.out (by kernel_rfl)) (fun _ _ _ h => h) (Or.inl ⟨by rfl, ?_⟩) ?_ ?_
   rotate_left
   ·intro w'
    go_simp
    with_reducible rfl
   rotate_left
   ·simp only [Act.put, zsa, zsz, zss, i64_w, i32_w]
    rfl
   refine done_ (done_of HT_.out (by kernel_rfl)) ?_
   have hnb30 := NB101_102.out
   have hnc30 := NB102_101.out
   have hcz31_0 : w29.cell? ⟨gb101, 0, none⟩ = some (.int .i64 a0_0) := (zkc BK101.out 0).trans rfl
   have hcz31_1 : w29.cell? ⟨gb101, 1, none⟩ = some (.int .i64 a0_1) := (zkc BK101.out 1).trans rfl
   have hfz31_0 := zkz BK101.out 0
   have hfz31_1 := zkz BK101.out 1
   have hcz32_0 : w29.cell? ⟨gb102, 0, none⟩ = some (.int .i64 a1_0) := (zkc BK102.out 0).trans rfl
   have hcz32_1 : w29.cell? ⟨gb102, 1, none⟩ = some (.int .i64 a1_1) := (zkc BK102.out 1).trans rfl
   have hfz32_0 := zkz BK102.out 0
   have hfz32_1 := zkz BK102.out 1
   go_upto_region 6 with (first | ((with_reducible refine zgc (f := 24) rfl ?_); refine goesL_ (some 33) rfl rfl Try.func24 (by kernel_rfl) rfl #[.agg #[.int .i64 a0_0, .int .i64 a0_1], .agg #[.int .i64 a1_0, .int .i64 a1_1]] rfl (by (try simp only [zmt, List.map_cons, List.map_nil]); first | done | rfl | (simp only [zld, zlt]; rfl)) ?_; (with_reducible refine (bound_Less.calls kj4 a0_0 a0_1 a1_0 a1_1 t108 t109 _ A24.out).mono ?_); rintro e w33 ⟨rfl, hb⟩; refine ⟨_, rfl, ?_⟩; have n0_ := zam (zkb (g := gb101) (o := .cells #[.int .i64 a0_0, .int .i64 a0_1] 32 (0, 0)) (by (with_reducible repeat (first | refine zkn ?_ _ | refine zkd ?_ | refine zka ?_ _)); exact BK101.out) hb); have n1_ := zam (zkb (g := gb102) (o := .cells #[.int .i64 a1_0, .int .i64 a1_1] 32 (0, 0)) (by (with_reducible repeat (first | refine zkn ?_ _ | refine zkd ?_ | refine zka ?_ _)); exact BK102.out) hb); have n2_ := zam (zbt (by repeat (first | (with_reducible first | exact HB.out | apply zba | apply zbn | apply zb1 | refine zbs ?_ GE101.out | refine zbs ?_ GE102.out) | exact HB.out)) hb); clear BK101; clear BK102; clear HB; have BK101 := n0_; have BK102 := n1_; have HB := n2_; clear n0_ n1_ n2_; (try clear hb); (try clear hb2); (try clear hk); (try clear hi); have hcz34_0 : w33.cell? ⟨gb101, 0, none⟩ = some (.int .i64 a0_0) := (zkc BK101.out 0).trans rfl; have hcz34_1 : w33.cell? ⟨gb101, 1, none⟩ = some (.int .i64 a0_1) := (zkc BK101.out 1).trans rfl; have hfz34_0 := zkz BK101.out 0; have hfz34_1 := zkz BK101.out 1; have hcz35_0 : w33.cell? ⟨gb102, 0, none⟩ = some (.int .i64 a1_0) := (zkc BK102.out 0).trans rfl; have hcz35_1 : w33.cell? ⟨gb102, 1, none⟩ = some (.int .i64 a1_1) := (zkc BK102.out 1).trans rfl; have hfz35_0 := zkz BK102.out 0; have hfz35_1 := zkz BK102.out 1) | ((with_reducible refine zgc (f := 25) rfl ?_); refine goesL_ (some 39) rfl rfl Try.func25 (by kernel_rfl) rfl #[.agg #[.int .i64 a0_0, .int .i64 a0_1], .agg #[.int .i64 a1_0, .int .i64 a1_1]] rfl (by (try simp only [zmt, List.map_cons, List.map_nil]); first | done | rfl | (simp only [zld, zlt]; rfl)) ?_; (with_reducible refine (bound_In.calls kj4 a0_0 a0_1 a1_0 a1_1 t110 t111 _ A25.out).mono ?_); rintro e w36 ⟨rfl, hb⟩; refine ⟨_, rfl, ?_⟩; have n0_ := zam (zkb (g := gb101) (o := .cells #[.int .i64 a0_0, .int .i64 a0_1] 32 (0, 0)) (by (with_reducible repeat (first | refine zkn ?_ _ | refine zkd ?_ | refine zka ?_ _)); exact BK101.out) hb); have n1_ := zam (zkb (g := gb102) (o := .cells #[.int .i64 a1_0, .int .i64 a1_1] 32 (0, 0)) (by (with_reducible repeat (first | refine zkn ?_ _ | refine zkd ?_ | refine zka ?_ _)); exact BK102.out) hb); have n2_ := zam (zbt (by repeat (first | (with_reducible first | exact HB.out | apply zba | apply zbn | apply zb1 | refine zbs ?_ GE101.out | refine zbs ?_ GE102.out) | exact HB.out)) hb); clear BK101; clear BK102; clear HB; have BK101 := n0_; have BK102 := n1_; have HB := n2_; clear n0_ n1_ n2_; (try clear hb); (try clear hb2); (try clear hk); (try clear hi)))
   (try simp only [Act.put, zsa, zsz, zss])
   go_cut [47] (fun v47 wc => ∃ (kq : Nat) (x47_25 : Bool), v47 = .bool x47_25 ∧ Aside0 (isobathlaw01_BoundThree.j1 kq t106 t107 t108 t110 x47_25 a0_0 a0_1 a1_0 a1_1 = some r) ∧ Aside0 (kq ≤ kj4) ∧ Aside0 (wc.heap[gb101]? = some (.cells #[.int .i64 a0_0, .int .i64 a0_1] 32 (0, 0))) ∧ Aside0 (wc.heap[gb102]? = some (.cells #[.int .i64 a1_0, .int .i64 a1_1] 32 (0, 0))) ∧ Aside0 (Below w.heap.size w wc))
   case first =>
    have H := HC26.out
    clear HC26
    by_cases c37 : t109 = 0
    ·rw [if_pos c37] at H
     have c37b0 : (t109 == 0) = true := beq_iff_eq.mpr c37
     have c37b1 : (t109 != 0) = false := bne_eq_false_iff_eq.mpr c37
     clear c37
     (first | rw [c37b0] | (simp only [i64_w, i32_w]; rw [c37b0]) | skip)
     have H' := zam H
     clear H
     go_wp2
     go_meet
     case rel => exact ⟨_, ((t111 != 0)), (by first | rfl | (simp; done) | (simp [*]; done) | (exfalso; simp only [beq_iff_eq] at *; omega)), H', ⟨by have := HJ4.out; first | omega | exact Nat.le_refl _⟩, ⟨by (with_reducible repeat (first | refine zkn ?_ _ | refine zkd ?_ | refine zka ?_ _)); exact BK101.out⟩, ⟨by (with_reducible repeat (first | refine zkn ?_ _ | refine zkd ?_ | refine zka ?_ _)); exact BK102.out⟩, ⟨by repeat (first | (with_reducible first | exact HB.out | apply zba | apply zbn | apply zb1 | refine zbs ?_ GE101.out | refine zbs ?_ GE102.out) | exact HB.out)⟩⟩
    rw [if_neg c37] at H
    exact absurd H (by simp)
   case rest =>
    clear HC26
    try clear c1
    try clear c2
    try clear p2
    try clear c3
    try clear c4
    try clear c9
    try clear c11
    try clear c16
    try clear c18
    try clear c19
    try clear c22
    try clear c23
    try clear c24
    try clear c25
    try clear c30
    try clear c37
    try clear c37b0
    try clear c37b1
    try clear hcz12_0
    try clear hcz12_1
    try clear hcz14_0
    try clear hcz14_1
    try clear hcz17_0
    try clear hcz17_1
    try clear hcz31_0
    try clear hcz31_1
    try clear hcz32_0
    try clear hcz32_1
    try clear hcz34_0
    try clear hcz34_1
    try clear hcz35_0
    try clear hcz35_1
    try clear hfz12_0
    try clear hfz12_1
    try clear hfz14_0
    try clear hfz14_1
    try clear hfz17_0
    try clear hfz17_1
    try clear hfz31_0
    try clear hfz31_1
    try clear hfz32_0
    try clear hfz32_1
    try clear hfz34_0
    try clear hfz34_1
    try clear hfz35_0
    try clear hfz35_1
    try clear p2
    obtain ⟨kq, x47_25, rfl, HA, HJ25, BK101, BK102, HB⟩ := hcut
    cases kq with
    | zero => exact absurd HA.out (by simp [isobathlaw01_BoundThree.j1])
    | succ kj25 =>
     have H := HA.out
     clear HA
     simp only [isobathlaw01_BoundThree.j1] at H
     by_cases c38 : x47_25 = true
     ·subst c38
      have H1 : (none) = some r := by rw [if_pos rfl] at H; exact H
      clear H
      have H := H1
      clear H1
      exact absurd H (by simp)
     replace c38 := Bool.eq_false_iff.mpr c38
     subst c38
     have H1 : (if t108 = 2 then (if t106 ≥ t107 then (none) else (if t108 = 0 then (if t106 < t107 then (none) else (if t108 = 1 then (if a0_0 ≥ a1_1 then (none) else (if a0_1 < a1_0 then (none) else (if t108 < 0 then (none) else (isobathlaw01_BoundThree.j2 kj25 t106 t110 (decide (t108 > 2)) a0_0 a0_1 a1_0 a1_1)))) else (if t108 < 0 then (none) else (isobathlaw01_BoundThree.j2 kj25 t106 t110 (decide (t108 > 2)) a0_0 a0_1 a1_0 a1_1)))) else (if t108 = 1 then (if a0_0 ≥ a1_1 then (none) else (if a0_1 < a1_0 then (none) else (if t108 < 0 then (none) else (isobathlaw01_BoundThree.j2 kj25 t106 t110 (decide (t108 > 2)) a0_0 a0_1 a1_0 a1_1)))) else (if t108 < 0 then (none) else (isobathlaw01_BoundThree.j2 kj25 t106 t110 (decide (t108 > 2)) a0_0 a0_1 a1_0 a1_1))))) else (if t108 = 0 then (if t106 < t107 then (none) else (if t108 = 1 then (if a0_0 ≥ a1_1 then (none) else (if a0_1 < a1_0 then (none) else (if t108 < 0 then (none) else (isobathlaw01_BoundThree.j2 kj25 t106 t110 (decide (t108 > 2)) a0_0 a0_1 a1_0 a1_1)))) else (if t108 < 0 then (none) else (isobathlaw01_BoundThree.j2 kj25 t106 t110 (decide (t108 > 2)) a0_0 a0_1 a1_0 a1_1)))) else (if t108 = 1 then (if a0_0 ≥ a1_1 then (none) else (if a0_1 < a1_0 then (none) else (if t108 < 0 then (none) else (isobathlaw01_BoundThree.j2 kj25 t106 t110 (decide (t108 > 2)) a0_0 a0_1 a1_0 a1_1)))) else (if t108 < 0 then (none) else (isobathlaw01_BoundThree.j2 kj25 t106 t110 (decide (t108 > 2)) a0_0 a0_1 a1_0 a1_1))))) = some r := by rw [if_neg (show ¬ (false = true) by decide)] at H; exact H
     clear H
     have H := H1
     clear H1
     have HC39 := zam H
     clear H
     go_upto_region 8 with (fail)
     go_cut [89] (fun v89 wc => ∃ (kq : Nat) (x89_38 : Bool), v89 = .bool x89_38 ∧ Aside0 (isobathlaw01_BoundThree.j2 kq t106 t110 x89_38 a0_0 a0_1 a1_0 a1_1 = some r) ∧ Aside0 (kq ≤ kj25) ∧ Aside0 (wc.heap[gb101]? = some (.cells #[.int .i64 a0_0, .int .i64 a0_1] 32 (0, 0))) ∧ Aside0 (wc.heap[gb102]? = some (.cells #[.int .i64 a1_0, .int .i64 a1_1] 32 (0, 0))) ∧ Aside0 (Below w.heap.size w wc))
     case first =>
      have H := HC39.out
      clear HC39
      by_cases c40 : t108 = 2
      ·rw [if_pos c40] at H
       have c40b0 : (t108 == 2) = true := beq_iff_eq.mpr c40
       have c40b1 : (t108 != 2) = false := bne_eq_false_iff_eq.mpr c40
       clear c40
       (first | rw [c40b0] | (simp only [i64_w, i32_w]; rw [c40b0]) | skip)
       by_cases c41 : t106 ≥ t107
       ·rw [if_pos c41] at H
        exact absurd H (by simp)
       rw [if_neg c41] at H
       have c41b0 : decide (t107 ≤ t106) = false := zdf c41
       clear c41
       by_cases c42 : t108 = 0
       ·rw [if_pos c42] at H
        have c42b0 : (t108 == 0) = true := beq_iff_eq.mpr c42
        have c42b1 : (t108 != 0) = false := bne_eq_false_iff_eq.mpr c42
        clear c42
        by_cases c43 : t106 < t107
        ·rw [if_pos c43] at H
         exact absurd H (by simp)
        rw [if_neg c43] at H
        have c43b0 : decide (t106 < t107) = false := zdf c43
        clear c43
        by_cases c44 : t108 = 1
        ·rw [if_pos c44] at H
         have c44b0 : (t108 == 1) = true := beq_iff_eq.mpr c44
         have c44b1 : (t108 != 1) = false := bne_eq_false_iff_eq.mpr c44
         clear c44
         by_cases c45 : a0_0 ≥ a1_1
         ·rw [if_pos c45] at H
          exact absurd H (by simp)
         rw [if_neg c45] at H
         have c45b0 : decide (a1_1 ≤ a0_0) = false := zdf c45
         clear c45
         by_cases c46 : a0_1 < a1_0
         ·rw [if_pos c46] at H
          exact absurd H (by simp)
         rw [if_neg c46] at H
         have c46b0 : decide (a0_1 < a1_0) = false := zdf c46
         clear c46
         by_cases c47 : t108 < 0
         ·rw [if_pos c47] at H
          exact absurd H (by simp)
         rw [if_neg c47] at H
         have c47b0 : decide (t108 < 0) = false := zdf c47
         clear c47
         have H' := zam H
         clear H
         have hnb48 := NB101_102.out
         have hnc48 := NB102_101.out
         have hcz49_0 : wc.cell? ⟨gb101, 0, none⟩ = some (.int .i64 a0_0) := (zkc BK101.out 0).trans rfl
         have hcz49_1 : wc.cell? ⟨gb101, 1, none⟩ = some (.int .i64 a0_1) := (zkc BK101.out 1).trans rfl
         have hfz49_0 := zkz BK101.out 0
         have hfz49_1 := zkz BK101.out 1
         have hcz50_0 : wc.cell? ⟨gb102, 0, none⟩ = some (.int .i64 a1_0) := (zkc BK102.out 0).trans rfl
         have hcz50_1 : wc.cell? ⟨gb102, 1, none⟩ = some (.int .i64 a1_1) := (zkc BK102.out 1).trans rfl
         have hfz50_0 := zkz BK102.out 0
         have hfz50_1 := zkz BK102.out 1
         go_wp2
         go_meet
         case rel => exact ⟨_, (decide (t108 > 2)), (by first | rfl | (simp; done) | (simp [*]; done) | (exfalso; simp only [beq_iff_eq] at *; omega)), H', ⟨by have := HJ4.out; have := HJ25.out; first | omega | exact Nat.le_refl _⟩, ⟨by (with_reducible repeat (first | refine zkn ?_ _ | refine zkd ?_ | refine zka ?_ _)); exact BK101.out⟩, ⟨by (with_reducible repeat (first | refine zkn ?_ _ | refine zkd ?_ | refine zka ?_ _)); exact BK102.out⟩, ⟨by repeat (first | (with_reducible first | exact HB.out | apply zba | apply zbn | apply zb1 | refine zbs ?_ GE101.out | refine zbs ?_ GE102.out) | exact HB.out)⟩⟩
        rw [if_neg c44] at H
        have c44b0 : (t108 == 1) = false := beq_eq_false_iff_ne.mpr c44
        have c44b1 : (t108 != 1) = true := bne_iff_ne.mpr c44
        by_cases c51 : t108 < 0
        ·rw [if_pos c51] at H
         exact absurd H (by simp)
        rw [if_neg c51] at H
        have c51b0 : decide (t108 < 0) = false := zdf c51
        clear c51
        have H' := zam H
        clear H
        go_wp2
        go_meet
        case rel => exact ⟨_, (decide (t108 > 2)), (by first | rfl | (simp; done) | (simp [*]; done) | (exfalso; simp only [beq_iff_eq] at *; omega)), H', ⟨by have := HJ4.out; have := HJ25.out; first | omega | exact Nat.le_refl _⟩, ⟨by (with_reducible repeat (first | refine zkn ?_ _ | refine zkd ?_ | refine zka ?_ _)); exact BK101.out⟩, ⟨by (with_reducible repeat (first | refine zkn ?_ _ | refine zkd ?_ | refine zka ?_ _)); exact BK102.out⟩, ⟨by repeat (first | (with_reducible first | exact HB.out | apply zba | apply zbn | apply zb1 | refine zbs ?_ GE101.out | refine zbs ?_ GE102.out) | exact HB.out)⟩⟩
       rw [if_neg c42] at H
       have c42b0 : (t108 == 0) = false := beq_eq_false_iff_ne.mpr c42
       have c42b1 : (t108 != 0) = true := bne_iff_ne.mpr c42
       by_cases c52 : t108 = 1
       ·rw [if_pos c52] at H
        have c52b0 : (t108 == 1) = true := beq_iff_eq.mpr c52
        have c52b1 : (t108 != 1) = false := bne_eq_false_iff_eq.mpr c52
        clear c52
        by_cases c53 : a0_0 ≥ a1_1
        ·rw [if_pos c53] at H
         exact absurd H (by simp)
        rw [if_neg c53] at H
        have c53b0 : decide (a1_1 ≤ a0_0) = false := zdf c53
        clear c53
        by_cases c54 : a0_1 < a1_0
        ·rw [if_pos c54] at H
         exact absurd H (by simp)
        rw [if_neg c54] at H
        have c54b0 : decide (a0_1 < a1_0) = false := zdf c54
        clear c54
        by_cases c55 : t108 < 0
        ·rw [if_pos c55] at H
         exact absurd H (by simp)
        rw [if_neg c55] at H
        have c55b0 : decide (t108 < 0) = false := zdf c55
        clear c55
        have H' := zam H
        clear H
        have hnb56 := NB101_102.out
        have hnc56 := NB102_101.out
        have hcz57_0 : wc.cell? ⟨gb101, 0, none⟩ = some (.int .i64 a0_0) := (zkc BK101.out 0).trans rfl
        have hcz57_1 : wc.cell? ⟨gb101, 1, none⟩ = some (.int .i64 a0_1) := (zkc BK101.out 1).trans rfl
        have hfz57_0 := zkz BK101.out 0
        have hfz57_1 := zkz BK101.out 1
        have hcz58_0 : wc.cell? ⟨gb102, 0, none⟩ = some (.int .i64 a1_0) := (zkc BK102.out 0).trans rfl
        have hcz58_1 : wc.cell? ⟨gb102, 1, none⟩ = some (.int .i64 a1_1) := (zkc BK102.out 1).trans rfl
        have hfz58_0 := zkz BK102.out 0
        have hfz58_1 := zkz BK102.out 1
        go_wp2
        go_meet
        case rel => exact ⟨_, (decide (t108 > 2)), (by first | rfl | (simp; done) | (simp [*]; done) | (exfalso; simp only [beq_iff_eq] at *; omega)), H', ⟨by have := HJ4.out; have := HJ25.out; first | omega | exact Nat.le_refl _⟩, ⟨by (with_reducible repeat (first | refine zkn ?_ _ | refine zkd ?_ | refine zka ?_ _)); exact BK101.out⟩, ⟨by (with_reducible repeat (first | refine zkn ?_ _ | refine zkd ?_ | refine zka ?_ _)); exact BK102.out⟩, ⟨by repeat (first | (with_reducible first | exact HB.out | apply zba | apply zbn | apply zb1 | refine zbs ?_ GE101.out | refine zbs ?_ GE102.out) | exact HB.out)⟩⟩
       rw [if_neg c52] at H
       have c52b0 : (t108 == 1) = false := beq_eq_false_iff_ne.mpr c52
       have c52b1 : (t108 != 1) = true := bne_iff_ne.mpr c52
       by_cases c59 : t108 < 0
       ·rw [if_pos c59] at H
        exact absurd H (by simp)
       rw [if_neg c59] at H
       have c59b0 : decide (t108 < 0) = false := zdf c59
       clear c59
       have H' := zam H
       clear H
       go_wp2
       go_meet
       case rel => exact ⟨_, (decide (t108 > 2)), (by first | rfl | (simp; done) | (simp [*]; done) | (exfalso; simp only [beq_iff_eq] at *; omega)), H', ⟨by have := HJ4.out; have := HJ25.out; first | omega | exact Nat.le_refl _⟩, ⟨by (with_reducible repeat (first | refine zkn ?_ _ | refine zkd ?_ | refine zka ?_ _)); exact BK101.out⟩, ⟨by (with_reducible repeat (first | refine zkn ?_ _ | refine zkd ?_ | refine zka ?_ _)); exact BK102.out⟩, ⟨by repeat (first | (with_reducible first | exact HB.out | apply zba | apply zbn | apply zb1 | refine zbs ?_ GE101.out | refine zbs ?_ GE102.out) | exact HB.out)⟩⟩
      rw [if_neg c40] at H
      have c40b0 : (t108 == 2) = false := beq_eq_false_iff_ne.mpr c40
      have c40b1 : (t108 != 2) = true := bne_iff_ne.mpr c40
      (first | rw [c40b0] | (simp only [i64_w, i32_w]; rw [c40b0]) | skip)
      by_cases c60 : t108 = 0
      ·rw [if_pos c60] at H
       have c60b0 : (t108 == 0) = true := beq_iff_eq.mpr c60
       have c60b1 : (t108 != 0) = false := bne_eq_false_iff_eq.mpr c60
       clear c60
       by_cases c61 : t106 < t107
       ·rw [if_pos c61] at H
        exact absurd H (by simp)
       rw [if_neg c61] at H
       have c61b0 : decide (t106 < t107) = false := zdf c61
       clear c61
       by_cases c62 : t108 = 1
       ·rw [if_pos c62] at H
        have c62b0 : (t108 == 1) = true := beq_iff_eq.mpr c62
        have c62b1 : (t108 != 1) = false := bne_eq_false_iff_eq.mpr c62
        clear c62
        by_cases c63 : a0_0 ≥ a1_1
        ·rw [if_pos c63] at H
         exact absurd H (by simp)
        rw [if_neg c63] at H
        have c63b0 : decide (a1_1 ≤ a0_0) = false := zdf c63
        clear c63
        by_cases c64 : a0_1 < a1_0
        ·rw [if_pos c64] at H
         exact absurd H (by simp)
        rw [if_neg c64] at H
        have c64b0 : decide (a0_1 < a1_0) = false := zdf c64
        clear c64
        by_cases c65 : t108 < 0
        ·rw [if_pos c65] at H
         exact absurd H (by simp)
        rw [if_neg c65] at H
        have c65b0 : decide (t108 < 0) = false := zdf c65
        clear c65
        have H' := zam H
        clear H
        have hnb66 := NB101_102.out
        have hnc66 := NB102_101.out
        have hcz67_0 : wc.cell? ⟨gb101, 0, none⟩ = some (.int .i64 a0_0) := (zkc BK101.out 0).trans rfl
        have hcz67_1 : wc.cell? ⟨gb101, 1, none⟩ = some (.int .i64 a0_1) := (zkc BK101.out 1).trans rfl
        have hfz67_0 := zkz BK101.out 0
        have hfz67_1 := zkz BK101.out 1
        have hcz68_0 : wc.cell? ⟨gb102, 0, none⟩ = some (.int .i64 a1_0) := (zkc BK102.out 0).trans rfl
        have hcz68_1 : wc.cell? ⟨gb102, 1, none⟩ = some (.int .i64 a1_1) := (zkc BK102.out 1).trans rfl
        have hfz68_0 := zkz BK102.out 0
        have hfz68_1 := zkz BK102.out 1
        go_wp2
        go_meet
        case rel => exact ⟨_, (decide (t108 > 2)), (by first | rfl | (simp; done) | (simp [*]; done) | (exfalso; simp only [beq_iff_eq] at *; omega)), H', ⟨by have := HJ4.out; have := HJ25.out; first | omega | exact Nat.le_refl _⟩, ⟨by (with_reducible repeat (first | refine zkn ?_ _ | refine zkd ?_ | refine zka ?_ _)); exact BK101.out⟩, ⟨by (with_reducible repeat (first | refine zkn ?_ _ | refine zkd ?_ | refine zka ?_ _)); exact BK102.out⟩, ⟨by repeat (first | (with_reducible first | exact HB.out | apply zba | apply zbn | apply zb1 | refine zbs ?_ GE101.out | refine zbs ?_ GE102.out) | exact HB.out)⟩⟩
       rw [if_neg c62] at H
       have c62b0 : (t108 == 1) = false := beq_eq_false_iff_ne.mpr c62
       have c62b1 : (t108 != 1) = true := bne_iff_ne.mpr c62
       by_cases c69 : t108 < 0
       ·rw [if_pos c69] at H
        exact absurd H (by simp)
       rw [if_neg c69] at H
       have c69b0 : decide (t108 < 0) = false := zdf c69
       clear c69
       have H' := zam H
       clear H
       go_wp2
       go_meet
       case rel => exact ⟨_, (decide (t108 > 2)), (by first | rfl | (simp; done) | (simp [*]; done) | (exfalso; simp only [beq_iff_eq] at *; omega)), H', ⟨by have := HJ4.out; have := HJ25.out; first | omega | exact Nat.le_refl _⟩, ⟨by (with_reducible repeat (first | refine zkn ?_ _ | refine zkd ?_ | refine zka ?_ _)); exact BK101.out⟩, ⟨by (with_reducible repeat (first | refine zkn ?_ _ | refine zkd ?_ | refine zka ?_ _)); exact BK102.out⟩, ⟨by repeat (first | (with_reducible first | exact HB.out | apply zba | apply zbn | apply zb1 | refine zbs ?_ GE101.out | refine zbs ?_ GE102.out) | exact HB.out)⟩⟩
      rw [if_neg c60] at H
      have c60b0 : (t108 == 0) = false := beq_eq_false_iff_ne.mpr c60
      have c60b1 : (t108 != 0) = true := bne_iff_ne.mpr c60
      by_cases c70 : t108 = 1
      ·rw [if_pos c70] at H
       have c70b0 : (t108 == 1) = true := beq_iff_eq.mpr c70
       have c70b1 : (t108 != 1) = false := bne_eq_false_iff_eq.mpr c70
       clear c70
       by_cases c71 : a0_0 ≥ a1_1
       ·rw [if_pos c71] at H
        exact absurd H (by simp)
       rw [if_neg c71] at H
       have c71b0 : decide (a1_1 ≤ a0_0) = false := zdf c71
       clear c71
       by_cases c72 : a0_1 < a1_0
       ·rw [if_pos c72] at H
        exact absurd H (by simp)
       rw [if_neg c72] at H
       have c72b0 : decide (a0_1 < a1_0) = false := zdf c72
       clear c72
       by_cases c73 : t108 < 0
       ·rw [if_pos c73] at H
        exact absurd H (by simp)
       rw [if_neg c73] at H
       have c73b0 : decide (t108 < 0) = false := zdf c73
       clear c73
       have H' := zam H
       clear H
       have hnb74 := NB101_102.out
       have hnc74 := NB102_101.out
       have hcz75_0 : wc.cell? ⟨gb101, 0, none⟩ = some (.int .i64 a0_0) := (zkc BK101.out 0).trans rfl
       have hcz75_1 : wc.cell? ⟨gb101, 1, none⟩ = some (.int .i64 a0_1) := (zkc BK101.out 1).trans rfl
       have hfz75_0 := zkz BK101.out 0
       have hfz75_1 := zkz BK101.out 1
       have hcz76_0 : wc.cell? ⟨gb102, 0, none⟩ = some (.int .i64 a1_0) := (zkc BK102.out 0).trans rfl
       have hcz76_1 : wc.cell? ⟨gb102, 1, none⟩ = some (.int .i64 a1_1) := (zkc BK102.out 1).trans rfl
       have hfz76_0 := zkz BK102.out 0
       have hfz76_1 := zkz BK102.out 1
       go_wp2
       go_meet
       case rel => exact ⟨_, (decide (t108 > 2)), (by first | rfl | (simp; done) | (simp [*]; done) | (exfalso; simp only [beq_iff_eq] at *; omega)), H', ⟨by have := HJ4.out; have := HJ25.out; first | omega | exact Nat.le_refl _⟩, ⟨by (with_reducible repeat (first | refine zkn ?_ _ | refine zkd ?_ | refine zka ?_ _)); exact BK101.out⟩, ⟨by (with_reducible repeat (first | refine zkn ?_ _ | refine zkd ?_ | refine zka ?_ _)); exact BK102.out⟩, ⟨by repeat (first | (with_reducible first | exact HB.out | apply zba | apply zbn | apply zb1 | refine zbs ?_ GE101.out | refine zbs ?_ GE102.out) | exact HB.out)⟩⟩
      rw [if_neg c70] at H
      have c70b0 : (t108 == 1) = false := beq_eq_false_iff_ne.mpr c70
      have c70b1 : (t108 != 1) = true := bne_iff_ne.mpr c70
      by_cases c77 : t108 < 0
      ·rw [if_pos c77] at H
       exact absurd H (by simp)
      rw [if_neg c77] at H
      have c77b0 : decide (t108 < 0) = false := zdf c77
      clear c77
      have H' := zam H
      clear H
      go_wp2
      go_meet
      case rel => exact ⟨_, (decide (t108 > 2)), (by first | rfl | (simp; done) | (simp [*]; done) | (exfalso; simp only [beq_iff_eq] at *; omega)), H', ⟨by have := HJ4.out; have := HJ25.out; first | omega | exact Nat.le_refl _⟩, ⟨by (with_reducible repeat (first | refine zkn ?_ _ | refine zkd ?_ | refine zka ?_ _)); exact BK101.out⟩, ⟨by (with_reducible repeat (first | refine zkn ?_ _ | refine zkd ?_ | refine zka ?_ _)); exact BK102.out⟩, ⟨by repeat (first | (with_reducible first | exact HB.out | apply zba | apply zbn | apply zb1 | refine zbs ?_ GE101.out | refine zbs ?_ GE102.out) | exact HB.out)⟩⟩
     case rest =>
      clear HC39
      try clear c1
      try clear c2
      try clear p2
      try clear c3
      try clear c4
      try clear c5
      try clear c6
      try clear c7
      try clear c9
      try clear c11
      try clear c16
      try clear c18
      try clear c19
      try clear c22
      try clear c23
      try clear c24
      try clear c25
      try clear c30
      try clear c37
      try clear c37b0
      try clear c37b1
      try clear c38
      try clear c40
      try clear c40b0
      try clear c40b1
      try clear c41
      try clear c41b0
      try clear c42
      try clear c42b0
      try clear c42b1
      try clear c43
      try clear c43b0
      try clear c44
      try clear c44b0
      try clear c44b1
      try clear c45
      try clear c45b0
      try clear c46
      try clear c46b0
      try clear c47
      try clear c47b0
      try clear c48
      try clear c51
      try clear c51b0
      try clear c52
      try clear c52b0
      try clear c52b1
      try clear c53
      try clear c53b0
      try clear c54
      try clear c54b0
      try clear c55
      try clear c55b0
      try clear c56
      try clear c59
      try clear c59b0
      try clear c60
      try clear c60b0
      try clear c60b1
      try clear c61
      try clear c61b0
      try clear c62
      try clear c62b0
      try clear c62b1
      try clear c63
      try clear c63b0
      try clear c64
      try clear c64b0
      try clear c65
      try clear c65b0
      try clear c66
      try clear c69
      try clear c69b0
      try clear c70
      try clear c70b0
      try clear c70b1
      try clear c71
      try clear c71b0
      try clear c72
      try clear c72b0
      try clear c73
      try clear c73b0
      try clear c74
      try clear c77
      try clear c77b0
      try clear hcz12_0
      try clear hcz12_1
      try clear hcz14_0
      try clear hcz14_1
      try clear hcz17_0
      try clear hcz17_1
      try clear hcz31_0
      try clear hcz31_1
      try clear hcz32_0
      try clear hcz32_1
      try clear hcz34_0
      try clear hcz34_1
      try clear hcz35_0
      try clear hcz35_1
      try clear hcz49_0
      try clear hcz49_1
      try clear hcz50_0
      try clear hcz50_1
      try clear hcz57_0
      try clear hcz57_1
      try clear hcz58_0
      try clear hcz58_1
      try clear hcz67_0
      try clear hcz67_1
      try clear hcz68_0
      try clear hcz68_1
      try clear hcz75_0
      try clear hcz75_1
      try clear hcz76_0
      try clear hcz76_1
      try clear hfz12_0
      try clear hfz12_1
      try clear hfz14_0
      try clear hfz14_1
      try clear hfz17_0
      try clear hfz17_1
      try clear hfz31_0
      try clear hfz31_1
      try clear hfz32_0
      try clear hfz32_1
      try clear hfz34_0
      try clear hfz34_1
      try clear hfz35_0
      try clear hfz35_1
      try clear hfz49_0
      try clear hfz49_1
      try clear hfz50_0
      try clear hfz50_1
      try clear hfz57_0
      try clear hfz57_1
      try clear hfz58_0
      try clear hfz58_1
      try clear hfz67_0
      try clear hfz67_1
      try clear hfz68_0
      try clear hfz68_1
      try clear hfz75_0
      try clear hfz75_1
      try clear hfz76_0
      try clear hfz76_1
      try clear p2
      obtain ⟨kq, x89_38, rfl, HA, HJ38, BK101, BK102, HB⟩ := hcut
      cases kq with
      | zero => exact absurd HA.out (by simp [isobathlaw01_BoundThree.j2])
      | succ kj38 =>
       have H := HA.out
       clear HA
       simp only [isobathlaw01_BoundThree.j2] at H
       by_cases c78 : x89_38 = true
       ·subst c78
        have H1 : (none) = some r := by rw [if_pos rfl] at H; exact H
        clear H
        have H := H1
        clear H1
        exact absurd H (by simp)
       replace c78 := Bool.eq_false_iff.mpr c78
       subst c78
       have H1 : (if t110 = 2 then ((isobathlaw01_holds.f a1_0 a1_1 t106).bind fun t112 => (if t112 = true then (if t110 = 0 then ((isobathlaw01_holds.f a1_0 a1_1 t106).bind fun t113 => (if t113 = true then (none) else (if t110 < 0 then (none) else (isobathlaw01_BoundThree.j3 kj38 t110 (decide (t110 > 2)) a0_0 a0_1 a1_0 a1_1)))) else (if t110 < 0 then (none) else (isobathlaw01_BoundThree.j3 kj38 t110 (decide (t110 > 2)) a0_0 a0_1 a1_0 a1_1))) else (none))) else (if t110 = 0 then ((isobathlaw01_holds.f a1_0 a1_1 t106).bind fun t114 => (if t114 = true then (none) else (if t110 < 0 then (none) else (isobathlaw01_BoundThree.j3 kj38 t110 (decide (t110 > 2)) a0_0 a0_1 a1_0 a1_1)))) else (if t110 < 0 then (none) else (isobathlaw01_BoundThree.j3 kj38 t110 (decide (t110 > 2)) a0_0 a0_1 a1_0 a1_1)))) = some r := by rw [if_neg (show ¬ (false = true) by decide)] at H; exact H
       clear H
       have H := H1
       clear H1
       have HC79 := zam H
       clear H
       go_upto_region 10 with (fail)
       go_cut [114] (fun v114 wc => ∃ (kq : Nat) (x114_78 : Bool), v114 = .bool x114_78 ∧ Aside0 (isobathlaw01_BoundThree.j3 kq t110 x114_78 a0_0 a0_1 a1_0 a1_1 = some r) ∧ Aside0 (kq ≤ kj38) ∧ Aside0 (wc.heap[gb101]? = some (.cells #[.int .i64 a0_0, .int .i64 a0_1] 32 (0, 0))) ∧ Aside0 (wc.heap[gb102]? = some (.cells #[.int .i64 a1_0, .int .i64 a1_1] 32 (0, 0))) ∧ Aside0 (Below w.heap.size w wc))
       case first =>
        have H := HC79.out
        clear HC79
        by_cases c80 : t110 = 2
        ·rw [if_pos c80] at H
         have c80b0 : (t110 == 2) = true := beq_iff_eq.mpr c80
         have c80b1 : (t110 != 2) = false := bne_eq_false_iff_eq.mpr c80
         clear c80
         (first | rw [c80b0] | (simp only [i64_w, i32_w]; rw [c80b0]) | skip)
         replace H := Option.bind_eq_some_iff.mp H
         obtain ⟨t112, A810, H⟩ := H
         replace H : (if t112 = true then (if t110 = 0 then ((isobathlaw01_holds.f a1_0 a1_1 t106).bind fun t113 => (if t113 = true then (none) else (if t110 < 0 then (none) else (isobathlaw01_BoundThree.j3 kj38 t110 (decide (t110 > 2)) a0_0 a0_1 a1_0 a1_1)))) else (if t110 < 0 then (none) else (isobathlaw01_BoundThree.j3 kj38 t110 (decide (t110 > 2)) a0_0 a0_1 a1_0 a1_1))) else (none)) = some r := H
         have A81 := zam A810
         clear A810
         by_cases c82 : t112 = true
         ·subst c82
          have H1 : (if t110 = 0 then ((isobathlaw01_holds.f a1_0 a1_1 t106).bind fun t113 => (if t113 = true then (none) else (if t110 < 0 then (none) else (isobathlaw01_BoundThree.j3 kj38 t110 (decide (t110 > 2)) a0_0 a0_1 a1_0 a1_1)))) else (if t110 < 0 then (none) else (isobathlaw01_BoundThree.j3 kj38 t110 (decide (t110 > 2)) a0_0 a0_1 a1_0 a1_1))) = some r := by rw [if_pos rfl] at H; exact H
          clear H
          have H := H1
          clear H1
          by_cases c83 : t110 = 0
          ·rw [if_pos c83] at H
           have c83b0 : (t110 == 0) = true := beq_iff_eq.mpr c83
           have c83b1 : (t110 != 0) = false := bne_eq_false_iff_eq.mpr c83
           clear c83
           replace H := Option.bind_eq_some_iff.mp H
           obtain ⟨t113, A840, H⟩ := H
           replace H : (if t113 = true then (none) else (if t110 < 0 then (none) else (isobathlaw01_BoundThree.j3 kj38 t110 (decide (t110 > 2)) a0_0 a0_1 a1_0 a1_1))) = some r := H
           have A84 := zam A840
           clear A840
           by_cases c85 : t113 = true
           ·subst c85
            have H1 : (none) = some r := by rw [if_pos rfl] at H; exact H
            clear H
            have H := H1
            clear H1
            exact absurd H (by simp)
           replace c85 := Bool.eq_false_iff.mpr c85
           subst c85
           have H1 : (if t110 < 0 then (none) else (isobathlaw01_BoundThree.j3 kj38 t110 (decide (t110 > 2)) a0_0 a0_1 a1_0 a1_1)) = some r := by rw [if_neg (show ¬ (false = true) by decide)] at H; exact H
           clear H
           have H := H1
           clear H1
           by_cases c86 : t110 < 0
           ·rw [if_pos c86] at H
            exact absurd H (by simp)
           rw [if_neg c86] at H
           have c86b0 : decide (t110 < 0) = false := zdf c86
           clear c86
           have H' := zam H
           clear H
           have hnb87 := NB102_101.out
           have hnc87 := NB101_102.out
           have hcz88_0 : wc.cell? ⟨gb102, 0, none⟩ = some (.int .i64 a1_0) := (zkc BK102.out 0).trans rfl
           have hcz88_1 : wc.cell? ⟨gb102, 1, none⟩ = some (.int .i64 a1_1) := (zkc BK102.out 1).trans rfl
           have hfz88_0 := zkz BK102.out 0
           have hfz88_1 := zkz BK102.out 1
           go_wp2_with (first | (go_at_call 26; (with_reducible refine (isobathlaw01_holds.calls a1_0 a1_1 t106 true _ A81.out).mono ?_); rintro e w89 ⟨rfl, hb⟩; have n0_ := zam (zkb (g := gb101) (o := .cells #[.int .i64 a0_0, .int .i64 a0_1] 32 (0, 0)) (by (with_reducible repeat (first | refine zkn ?_ _ | refine zkd ?_ | refine zka ?_ _)); exact BK101.out) hb); have n1_ := zam (zkb (g := gb102) (o := .cells #[.int .i64 a1_0, .int .i64 a1_1] 32 (0, 0)) (by (with_reducible repeat (first | refine zkn ?_ _ | refine zkd ?_ | refine zka ?_ _)); exact BK102.out) hb); have n2_ := zam (zbt (by repeat (first | (with_reducible first | exact HB.out | apply zba | apply zbn | apply zb1 | refine zbs ?_ GE101.out | refine zbs ?_ GE102.out) | exact HB.out)) hb); clear BK101; clear BK102; clear HB; have BK101 := n0_; have BK102 := n1_; have HB := n2_; clear n0_ n1_ n2_; (try clear hb); (try clear hb2); (try clear hk); (try clear hi); have hcz90_0 : w89.cell? ⟨gb102, 0, none⟩ = some (.int .i64 a1_0) := (zkc BK102.out 0).trans rfl; have hcz90_1 : w89.cell? ⟨gb102, 1, none⟩ = some (.int .i64 a1_1) := (zkc BK102.out 1).trans rfl; have hfz90_0 := zkz BK102.out 0; have hfz90_1 := zkz BK102.out 1) | (go_at_call 26; (with_reducible refine (isobathlaw01_holds.calls a1_0 a1_1 t106 false _ A84.out).mono ?_); rintro e w91 ⟨rfl, hb⟩; have n0_ := zam (zkb (g := gb101) (o := .cells #[.int .i64 a0_0, .int .i64 a0_1] 32 (0, 0)) (by (with_reducible repeat (first | refine zkn ?_ _ | refine zkd ?_ | refine zka ?_ _)); exact BK101.out) hb); have n1_ := zam (zkb (g := gb102) (o := .cells #[.int .i64 a1_0, .int .i64 a1_1] 32 (0, 0)) (by (with_reducible repeat (first | refine zkn ?_ _ | refine zkd ?_ | refine zka ?_ _)); exact BK102.out) hb); have n2_ := zam (zbt (by repeat (first | (with_reducible first | exact HB.out | apply zba | apply zbn | apply zb1 | refine zbs ?_ GE101.out | refine zbs ?_ GE102.out) | exact HB.out)) hb); clear BK101; clear BK102; clear HB; have BK101 := n0_; have BK102 := n1_; have HB := n2_; clear n0_ n1_ n2_; (try clear hb); (try clear hb2); (try clear hk); (try clear hi)))
           go_meet
           case rel => exact ⟨_, (decide (t110 > 2)), (by first | rfl | (simp; done) | (simp [*]; done) | (exfalso; simp only [beq_iff_eq] at *; omega)), H', ⟨by have := HJ4.out; have := HJ25.out; have := HJ38.out; first | omega | exact Nat.le_refl _⟩, ⟨by (with_reducible repeat (first | refine zkn ?_ _ | refine zkd ?_ | refine zka ?_ _)); exact BK101.out⟩, ⟨by (with_reducible repeat (first | refine zkn ?_ _ | refine zkd ?_ | refine zka ?_ _)); exact BK102.out⟩, ⟨by repeat (first | (with_reducible first | exact HB.out | apply zba | apply zbn | apply zb1 | refine zbs ?_ GE101.out | refine zbs ?_ GE102.out) | exact HB.out)⟩⟩
          rw [if_neg c83] at H
          have c83b0 : (t110 == 0) = false := beq_eq_false_iff_ne.mpr c83
          have c83b1 : (t110 != 0) = true := bne_iff_ne.mpr c83
          by_cases c92 : t110 < 0
          ·rw [if_pos c92] at H
           exact absurd H (by simp)
          rw [if_neg c92] at H
          have c92b0 : decide (t110 < 0) = false := zdf c92
          clear c92
          have H' := zam H
          clear H
          have hnb93 := NB102_101.out
          have hnc93 := NB101_102.out
          have hcz94_0 : wc.cell? ⟨gb102, 0, none⟩ = some (.int .i64 a1_0) := (zkc BK102.out 0).trans rfl
          have hcz94_1 : wc.cell? ⟨gb102, 1, none⟩ = some (.int .i64 a1_1) := (zkc BK102.out 1).trans rfl
          have hfz94_0 := zkz BK102.out 0
          have hfz94_1 := zkz BK102.out 1
          go_wp2_with (first | (go_at_call 26; (with_reducible refine (isobathlaw01_holds.calls a1_0 a1_1 t106 true _ A81.out).mono ?_); rintro e w95 ⟨rfl, hb⟩; have n0_ := zam (zkb (g := gb101) (o := .cells #[.int .i64 a0_0, .int .i64 a0_1] 32 (0, 0)) (by (with_reducible repeat (first | refine zkn ?_ _ | refine zkd ?_ | refine zka ?_ _)); exact BK101.out) hb); have n1_ := zam (zkb (g := gb102) (o := .cells #[.int .i64 a1_0, .int .i64 a1_1] 32 (0, 0)) (by (with_reducible repeat (first | refine zkn ?_ _ | refine zkd ?_ | refine zka ?_ _)); exact BK102.out) hb); have n2_ := zam (zbt (by repeat (first | (with_reducible first | exact HB.out | apply zba | apply zbn | apply zb1 | refine zbs ?_ GE101.out | refine zbs ?_ GE102.out) | exact HB.out)) hb); clear BK101; clear BK102; clear HB; have BK101 := n0_; have BK102 := n1_; have HB := n2_; clear n0_ n1_ n2_; (try clear hb); (try clear hb2); (try clear hk); (try clear hi)))
          go_meet
          case rel => exact ⟨_, (decide (t110 > 2)), (by first | rfl | (simp; done) | (simp [*]; done) | (exfalso; simp only [beq_iff_eq] at *; omega)), H', ⟨by have := HJ4.out; have := HJ25.out; have := HJ38.out; first | omega | exact Nat.le_refl _⟩, ⟨by (with_reducible repeat (first | refine zkn ?_ _ | refine zkd ?_ | refine zka ?_ _)); exact BK101.out⟩, ⟨by (with_reducible repeat (first | refine zkn ?_ _ | refine zkd ?_ | refine zka ?_ _)); exact BK102.out⟩, ⟨by repeat (first | (with_reducible first | exact HB.out | apply zba | apply zbn | apply zb1 | refine zbs ?_ GE101.out | refine zbs ?_ GE102.out) | exact HB.out)⟩⟩
         replace c82 := Bool.eq_false_iff.mpr c82
         subst c82
         have H1 : (none) = some r := by rw [if_neg (show ¬ (false = true) by decide)] at H; exact H
         clear H
         have H := H1
         clear H1
         exact absurd H (by simp)
        rw [if_neg c80] at H
        have c80b0 : (t110 == 2) = false := beq_eq_false_iff_ne.mpr c80
        have c80b1 : (t110 != 2) = true := bne_iff_ne.mpr c80
        (first | rw [c80b0] | (simp only [i64_w, i32_w]; rw [c80b0]) | skip)
        by_cases c96 : t110 = 0
        ·rw [if_pos c96] at H
         have c96b0 : (t110 == 0) = true := beq_iff_eq.mpr c96
         have c96b1 : (t110 != 0) = false := bne_eq_false_iff_eq.mpr c96
         clear c96
         replace H := Option.bind_eq_some_iff.mp H
         obtain ⟨t114, A970, H⟩ := H
         replace H : (if t114 = true then (none) else (if t110 < 0 then (none) else (isobathlaw01_BoundThree.j3 kj38 t110 (decide (t110 > 2)) a0_0 a0_1 a1_0 a1_1))) = some r := H
         have A97 := zam A970
         clear A970
         by_cases c98 : t114 = true
         ·subst c98
          have H1 : (none) = some r := by rw [if_pos rfl] at H; exact H
          clear H
          have H := H1
          clear H1
          exact absurd H (by simp)
         replace c98 := Bool.eq_false_iff.mpr c98
         subst c98
         have H1 : (if t110 < 0 then (none) else (isobathlaw01_BoundThree.j3 kj38 t110 (decide (t110 > 2)) a0_0 a0_1 a1_0 a1_1)) = some r := by rw [if_neg (show ¬ (false = true) by decide)] at H; exact H
         clear H
         have H := H1
         clear H1
         by_cases c99 : t110 < 0
         ·rw [if_pos c99] at H
          exact absurd H (by simp)
         rw [if_neg c99] at H
         have c99b0 : decide (t110 < 0) = false := zdf c99
         clear c99
         have H' := zam H
         clear H
         have hnb100 := NB102_101.out
         have hnc100 := NB101_102.out
         have hcz101_0 : wc.cell? ⟨gb102, 0, none⟩ = some (.int .i64 a1_0) := (zkc BK102.out 0).trans rfl
         have hcz101_1 : wc.cell? ⟨gb102, 1, none⟩ = some (.int .i64 a1_1) := (zkc BK102.out 1).trans rfl
         have hfz101_0 := zkz BK102.out 0
         have hfz101_1 := zkz BK102.out 1
         go_wp2_with (first | (go_at_call 26; (with_reducible refine (isobathlaw01_holds.calls a1_0 a1_1 t106 false _ A97.out).mono ?_); rintro e w102 ⟨rfl, hb⟩; have n0_ := zam (zkb (g := gb101) (o := .cells #[.int .i64 a0_0, .int .i64 a0_1] 32 (0, 0)) (by (with_reducible repeat (first | refine zkn ?_ _ | refine zkd ?_ | refine zka ?_ _)); exact BK101.out) hb); have n1_ := zam (zkb (g := gb102) (o := .cells #[.int .i64 a1_0, .int .i64 a1_1] 32 (0, 0)) (by (with_reducible repeat (first | refine zkn ?_ _ | refine zkd ?_ | refine zka ?_ _)); exact BK102.out) hb); have n2_ := zam (zbt (by repeat (first | (with_reducible first | exact HB.out | apply zba | apply zbn | apply zb1 | refine zbs ?_ GE101.out | refine zbs ?_ GE102.out) | exact HB.out)) hb); clear BK101; clear BK102; clear HB; have BK101 := n0_; have BK102 := n1_; have HB := n2_; clear n0_ n1_ n2_; (try clear hb); (try clear hb2); (try clear hk); (try clear hi)))
         go_meet
         case rel => exact ⟨_, (decide (t110 > 2)), (by first | rfl | (simp; done) | (simp [*]; done) | (exfalso; simp only [beq_iff_eq] at *; omega)), H', ⟨by have := HJ4.out; have := HJ25.out; have := HJ38.out; first | omega | exact Nat.le_refl _⟩, ⟨by (with_reducible repeat (first | refine zkn ?_ _ | refine zkd ?_ | refine zka ?_ _)); exact BK101.out⟩, ⟨by (with_reducible repeat (first | refine zkn ?_ _ | refine zkd ?_ | refine zka ?_ _)); exact BK102.out⟩, ⟨by repeat (first | (with_reducible first | exact HB.out | apply zba | apply zbn | apply zb1 | refine zbs ?_ GE101.out | refine zbs ?_ GE102.out) | exact HB.out)⟩⟩
        rw [if_neg c96] at H
        have c96b0 : (t110 == 0) = false := beq_eq_false_iff_ne.mpr c96
        have c96b1 : (t110 != 0) = true := bne_iff_ne.mpr c96
        by_cases c103 : t110 < 0
        ·rw [if_pos c103] at H
         exact absurd H (by simp)
        rw [if_neg c103] at H
        have c103b0 : decide (t110 < 0) = false := zdf c103
        clear c103
        have H' := zam H
        clear H
        go_wp2
        go_meet
        case rel => exact ⟨_, (decide (t110 > 2)), (by first | rfl | (simp; done) | (simp [*]; done) | (exfalso; simp only [beq_iff_eq] at *; omega)), H', ⟨by have := HJ4.out; have := HJ25.out; have := HJ38.out; first | omega | exact Nat.le_refl _⟩, ⟨by (with_reducible repeat (first | refine zkn ?_ _ | refine zkd ?_ | refine zka ?_ _)); exact BK101.out⟩, ⟨by (with_reducible repeat (first | refine zkn ?_ _ | refine zkd ?_ | refine zka ?_ _)); exact BK102.out⟩, ⟨by repeat (first | (with_reducible first | exact HB.out | apply zba | apply zbn | apply zb1 | refine zbs ?_ GE101.out | refine zbs ?_ GE102.out) | exact HB.out)⟩⟩
       case rest =>
        clear HC79
        try clear c1
        try clear c2
        try clear p2
        try clear c3
        try clear c4
        try clear c5
        try clear c6
        try clear c7
        try clear c8
        try clear c9
        try clear c10
        try clear c11
        try clear c16
        try clear c18
        try clear c19
        try clear c22
        try clear c23
        try clear c24
        try clear c25
        try clear c30
        try clear c37
        try clear c37b0
        try clear c37b1
        try clear c38
        try clear c40
        try clear c40b0
        try clear c40b1
        try clear c41
        try clear c41b0
        try clear c42
        try clear c42b0
        try clear c42b1
        try clear c43
        try clear c43b0
        try clear c44
        try clear c44b0
        try clear c44b1
        try clear c45
        try clear c45b0
        try clear c46
        try clear c46b0
        try clear c47
        try clear c47b0
        try clear c48
        try clear c51
        try clear c51b0
        try clear c52
        try clear c52b0
        try clear c52b1
        try clear c53
        try clear c53b0
        try clear c54
        try clear c54b0
        try clear c55
        try clear c55b0
        try clear c56
        try clear c59
        try clear c59b0
        try clear c60
        try clear c60b0
        try clear c60b1
        try clear c61
        try clear c61b0
        try clear c62
        try clear c62b0
        try clear c62b1
        try clear c63
        try clear c63b0
        try clear c64
        try clear c64b0
        try clear c65
        try clear c65b0
        try clear c66
        try clear c69
        try clear c69b0
        try clear c70
        try clear c70b0
        try clear c70b1
        try clear c71
        try clear c71b0
        try clear c72
        try clear c72b0
        try clear c73
        try clear c73b0
        try clear c74
        try clear c77
        try clear c77b0
        try clear c78
        try clear c80
        try clear c80b0
        try clear c80b1
        try clear c82
        try clear c83
        try clear c83b0
        try clear c83b1
        try clear c85
        try clear c86
        try clear c86b0
        try clear c87
        try clear c92
        try clear c92b0
        try clear c93
        try clear c96
        try clear c96b0
        try clear c96b1
        try clear c98
        try clear c99
        try clear c99b0
        try clear c100
        try clear c103
        try clear c103b0
        try clear hcz101_0
        try clear hcz101_1
        try clear hcz12_0
        try clear hcz12_1
        try clear hcz14_0
        try clear hcz14_1
        try clear hcz17_0
        try clear hcz17_1
        try clear hcz31_0
        try clear hcz31_1
        try clear hcz32_0
        try clear hcz32_1
        try clear hcz34_0
        try clear hcz34_1
        try clear hcz35_0
        try clear hcz35_1
        try clear hcz49_0
        try clear hcz49_1
        try clear hcz50_0
        try clear hcz50_1
        try clear hcz57_0
        try clear hcz57_1
        try clear hcz58_0
        try clear hcz58_1
        try clear hcz67_0
        try clear hcz67_1
        try clear hcz68_0
        try clear hcz68_1
        try clear hcz75_0
        try clear hcz75_1
        try clear hcz76_0
        try clear hcz76_1
        try clear hcz88_0
        try clear hcz88_1
        try clear hcz90_0
        try clear hcz90_1
        try clear hcz94_0
        try clear hcz94_1
        try clear hfz101_0
        try clear hfz101_1
        try clear hfz12_0
        try clear hfz12_1
        try clear hfz14_0
        try clear hfz14_1
        try clear hfz17_0
        try clear hfz17_1
        try clear hfz31_0
        try clear hfz31_1
        try clear hfz32_0
        try clear hfz32_1
        try clear hfz34_0
        try clear hfz34_1
        try clear hfz35_0
        try clear hfz35_1
        try clear hfz49_0
        try clear hfz49_1
        try clear hfz50_0
        try clear hfz50_1
        try clear hfz57_0
        try clear hfz57_1
        try clear hfz58_0
        try clear hfz58_1
        try clear hfz67_0
        try clear hfz67_1
        try clear hfz68_0
        try clear hfz68_1
        try clear hfz75_0
        try clear hfz75_1
        try clear hfz76_0
        try clear hfz76_1
        try clear hfz88_0
        try clear hfz88_1
        try clear hfz90_0
        try clear hfz90_1
        try clear hfz94_0
        try clear hfz94_1
        try clear p2
        obtain ⟨kq, x114_78, rfl, HA, HJ78, BK101, BK102, HB⟩ := hcut
        cases kq with
        | zero => exact absurd HA.out (by simp [isobathlaw01_BoundThree.j3])
        | succ kj78 =>
         have H := HA.out
         clear HA
         simp only [isobathlaw01_BoundThree.j3] at H
         by_cases c104 : x114_78 = true
         ·subst c104
          have H1 : (none) = some r := by rw [if_pos rfl] at H; exact H
          clear H
          have H := H1
          clear H1
          exact absurd H (by simp)
         replace c104 := Bool.eq_false_iff.mpr c104
         subst c104
         have H1 : (if t110 = 1 then ((isobathlaw01_holds.f a1_0 a1_1 a0_0).bind fun t115 => (if t115 = true then ((isobathlaw01_holds.f a1_0 a1_1 a0_1).bind fun t116 => (if t116 = true then (none) else (if (mx a0_0 a1_0) ≤ (mn a0_1 a1_1) then ((isobathlaw01_Works.f kj78).bind fun t117 => (some t117)) else (none)))) else (if (mx a0_0 a1_0) ≤ (mn a0_1 a1_1) then ((isobathlaw01_Works.f kj78).bind fun t118 => (some t118)) else (none)))) else ((isobathlaw01_Works.f kj78).bind fun t119 => (some t119))) = some r := by rw [if_neg (show ¬ (false = true) by decide)] at H; exact H
         clear H
         have H := H1
         clear H1
         by_cases c105 : t110 = 1
         ·rw [if_pos c105] at H
          have c105b0 : (t110 == 1) = true := beq_iff_eq.mpr c105
          have c105b1 : (t110 != 1) = false := bne_eq_false_iff_eq.mpr c105
          clear c105
          replace H := Option.bind_eq_some_iff.mp H
          obtain ⟨t115, A1060, H⟩ := H
          replace H : (if t115 = true then ((isobathlaw01_holds.f a1_0 a1_1 a0_1).bind fun t116 => (if t116 = true then (none) else (if (mx a0_0 a1_0) ≤ (mn a0_1 a1_1) then ((isobathlaw01_Works.f kj78).bind fun t117 => (some t117)) else (none)))) else (if (mx a0_0 a1_0) ≤ (mn a0_1 a1_1) then ((isobathlaw01_Works.f kj78).bind fun t118 => (some t118)) else (none))) = some r := H
          have A106 := zam A1060
          clear A1060
          by_cases c107 : t115 = true
          ·subst c107
           have H1 : ((isobathlaw01_holds.f a1_0 a1_1 a0_1).bind fun t116 => (if t116 = true then (none) else (if (mx a0_0 a1_0) ≤ (mn a0_1 a1_1) then ((isobathlaw01_Works.f kj78).bind fun t117 => (some t117)) else (none)))) = some r := by rw [if_pos rfl] at H; exact H
           clear H
           have H := H1
           clear H1
           replace H := Option.bind_eq_some_iff.mp H
           obtain ⟨t116, A1080, H⟩ := H
           replace H : (if t116 = true then (none) else (if (mx a0_0 a1_0) ≤ (mn a0_1 a1_1) then ((isobathlaw01_Works.f kj78).bind fun t117 => (some t117)) else (none))) = some r := H
           have A108 := zam A1080
           clear A1080
           by_cases c109 : t116 = true
           ·subst c109
            have H1 : (none) = some r := by rw [if_pos rfl] at H; exact H
            clear H
            have H := H1
            clear H1
            exact absurd H (by simp)
           replace c109 := Bool.eq_false_iff.mpr c109
           subst c109
           have H1 : (if (mx a0_0 a1_0) ≤ (mn a0_1 a1_1) then ((isobathlaw01_Works.f kj78).bind fun t117 => (some t117)) else (none)) = some r := by rw [if_neg (show ¬ (false = true) by decide)] at H; exact H
           clear H
           have H := H1
           clear H1
           obtain ⟨ji110, hji110⟩ : ∃ j_ : Int, (mx a0_0 a1_0) = j_ := ⟨_, rfl⟩
           replace H : (if (ji110) ≤ (mn a0_1 a1_1) then ((isobathlaw01_Works.f kj78).bind fun t117 => (some t117)) else (none)) = some r := by first | (rw [hji110] at H; exact H) | (simp only [hji110] at H ⊢; exact H)
           (try rw [hji110] at A106)
           (try rw [hji110] at A108)
           have hji110_ : (if a0_0 < a1_0 then a1_0 else a0_0) = ji110 := hji110
           obtain ⟨ji111, hji111⟩ : ∃ j_ : Int, (mn a0_1 a1_1) = j_ := ⟨_, rfl⟩
           replace H : (if (ji110) ≤ (ji111) then ((isobathlaw01_Works.f kj78).bind fun t117 => (some t117)) else (none)) = some r := by first | (rw [hji111] at H; exact H) | (simp only [hji111] at H ⊢; exact H)
           (try rw [hji111] at A106)
           (try rw [hji111] at A108)
           have hji111_ : (if a1_1 < a0_1 then a1_1 else a0_1) = ji111 := hji111
           by_cases c112 : (ji110) ≤ (ji111)
           ·rw [if_pos c112] at H
            have c112b0 : decide ((ji110) ≤ (ji111)) = true := zdt c112
            clear c112
            replace H := Option.bind_eq_some_iff.mp H
            obtain ⟨t117, A1130, H⟩ := H
            replace H : (some t117) = some r := H
            have A113 := zam A1130
            clear A1130
            obtain rfl := zsi H
            have hnb114 := NB102_101.out
            have hnc114 := NB101_102.out
            have hcz115_0 : wc.cell? ⟨gb102, 0, none⟩ = some (.int .i64 a1_0) := (zkc BK102.out 0).trans rfl
            have hcz115_1 : wc.cell? ⟨gb102, 1, none⟩ = some (.int .i64 a1_1) := (zkc BK102.out 1).trans rfl
            have hfz115_0 := zkz BK102.out 0
            have hfz115_1 := zkz BK102.out 1
            have hcz116_0 : wc.cell? ⟨gb101, 0, none⟩ = some (.int .i64 a0_0) := (zkc BK101.out 0).trans rfl
            have hcz116_1 : wc.cell? ⟨gb101, 1, none⟩ = some (.int .i64 a0_1) := (zkc BK101.out 1).trans rfl
            have hfz116_0 := zkz BK101.out 0
            have hfz116_1 := zkz BK101.out 1
            go_wp2_with (first | (go_at_call 26; (with_reducible refine (isobathlaw01_holds.calls a1_0 a1_1 a0_0 true _ A106.out).mono ?_); rintro e w117 ⟨rfl, hb⟩; have n0_ := zam (zkb (g := gb101) (o := .cells #[.int .i64 a0_0, .int .i64 a0_1] 32 (0, 0)) (by (with_reducible repeat (first | refine zkn ?_ _ | refine zkd ?_ | refine zka ?_ _)); exact BK101.out) hb); have n1_ := zam (zkb (g := gb102) (o := .cells #[.int .i64 a1_0, .int .i64 a1_1] 32 (0, 0)) (by (with_reducible repeat (first | refine zkn ?_ _ | refine zkd ?_ | refine zka ?_ _)); exact BK102.out) hb); have n2_ := zam (zbt (by repeat (first | (with_reducible first | exact HB.out | apply zba | apply zbn | apply zb1 | refine zbs ?_ GE101.out | refine zbs ?_ GE102.out) | exact HB.out)) hb); clear BK101; clear BK102; clear HB; have BK101 := n0_; have BK102 := n1_; have HB := n2_; clear n0_ n1_ n2_; (try clear hb); (try clear hb2); (try clear hk); (try clear hi); have hcz118_0 : w117.cell? ⟨gb102, 0, none⟩ = some (.int .i64 a1_0) := (zkc BK102.out 0).trans rfl; have hcz118_1 : w117.cell? ⟨gb102, 1, none⟩ = some (.int .i64 a1_1) := (zkc BK102.out 1).trans rfl; have hfz118_0 := zkz BK102.out 0; have hfz118_1 := zkz BK102.out 1; have hcz119_0 : w117.cell? ⟨gb101, 0, none⟩ = some (.int .i64 a0_0) := (zkc BK101.out 0).trans rfl; have hcz119_1 : w117.cell? ⟨gb101, 1, none⟩ = some (.int .i64 a0_1) := (zkc BK101.out 1).trans rfl; have hfz119_0 := zkz BK101.out 0; have hfz119_1 := zkz BK101.out 1) | (go_at_call 26; (with_reducible refine (isobathlaw01_holds.calls a1_0 a1_1 a0_1 false _ A108.out).mono ?_); rintro e w120 ⟨rfl, hb⟩; have n0_ := zam (zkb (g := gb101) (o := .cells #[.int .i64 a0_0, .int .i64 a0_1] 32 (0, 0)) (by (with_reducible repeat (first | refine zkn ?_ _ | refine zkd ?_ | refine zka ?_ _)); exact BK101.out) hb); have n1_ := zam (zkb (g := gb102) (o := .cells #[.int .i64 a1_0, .int .i64 a1_1] 32 (0, 0)) (by (with_reducible repeat (first | refine zkn ?_ _ | refine zkd ?_ | refine zka ?_ _)); exact BK102.out) hb); have n2_ := zam (zbt (by repeat (first | (with_reducible first | exact HB.out | apply zba | apply zbn | apply zb1 | refine zbs ?_ GE101.out | refine zbs ?_ GE102.out) | exact HB.out)) hb); clear BK101; clear BK102; clear HB; have BK101 := n0_; have BK102 := n1_; have HB := n2_; clear n0_ n1_ n2_; (try clear hb); (try clear hb2); (try clear hk); (try clear hi); have hcz121_0 : w120.cell? ⟨gb101, 0, none⟩ = some (.int .i64 a0_0) := (zkc BK101.out 0).trans rfl; have hcz121_1 : w120.cell? ⟨gb101, 1, none⟩ = some (.int .i64 a0_1) := (zkc BK101.out 1).trans rfl; have hfz121_0 := zkz BK101.out 0; have hfz121_1 := zkz BK101.out 1; have hcz122_0 : w120.cell? ⟨gb102, 0, none⟩ = some (.int .i64 a1_0) := (zkc BK102.out 0).trans rfl; have hcz122_1 : w120.cell? ⟨gb102, 1, none⟩ = some (.int .i64 a1_1) := (zkc BK102.out 1).trans rfl; have hfz122_0 := zkz BK102.out 0; have hfz122_1 := zkz BK102.out 1) | (go_at_call 18; (with_reducible refine (isobathlaw01_Works.calls kj78  t117 _ A113.out).mono ?_); rintro e w123 ⟨rfl, hb⟩; have n0_ := zam (zkb (g := gb101) (o := .cells #[.int .i64 a0_0, .int .i64 a0_1] 32 (0, 0)) (by (with_reducible repeat (first | refine zkn ?_ _ | refine zkd ?_ | refine zka ?_ _)); exact BK101.out) hb); have n1_ := zam (zkb (g := gb102) (o := .cells #[.int .i64 a1_0, .int .i64 a1_1] 32 (0, 0)) (by (with_reducible repeat (first | refine zkn ?_ _ | refine zkd ?_ | refine zka ?_ _)); exact BK102.out) hb); have n2_ := zam (zbt (by repeat (first | (with_reducible first | exact HB.out | apply zba | apply zbn | apply zb1 | refine zbs ?_ GE101.out | refine zbs ?_ GE102.out) | exact HB.out)) hb); clear BK101; clear BK102; clear HB; have BK101 := n0_; have BK102 := n1_; have HB := n2_; clear n0_ n1_ n2_; (try clear hb); (try clear hb2); (try clear hk); (try clear hi)))
            go_ret
            exact ⟨by first | rfl | (simp [errW_none, errW_some] <;> rfl) | (simp only [← hji110, ← hji111]; first | rfl | (simp [errW_none, errW_some] <;> rfl)) | (simp [*, errW_none, errW_some] <;> rfl), by repeat (first | (with_reducible first | exact HB.out | apply zba | apply zbn | apply zb1 | refine zbs ?_ GE101.out | refine zbs ?_ GE102.out) | exact HB.out)⟩
           rw [if_neg c112] at H
           exact absurd H (by simp)
          replace c107 := Bool.eq_false_iff.mpr c107
          subst c107
          have H1 : (if (mx a0_0 a1_0) ≤ (mn a0_1 a1_1) then ((isobathlaw01_Works.f kj78).bind fun t118 => (some t118)) else (none)) = some r := by rw [if_neg (show ¬ (false = true) by decide)] at H; exact H
          clear H
          have H := H1
          clear H1
          obtain ⟨ji124, hji124⟩ : ∃ j_ : Int, (mx a0_0 a1_0) = j_ := ⟨_, rfl⟩
          replace H : (if (ji124) ≤ (mn a0_1 a1_1) then ((isobathlaw01_Works.f kj78).bind fun t118 => (some t118)) else (none)) = some r := by first | (rw [hji124] at H; exact H) | (simp only [hji124] at H ⊢; exact H)
          (try rw [hji124] at A106)
          have hji124_ : (if a0_0 < a1_0 then a1_0 else a0_0) = ji124 := hji124
          obtain ⟨ji125, hji125⟩ : ∃ j_ : Int, (mn a0_1 a1_1) = j_ := ⟨_, rfl⟩
          replace H : (if (ji124) ≤ (ji125) then ((isobathlaw01_Works.f kj78).bind fun t118 => (some t118)) else (none)) = some r := by first | (rw [hji125] at H; exact H) | (simp only [hji125] at H ⊢; exact H)
          (try rw [hji125] at A106)
          have hji125_ : (if a1_1 < a0_1 then a1_1 else a0_1) = ji125 := hji125
          by_cases c126 : (ji124) ≤ (ji125)
          ·rw [if_pos c126] at H
           have c126b0 : decide ((ji124) ≤ (ji125)) = true := zdt c126
           clear c126
           replace H := Option.bind_eq_some_iff.mp H
           obtain ⟨t118, A1270, H⟩ := H
           replace H : (some t118) = some r := H
           have A127 := zam A1270
           clear A1270
           obtain rfl := zsi H
           have hnb128 := NB102_101.out
           have hnc128 := NB101_102.out
           have hcz129_0 : wc.cell? ⟨gb102, 0, none⟩ = some (.int .i64 a1_0) := (zkc BK102.out 0).trans rfl
           have hcz129_1 : wc.cell? ⟨gb102, 1, none⟩ = some (.int .i64 a1_1) := (zkc BK102.out 1).trans rfl
           have hfz129_0 := zkz BK102.out 0
           have hfz129_1 := zkz BK102.out 1
           have hcz130_0 : wc.cell? ⟨gb101, 0, none⟩ = some (.int .i64 a0_0) := (zkc BK101.out 0).trans rfl
           have hcz130_1 : wc.cell? ⟨gb101, 1, none⟩ = some (.int .i64 a0_1) := (zkc BK101.out 1).trans rfl
           have hfz130_0 := zkz BK101.out 0
           have hfz130_1 := zkz BK101.out 1
           go_wp2_with (first | (go_at_call 26; (with_reducible refine (isobathlaw01_holds.calls a1_0 a1_1 a0_0 false _ A106.out).mono ?_); rintro e w131 ⟨rfl, hb⟩; have n0_ := zam (zkb (g := gb101) (o := .cells #[.int .i64 a0_0, .int .i64 a0_1] 32 (0, 0)) (by (with_reducible repeat (first | refine zkn ?_ _ | refine zkd ?_ | refine zka ?_ _)); exact BK101.out) hb); have n1_ := zam (zkb (g := gb102) (o := .cells #[.int .i64 a1_0, .int .i64 a1_1] 32 (0, 0)) (by (with_reducible repeat (first | refine zkn ?_ _ | refine zkd ?_ | refine zka ?_ _)); exact BK102.out) hb); have n2_ := zam (zbt (by repeat (first | (with_reducible first | exact HB.out | apply zba | apply zbn | apply zb1 | refine zbs ?_ GE101.out | refine zbs ?_ GE102.out) | exact HB.out)) hb); clear BK101; clear BK102; clear HB; have BK101 := n0_; have BK102 := n1_; have HB := n2_; clear n0_ n1_ n2_; (try clear hb); (try clear hb2); (try clear hk); (try clear hi); have hcz132_0 : w131.cell? ⟨gb101, 0, none⟩ = some (.int .i64 a0_0) := (zkc BK101.out 0).trans rfl; have hcz132_1 : w131.cell? ⟨gb101, 1, none⟩ = some (.int .i64 a0_1) := (zkc BK101.out 1).trans rfl; have hfz132_0 := zkz BK101.out 0; have hfz132_1 := zkz BK101.out 1; have hcz133_0 : w131.cell? ⟨gb102, 0, none⟩ = some (.int .i64 a1_0) := (zkc BK102.out 0).trans rfl; have hcz133_1 : w131.cell? ⟨gb102, 1, none⟩ = some (.int .i64 a1_1) := (zkc BK102.out 1).trans rfl; have hfz133_0 := zkz BK102.out 0; have hfz133_1 := zkz BK102.out 1) | (go_at_call 18; (with_reducible refine (isobathlaw01_Works.calls kj78  t118 _ A127.out).mono ?_); rintro e w134 ⟨rfl, hb⟩; have n0_ := zam (zkb (g := gb101) (o := .cells #[.int .i64 a0_0, .int .i64 a0_1] 32 (0, 0)) (by (with_reducible repeat (first | refine zkn ?_ _ | refine zkd ?_ | refine zka ?_ _)); exact BK101.out) hb); have n1_ := zam (zkb (g := gb102) (o := .cells #[.int .i64 a1_0, .int .i64 a1_1] 32 (0, 0)) (by (with_reducible repeat (first | refine zkn ?_ _ | refine zkd ?_ | refine zka ?_ _)); exact BK102.out) hb); have n2_ := zam (zbt (by repeat (first | (with_reducible first | exact HB.out | apply zba | apply zbn | apply zb1 | refine zbs ?_ GE101.out | refine zbs ?_ GE102.out) | exact HB.out)) hb); clear BK101; clear BK102; clear HB; have BK101 := n0_; have BK102 := n1_; have HB := n2_; clear n0_ n1_ n2_; (try clear hb); (try clear hb2); (try clear hk); (try clear hi)))
           go_ret
           exact ⟨by first | rfl | (simp [errW_none, errW_some] <;> rfl) | (simp only [← hji124, ← hji125]; first | rfl | (simp [errW_none, errW_some] <;> rfl)) | (simp [*, errW_none, errW_some] <;> rfl), by repeat (first | (with_reducible first | exact HB.out | apply zba | apply zbn | apply zb1 | refine zbs ?_ GE101.out | refine zbs ?_ GE102.out) | exact HB.out)⟩
          rw [if_neg c126] at H
          exact absurd H (by simp)
         rw [if_neg c105] at H
         have c105b0 : (t110 == 1) = false := beq_eq_false_iff_ne.mpr c105
         have c105b1 : (t110 != 1) = true := bne_iff_ne.mpr c105
         replace H := Option.bind_eq_some_iff.mp H
         obtain ⟨t119, A1350, H⟩ := H
         replace H : (some t119) = some r := H
         have A135 := zam A1350
         clear A1350
         obtain rfl := zsi H
         go_wp2_with (first | (go_at_call 18; (with_reducible refine (isobathlaw01_Works.calls kj78  t119 _ A135.out).mono ?_); rintro e w136 ⟨rfl, hb⟩; have n0_ := zam (zkb (g := gb101) (o := .cells #[.int .i64 a0_0, .int .i64 a0_1] 32 (0, 0)) (by (with_reducible repeat (first | refine zkn ?_ _ | refine zkd ?_ | refine zka ?_ _)); exact BK101.out) hb); have n1_ := zam (zkb (g := gb102) (o := .cells #[.int .i64 a1_0, .int .i64 a1_1] 32 (0, 0)) (by (with_reducible repeat (first | refine zkn ?_ _ | refine zkd ?_ | refine zka ?_ _)); exact BK102.out) hb); have n2_ := zam (zbt (by repeat (first | (with_reducible first | exact HB.out | apply zba | apply zbn | apply zb1 | refine zbs ?_ GE101.out | refine zbs ?_ GE102.out) | exact HB.out)) hb); clear BK101; clear BK102; clear HB; have BK101 := n0_; have BK102 := n1_; have HB := n2_; clear n0_ n1_ n2_; (try clear hb); (try clear hb2); (try clear hk); (try clear hi)))
         go_ret
         exact ⟨by first | rfl | (simp [errW_none, errW_some] <;> rfl) | (simp [*, errW_none, errW_some] <;> rfl), by repeat (first | (with_reducible first | exact HB.out | apply zba | apply zbn | apply zb1 | refine zbs ?_ GE101.out | refine zbs ?_ GE102.out) | exact HB.out)⟩
end Go.Proofs.Ytlkafgibgipodaa.P
namespace Go.Proofs.Ytlkafgibgipodaa.P
open Go.RowKit Go.Proofs.YtlkafgibgipodaaW.PrintWords Go.Proofs.YtlkafgibgipodaaW.PrintLast Go.Proofs.YtlkafgibgipodaaW.PrintMore
namespace boundThree
open Go.ChangeShapes Go.WideShapes Go.ChangeAt
set_option linter.unusedVariables false
set_option linter.unusedSimpArgs false
def B32 (x : S32) : Prop := (fun n : Int => (Lit.int .i64 n).wf = true) x.f0 ∧ (fun n : Int => (Lit.int .i64 n).wf = true) x.f1
theorem opens32 : Opens Try.prog 32 k32 B32 := Opens.struct (fs := _) Try.underlying32 (fun x : S32 => (x.f0, x.f1)) (fun t => ⟨t.1, t.2⟩) (fun _ => rfl) (OpensF.cons rfl (by kernel_rfl) (Opens.int Try.underlying2) (OpensF.last rfl (by kernel_rfl) (Opens.int Try.underlying2)))
def Pure : Prop := ∀ (x0 : S32) (x1 : S32) (x2 : Int) (x3 : Int), B32 x0 → B32 x1 → (fun n : Int => (Lit.int .u16 n).wf = true) x2 → (fun n : Int => (Lit.int .u16 n).wf = true) x3 → ∃ k, isobathlaw01_BoundThree.f k x0.f0 x0.f1 x1.f0 x1.f1 x2 x3 = some true
theorem own : ownKnob Try.prog.godebug = none := by kernel_rfl
theorem laidOut : laidOutB Try.prog = true := by kernel_rfl
set_option maxRecDepth 100000 in
theorem lifted (hP : Pure) (os : Os) (started : os.Started) (H : Type) (enc : TypeId × Value → H) :
  ReturnsInHanded {} Try.checked os 4 .any (Rows.boundThreeSpec.pre6 enc Try.prog Try.f4 Rows.boundThreeRow.domain false) (Rows.boundThreeSpec.post enc Try.prog Try.f4 false true false false) := by
 refine returnsInHanded_of_change_sized (C := Try.checked) own started (by kernel_rfl) Try.func4
  (ChangeSpec.witness6 (enc := enc) (C := Try.checked) false ⟨#[], #[.agg #[.int .i64 0, .int .i64 0], .agg #[.int .i64 0, .int .i64 0], .int .u16 0, .int .u16 0], []⟩ 8 (by kernel_rfl) (by kernel_rfl) (by kernel_rfl) (by kernel_rfl)) ?_
 intro W base args ds gs before hval0 hW hcnd hsz0 _
 have hval : ∀ (j : Nat) t v, Try.f4.params[j]? = some t → args[j]? = some v → Value.okWide Try.prog W .any base t v := hval0
 have hW' := hW
 obtain ⟨p, q, hA0, hV, rfl, hfz, hnd⟩ := hW
 have hA : DataW.TrodAll enc Try.prog W 0 (fun _ => true) true Try.f4.params.toList args.toList ds p := hA0
 rw [Try.params4] at hA hval
 obtain ⟨v0, vs0, d0, ds0, p0, q0, hargs, rfl, rfl, h0, r0⟩ := trodAll_cons hA
 obtain ⟨v1, vs1, d1, ds1, p1, q1, rfl, rfl, rfl, h1, r1⟩ := trodAll_cons r0
 obtain ⟨v2, vs2, d2, ds2, p2, q2, rfl, rfl, rfl, h2, r2⟩ := trodAll_cons r1
 obtain ⟨v3, vs3, d3, ds3, p3, q3, rfl, rfl, rfl, h3, r3⟩ := trodAll_cons r2
 obtain ⟨rfl, rfl, rfl⟩ := trodAll_nil r3
 obtain rfl : args = #[v0, v1, v2, v3] := by cases args; simp_all
 obtain ⟨rfl, rfl⟩ := trodVars_none hV
 have k0 := h0
 have lt0 : ∀ x ∈ p0, x.block < W.heap.size := by obtain ⟨m, hm⟩ := k0; exact DataW.trod_lt m _ _ _ hm
 obtain ⟨m0, hm0⟩ := h0
 obtain ⟨x0, hk0, w0⟩ := Opens.run opens32 hm0
 have hcs0 := k32_open hk0
 obtain rfl := cells_agg hcs0 (by simp)
 have k1 := h1
 have lt1 : ∀ x ∈ p1, x.block < W.heap.size := by obtain ⟨m, hm⟩ := k1; exact DataW.trod_lt m _ _ _ hm
 obtain ⟨m1, hm1⟩ := h1
 obtain ⟨x1, hk1, w1⟩ := Opens.run opens32 hm1
 have hcs1 := k32_open hk1
 obtain rfl := cells_agg hcs1 (by simp)
 obtain ⟨x2, rfl, rfl, rfl, w2⟩ := open_int Try.underlying33 (hval 2 33 v2 rfl rfl) h2
 obtain ⟨x3, rfl, rfl, rfl, w3⟩ := open_int Try.underlying33 (hval 3 33 v3 rfl rfl) h3
 clear hA0 hval0 hsz0
 obtain ⟨k, hf⟩ := hP x0 x1 x2 x3 w0 w1 w2 w3
 refine (isobathlaw01_BoundThree.calls (k := k) (a0_0 := x0.f0) (a0_1 := x0.f1) (a1_0 := x1.f0) (a1_1 := x1.f1) (a2 := x2) (a3 := x3) (r := true) (w := W) (h := hf)).mono fun e W' ⟨he, hd⟩ => ?_
 have bel : Below W.heap.size W W' := by first | exact hd | (obtain ⟨m, rfl⟩ := hd; exact zbn (Below.refl _ _) m)
 subst he
 exact ⟨_, rfl, _, _, _, [], _, [], hW', trodAll_mk1 (shut_bool Try.underlying4 _), (trodAll_cons_mk (Below.trod laidOut (by kernel_rfl) (zod (by kernel_rfl)) k0 bel lt0) (trodAll_cons_mk (Below.trod laidOut (by kernel_rfl) (zod (by kernel_rfl)) k1 bel lt1) (trodAll_cons_mk (shut_int Try.underlying33 w2) (trodAll_cons_mk (shut_int Try.underlying33 w3) trodAll_mk0)))), rfl, bel.frame _, fun h => by cases h⟩
theorem over (hP : Pure) : Rows.boundThreeRow.holds Try.pinned (OpenSpec.ofChange Rows.boundThreeSpec) :=
 OpenClaim.holds_of_wide 4 Try.f4 rfl rfl rfl rfl rfl rfl rfl ⟨rfl, rfl, rfl, rfl, rfl⟩ rfl rfl rfl rfl rfl (by kernel_rfl) Try.func4 (by kernel_rfl)
  (zod (by kernel_rfl)) (by unfold Func.isWrapper; first | (rw [if_pos (by decide +kernel)]; kernel_rfl) | (rw [if_neg (by decide +kernel)]; exact ⟨rfl, rfl⟩))
  (fun os started H enc _ => lifted hP os started H enc)
theorem proved (hP : Pure) : Rows.BoundThreeSaid := over hP
end boundThree
end Go.Proofs.Ytlkafgibgipodaa.P
namespace Go.Proofs.Ytlkafgibgipodaa.P
open Go.RowKit Go.Proofs.YtlkafgibgipodaaW.PrintWords Go.Proofs.YtlkafgibgipodaaW.PrintLast Go.Proofs.YtlkafgibgipodaaW.PrintMore
attribute [local go_sem] max2_int min2_int max_two min_two max_three min_three max_four min_four   -- for this text's walks alone
set_option linter.unusedVariables false
set_option linter.unusedSimpArgs false
theorem Bo.part {a0 a1 p : Int} (h : Bo.v a0 a1) (h0 : 0 ≤ p) (h1 : p ≤ 65535) : ∃ x, isobathlaw01_Part.f a0 a1 p = some x ∧ a0 ≤ x ∧ x ≤ a1 := by
 obtain ⟨g1, g2, g3⟩ := h
 unfold isobathlaw01_Part.f
 have m0 : 0 ≤ (a1 - a0) * p := Int.mul_nonneg (by omega) h0
 have m1 : (a1 - a0) * p ≤ (a1 - a0) * 65535 := Int.mul_le_mul_of_nonneg_left h1 (by omega)
 have w0 : wrap64 (a1 - a0) = a1 - a0 := wrap_id (by omega) (by omega)
 have w1 : wrap64 p = p := wrap_id (by omega) (by omega)
 have w2 : wrap64 ((a1 - a0) * p) = (a1 - a0) * p := wrap_id (by omega) (by omega)
 rw [w0, w1, w2, tdiv_pos m0]
 have d0 : 0 ≤ (a1 - a0) * p / 65535 := by omega
 have d1 : (a1 - a0) * p / 65535 ≤ a1 - a0 := by omega
 rw [wrap_id (n := (a1 - a0) * p / 65535) (by omega) (by omega), wrap_id (by omega) (by omega)]
 exact ⟨_, rfl, by omega, by omega⟩
theorem Bo.holds (a0 a1 x : Int) : isobathlaw01_holds.f a0 a1 x = some (decide (a0 ≤ x ∧ x ≤ a1)) := by
 unfold isobathlaw01_holds.f
 by_cases h : a0 ≤ x
 ·rw [if_pos h]
  simp [h]
 rw [if_neg h]
 simp [h]
theorem Bo.three (a0 a1 b0 b1 p q : Int) (hp : 0 ≤ p ∧ p ≤ 65535) (hq : 0 ≤ q ∧ q ≤ 65535) : isobathlaw01_BoundThree.f 104 a0 a1 b0 b1 p q = some true := by
 unfold isobathlaw01_BoundThree.f
 rw [Bo.both1 a0 a1 b0 b1 fun z => isobathlaw01_BoundThree.j0 104 p q z a0 a1 b0 b1]
 rw [show (104 : Nat) = 103 + 1 from rfl]
 simp only [isobathlaw01_BoundThree.j0]
 by_cases h : Bo.v a0 a1 ∧ Bo.v b0 b1
 ·obtain ⟨x, hx, x0, x1⟩ := Bo.part h.1 hp.1 hp.2
  obtain ⟨y, hy, y0, y1⟩ := Bo.part h.2 hq.1 hq.2
  obtain ⟨⟨h1, h2, h3⟩, h4, h5, h6⟩ := id h
  rw [if_pos h, if_neg (by simp), hx, hy, Option.bind_some, Option.bind_some, Bo.less_b _ _ _ _ (by omega), Bo.inn_b _ _ _ _ (by omega), Option.bind_some, Option.bind_some]
  have L : ∃ l, Bo.less a0 a1 b0 b1 = (l, 0) ∧ (l = 2 ∧ a1 < b0 ∨ l = 0 ∧ b1 ≤ a0 ∨ l = 1 ∧ b0 ≤ a1 ∧ a0 < b1) := by
   unfold Bo.less
   rw [if_pos h]
   by_cases c : a1 < b0
   ·exact ⟨2, by rw [if_pos c], .inl ⟨rfl, c⟩⟩
   by_cases d : b1 ≤ a0
   ·exact ⟨0, by rw [if_neg c, if_pos d], .inr (.inl ⟨rfl, d⟩)⟩
   exact ⟨1, by rw [if_neg c, if_neg d], .inr (.inr ⟨rfl, by omega, by omega⟩)⟩
  have I : ∃ l, Bo.inn a0 a1 b0 b1 = (l, 0) ∧ (l = 2 ∧ b0 ≤ a0 ∧ a1 ≤ b1 ∨ l = 0 ∧ (a1 < b0 ∨ b1 < a0) ∨ l = 1 ∧ ¬ (b0 ≤ a0 ∧ a1 ≤ b1) ∧ b0 ≤ a1 ∧ a0 ≤ b1) := by
   unfold Bo.inn
   rw [if_pos h]
   by_cases c : b0 ≤ a0 ∧ a1 ≤ b1
   ·exact ⟨2, by rw [if_pos c], .inl ⟨rfl, c⟩⟩
   by_cases d : a1 < b0 ∨ b1 < a0
   ·exact ⟨0, by rw [if_neg c, if_pos d], .inr (.inl ⟨rfl, d⟩)⟩
   exact ⟨1, by rw [if_neg c, if_neg d], .inr (.inr ⟨rfl, c, by omega, by omega⟩)⟩
  obtain ⟨l, el, hl⟩ := L
  obtain ⟨i, ei, hi⟩ := I
  have hW := Bo.works (k := 100) (by omega)
  have first2 : isobathlaw01_BoundThree.j1 103 x y l i (decide ((0 : Int) ≠ 0)) a0 a1 b0 b1 = isobathlaw01_BoundThree.j2 102 x i (decide (l > 2)) a0 a1 b0 b1 := by
   simp only [isobathlaw01_BoundThree.j1]
   rcases hl with ⟨rfl, c⟩ | ⟨rfl, c⟩ | ⟨rfl, c, d⟩
   ·rw [if_neg (by decide), if_pos rfl, if_neg (by omega), if_neg (by decide), if_neg (by decide), if_neg (by decide)]
   ·rw [if_neg (by decide), if_neg (by decide), if_pos rfl, if_neg (by omega), if_neg (by decide), if_neg (by decide)]
   rw [if_neg (by decide), if_neg (by decide), if_neg (by decide), if_pos rfl, if_neg (by omega), if_neg (by omega), if_neg (by decide)]
  have second : isobathlaw01_BoundThree.j2 102 x i false a0 a1 b0 b1 = isobathlaw01_BoundThree.j3 101 i (decide (i > 2)) a0 a1 b0 b1 := by
   simp only [isobathlaw01_BoundThree.j2, Bo.holds, Option.bind_some, decide_eq_true_eq]
   rcases hi with ⟨rfl, c, d⟩ | ⟨rfl, c⟩ | ⟨rfl, c, d⟩
   ·rw [if_neg (by decide), if_pos rfl, if_pos (by omega), if_neg (by decide), if_neg (by decide)]
   ·rw [if_neg (by decide), if_neg (by decide), if_pos rfl, if_neg (by omega), if_neg (by decide)]
   rw [if_neg (by decide), if_neg (by decide), if_neg (by decide), if_neg (by decide)]
  have third : isobathlaw01_BoundThree.j3 101 i false a0 a1 b0 b1 = some true := by
   simp only [isobathlaw01_BoundThree.j3, Bo.holds, Option.bind_some, decide_eq_true_eq, Bo.mxE, Bo.mnE, hW]
   rcases hi with ⟨rfl, c, d⟩ | ⟨rfl, c⟩ | ⟨rfl, c, d⟩
   ·rw [if_neg (by decide), if_neg (by decide)]
   ·rw [if_neg (by decide), if_neg (by decide)]
   rw [if_neg (by decide), if_pos rfl]
   by_cases q : b0 ≤ a0 ∧ a0 ≤ b1
   ·rw [if_pos q, if_neg (by omega), if_pos (by omega)]
   rw [if_neg q, if_pos (by omega)]
  have dl : decide (l > 2) = false := zdf (by omega)
  have di : decide (i > 2) = false := zdf (by omega)
  rw [el, ei]
  simp only [if_true]
  rw [show ((0 : Int) != 0) = decide ((0 : Int) ≠ 0) by decide, first2, dl, second, di, third]
 rw [if_neg h, if_pos trivial, Bo.works (by omega)]
 rfl
theorem Bo.u16_of {n : Int} (h : (Lit.int .u16 n).wf = true) : 0 ≤ n ∧ n ≤ 65535 := by
 have e : (decide ((0 : Int) ≤ n) && decide (n ≤ 65535)) = true := h
 simp at e
 omega
theorem boundThree_holds : Rows.BoundThreeSaid := boundThree.proved fun a b p q _ _ hp hq => ⟨104, Bo.three _ _ _ _ p q (Bo.u16_of hp) (Bo.u16_of hq)⟩
#print axioms boundThree_holds
end Go.Proofs.Ytlkafgibgipodaa.P
