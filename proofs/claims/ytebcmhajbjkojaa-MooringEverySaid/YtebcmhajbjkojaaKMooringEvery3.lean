/- The forces, tensions, offsets and rises of all moorings with pieces of a rig lie within the spans that the document tells. Part 4 of 6. -/
-- Put together by wip/tools/shake.py, a program of this work: out of the words that the kit's print tool (print.sh) writes for a claim and what wip/tools/xprint.py prints, those that this claim reaches, and this work's own texts.
import Derived.Laws.EntriesVeiled
import Derived.Outline
import Derived.Test.YtebcmhajbjkojaaKMooringEvery2
namespace Go.Proofs.Ytebcmhajbjkojaa.P
open Go.RowKit Go.Proofs.YtebcmhajbjkojaaW.PrintWords Go.Proofs.YtebcmhajbjkojaaW.PrintLast Go.Proofs.YtebcmhajbjkojaaW.PrintMore
attribute [local go_sem] max2_int min2_int max_two min_two max_three min_three max_four min_four   -- for this text's walks alone
set_option linter.unusedVariables false
set_option linter.unusedSimpArgs false
def isobathlaw02_rig.l0 : Nat → List (S69) → List (S57) → List Int → Int → Int → Int → List (S46) → Int → Int → Option (Int × (List (S46)) × Int × Int × (List (S57)) × List Int)
 | 0, _, _, _, _, _, _, _, _, _ => none
 | k + 1, x0, x10, x11, x12, x13, x103000, x103001, x103002, x103003 => if x13 < (x0.length : Int) then (if x13 < 8 then (if 0 ≤ x13 then (if x103001.length < 4398046511104 then (if (wrap64 ((wrap64 ((mx (Int.tmod (wrap64 ((rd_T69 x0 x13).f4)) 4) (Int.tmod (wrap64 ((rd_T69 x0 x13).f5)) 4)) - (mn (Int.tmod (wrap64 ((rd_T69 x0 x13).f4)) 4) (Int.tmod (wrap64 ((rd_T69 x0 x13).f5)) 4)))) + 1)) = 0 then (none) else (if x11.length < 17592186044416 then (if x10.length < 8796093022208 then (isobathlaw02_rig.l0 k x0 (x10 ++ [(⟨mx 0 (wrap64 ((wrap64 (1000 * (mn (Int.tmod (wrap64 ((rd_T69 x0 x13).f4)) 4) (Int.tmod (wrap64 ((rd_T69 x0 x13).f5)) 4)))) - (Int.tmod (wrap64 ((rd_T69 x0 x13).f8)) 100))), mn 3000 (wrap64 ((wrap64 (1000 * (mx (Int.tmod (wrap64 ((rd_T69 x0 x13).f4)) 4) (Int.tmod (wrap64 ((rd_T69 x0 x13).f5)) 4)))) + (Int.tmod (wrap64 ((rd_T69 x0 x13).f8)) 100)))⟩ : S57)]) (x11 ++ [wrap64 ((mn (Int.tmod (wrap64 ((rd_T69 x0 x13).f4)) 4) (Int.tmod (wrap64 ((rd_T69 x0 x13).f5)) 4)) + (Int.tmod (wrap64 ((rd_T69 x0 x13).f6)) (wrap64 ((wrap64 ((mx (Int.tmod (wrap64 ((rd_T69 x0 x13).f4)) 4) (Int.tmod (wrap64 ((rd_T69 x0 x13).f5)) 4)) - (mn (Int.tmod (wrap64 ((rd_T69 x0 x13).f4)) 4) (Int.tmod (wrap64 ((rd_T69 x0 x13).f5)) 4)))) + 1))))]) (wrap64 (x12 + (mx 0 (wrap64 (-(wrap64 (Int.tdiv (wrap64 ((rd_T69 x0 x13).f1)) 4))))))) (wrap64 (x13 + 1)) x103000 (x103001 ++ [(⟨Int.tmod (wrap64 ((rd_T69 x0 x13).f0)) 4096, wrap64 (Int.tdiv (wrap64 ((rd_T69 x0 x13).f1)) 4), wrap64 ((rd_T69 x0 x13).f2), wrap64 (1 + (wrap64 ((rd_T69 x0 x13).f3)))⟩ : S46)]) x103002 x103003) else (none)) else (none))) else (none)) else (none)) else (if (x103001.length : Int) > 0 then (if 0 < (x103001.length : Int) then (some (x103000, (x103001.set (0 : Int).toNat (⟨(rd_T46 x103001 0).f0, wrap64 (((rd_T46 x103001 0).f1) + x12), (rd_T46 x103001 0).f2, (rd_T46 x103001 0).f3⟩ : S46)), x103002, x103003, x10, x11)) else (none)) else (some (x103000, x103001, x103002, x103003, x10, x11)))) else (if (x103001.length : Int) > 0 then (if 0 < (x103001.length : Int) then (some (x103000, (x103001.set (0 : Int).toNat (⟨(rd_T46 x103001 0).f0, wrap64 (((rd_T46 x103001 0).f1) + x12), (rd_T46 x103001 0).f2, (rd_T46 x103001 0).f3⟩ : S46)), x103002, x103003, x10, x11)) else (none)) else (some (x103000, x103001, x103002, x103003, x10, x11)))
def isobathlaw02_rig.f (k : Nat) (l0 : List (S69)) (a1 : Int) (a2 : Int) : Option (Int × (List (S46)) × Int × Int × (List (S57)) × List Int) := isobathlaw02_rig.l0 k l0 ([] : List (S57)) ([] : List Int) 1 0 (wrap64 (1 + (wrap64 (a1)))) ([] : List (S46)) (wrap64 ((wrap64 (a2)) * 4)) 600
def isobathlaw02_rig.T12 : Bool × List (List Nat × List Nat) := (true, [([], []), ([0], [0]), ([1], [1]), ([2], [2]), ([], []), ([4], [4]), ([5], [5]), ([6], [6]), ([3, 0, 1, 2, 3], [3]), ([7, 8, 0, 1, 2, 3, 4, 5, 6, 7, 8], [7])])
def isobathlaw02_rig.B12 : List Nat := [0, 1, 3, 7, 0, 16, 48, 112, 15, 511]
theorem isobathlaw02_rig.tab12 : rtab .any (opsOf Try.f44 12) = isobathlaw02_rig.T12 := by kernel_rfl
theorem isobathlaw02_rig.bits12 : waitsOk isobathlaw02_rig.T12.2 isobathlaw02_rig.B12 = true := by kernel_rfl
def isobathlaw02_rig.T18 : Bool × List (List Nat × List Nat) := (true, [([], []), ([0], [0]), ([], []), ([2], [2]), ([3], [3]), ([4], [4]), ([5], [5]), ([], []), ([6, 7], [6, 7]), ([1, 0, 1, 2, 3, 4, 5, 6, 7, 8], [1]), ([9, 0, 1, 2, 3, 4, 5, 6, 7, 8], [9]), ([10, 8, 0, 1, 2, 3, 4, 5, 6, 7, 8], [8, 10])])
def isobathlaw02_rig.B18 : List Nat := [0, 1, 0, 4, 12, 28, 60, 0, 252, 511, 1023, 2047]
theorem isobathlaw02_rig.tab18 : rtab .any (opsOf Try.f44 18) = isobathlaw02_rig.T18 := by kernel_rfl
theorem isobathlaw02_rig.bits18 : waitsOk isobathlaw02_rig.T18.2 isobathlaw02_rig.B18 = true := by kernel_rfl
set_option maxHeartbeats 8000000 in
set_option maxRecDepth 100000 in
theorem isobathlaw02_rig.calls (k : Nat) (A0 : Option Addr) (c0 : Nat) (l0 : List (S69)) (a1 : Int) (a2 : Int) (r1 : Int) (r2 : List (S46)) (r3 : Int) (r4 : Int) (r5 : List (S57)) (r6 : List Int) (w : World) (hr0 : Kd.C k69 w A0 l0.length l0) (hc0 : l0.length ≤ c0) (h : isobathlaw02_rig.f k l0 a1 a2 = some (r1, r2, r3, r4, r5, r6)) :
  Calls Try.prog 44 #[.slice A0 l0.length c0, .int .u16 a1, .int .u16 a2] w fun e w' => ∃ v1_ v4_ v5_ : Value, e = .returned (.tuple #[.agg #[.int .i64 r1, v1_, .int .i64 r3, .int .i64 r4], v4_, v5_]) ∧ Kd.R k46 46 w' w.heap.size (fun _ => True) v1_ r2 ∧ Kd.R k57 57 w' w.heap.size (fun _ => True) v4_ r5 ∧ Kd.R (Kd.int .i64) 2 w' w.heap.size (fun _ => True) v5_ r6 ∧ Below w.heap.size w w' := by
 have hu37 := Try.underlying37
 have hu69 := Try.underlying69
 have hu46 := Try.underlying46
 have hu57 := Try.underlying57
 have HR0 := Aside0.mk hr0
 have HC0 := Aside0.mk hc0
 clear hr0 hc0
 have HB := Aside0.mk (Below.refl w.heap.size w)
 have H : (isobathlaw02_rig.l0 k l0 ([] : List (S57)) ([] : List Int) 1 0 (wrap64 (1 + (wrap64 (a1)))) ([] : List (S46)) (wrap64 ((wrap64 (a2)) * 4)) 600) = some (r1, r2, r3, r4, r5, r6) := h
 clear h
 have H' := Aside0.mk H
 clear H
 go_enter Try.func44, Try.ntmps44
 go_wp2_with (first | ((with_reducible refine gate_dst (N := 6) rfl ?_); refine box_event ?hg (N := 6) ?hd (cs := #[.int .i64 0, .slice none 0 0, .int .i64 0, .int .i64 0]) (t := 37) ?hr ?_; (case hd => rfl); (case hg => rfl); (case hr => first | (go_simp; done) | (go_simp; rfl)); intro gb101 hg w4 hbox hb; have n0_ := Aside0.mk (below_step (by repeat (first | (with_reducible first | exact HB.out | apply below_alloc | apply pw_below_drewN | apply below_drew1) | exact HB.out)) hb); have n1_ := Aside0.mk (hbox); have n2_ := Aside0.mk ((by rw [hg]; exact (below_size (by repeat (first | (with_reducible first | exact HB.out | apply below_alloc | apply pw_below_drewN | apply below_drew1) | exact HB.out))) : w.heap.size ≤ gb101)); have n3_ := Aside0.mk ((by rw [hg]; exact (below_size (by repeat (first | (with_reducible first | exact HB.out | apply below_alloc | apply pw_below_drewN | apply below_drew1) | exact HB.out))) : w.heap.size ≤ gb101)); clear HB; have HB := n0_; have BK101 := n1_; have GW101 := n2_; have GE101 := n3_; clear n0_ n1_ n2_ n3_; clear hb hbox hg) | ((with_reducible refine gate_dst (N := 9) rfl ?_); refine box_event ?hg (N := 9) ?hd (cs := #[.int .i64 0, .slice none 0 0, .int .i64 0, .int .i64 0]) (t := 37) ?hr ?_; (case hd => rfl); (case hg => rfl); (case hr => first | (go_simp; done) | (go_simp; rfl)); intro gb102 hg w5 hbox hb; have n0_ := Aside0.mk (blk_below (g := gb101) (o := .cells #[.int .i64 0, .slice none 0 0, .int .i64 0, .int .i64 0] 37 (0, 0)) (by (with_reducible repeat (first | refine blk_drewN ?_ _ | refine blk_drew ?_ | refine blk_alloc ?_ _)); exact BK101.out) hb); have n1_ := Aside0.mk (below_step (by repeat (first | (with_reducible first | exact HB.out | apply below_alloc | apply pw_below_drewN | apply below_drew1 | refine below_set ?_ GE101.out) | exact HB.out)) hb); have n2_ := Aside0.mk (hbox); have n3_ := Aside0.mk ((by rw [hg]; exact (below_size (by repeat (first | (with_reducible first | exact HB.out | apply below_alloc | apply pw_below_drewN | apply below_drew1 | refine below_set ?_ GE101.out) | exact HB.out))) : w.heap.size ≤ gb102)); have n4_ := Aside0.mk ((by rw [hg]; exact (below_size (by repeat (first | (with_reducible first | exact HB.out | apply below_alloc | apply pw_below_drewN | apply below_drew1 | refine below_set ?_ GE101.out) | exact HB.out))) : w.heap.size ≤ gb102)); have n5_ := Aside0.mk ((by rw [hg]; exact Nat.ne_of_lt (blk_lt (g := gb101) (o := .cells #[.int .i64 0, .slice none 0 0, .int .i64 0, .int .i64 0] 37 (0, 0)) (by (with_reducible repeat (first | refine blk_drewN ?_ _ | refine blk_drew ?_ | refine blk_alloc ?_ _)); exact BK101.out)) : gb101 ≠ gb102)); have n6_ := Aside0.mk ((by rw [hg]; exact Nat.ne_of_gt (blk_lt (g := gb101) (o := .cells #[.int .i64 0, .slice none 0 0, .int .i64 0, .int .i64 0] 37 (0, 0)) (by (with_reducible repeat (first | refine blk_drewN ?_ _ | refine blk_drew ?_ | refine blk_alloc ?_ _)); exact BK101.out)) : gb102 ≠ gb101)); clear BK101; clear HB; have BK101 := n0_; have HB := n1_; have BK102 := n2_; have GW102 := n3_; have GE102 := n4_; have NB101_102 := n5_; have NB102_101 := n6_; clear n0_ n1_ n2_ n3_ n4_ n5_ n6_; clear hb hbox hg; have hnb6 := NB102_101.out; have hnc6 := NB101_102.out; have hcz7_0 : w5.cell? ⟨gb102, 0, none⟩ = some (.int .i64 0) := (blk_cell BK102.out 0).trans rfl; have hcz7_1 : w5.cell? ⟨gb102, 1, none⟩ = some (.slice none 0 0) := (blk_cell BK102.out 1).trans rfl; have hcz7_2 : w5.cell? ⟨gb102, 2, none⟩ = some (.int .i64 0) := (blk_cell BK102.out 2).trans rfl; have hcz7_3 : w5.cell? ⟨gb102, 3, none⟩ = some (.int .i64 0) := (blk_cell BK102.out 3).trans rfl; have hfz7_0 := blk_frozen BK102.out 0; have hfz7_1 := blk_frozen BK102.out 1; have hfz7_2 := blk_frozen BK102.out 2; have hfz7_3 := blk_frozen BK102.out 3))
 go_loopg [10, 11, 12, 13] k (fun kq v10 v11 v12 v13 w' => ∃ (x10_1 : List (S57)) (x11_1 : List Int) (x12_1 : Int) (x13_1 : Int) (x103001_1 : List (S46)) (u103001 : Value), v12 = .int .i64 x12_1 ∧ v13 = .int .i64 x13_1 ∧ Aside0 (isobathlaw02_rig.l0 kq l0 x10_1 x11_1 x12_1 x13_1 (wrap64 (1 + (wrap64 (a1)))) x103001_1 (wrap64 ((wrap64 (a2)) * 4)) 600 = some (r1, r2, r3, r4, r5, r6)) ∧ Aside0 (kq ≤ k) ∧ Aside0 (Kd.R k57 57 w' w.heap.size (fun _ => True) v10 x10_1) ∧ Aside0 (Kd.R (Kd.int .i64) 2 w' w.heap.size (fun _ => True) v11 x11_1) ∧ Aside0 (Kd.R k46 46 w' w.heap.size (fun _ => True) u103001 x103001_1) ∧ Aside0 (w'.heap[gb101]? = some (.cells #[.int .i64 0, (.slice none 0 0), .int .i64 0, .int .i64 0] 37 (0, 0))) ∧ Aside0 (w'.heap[gb102]? = some (.cells #[.int .i64 (wrap64 (1 + (wrap64 (a1)))), u103001, .int .i64 (wrap64 ((wrap64 (a2)) * 4)), .int .i64 600] 37 (0, 0))) ∧ Aside0 (Below w.heap.size w w'))
 case atStart => exact ⟨(([] : List (S57))), (([] : List Int)), (1), (0), (([] : List (S46))), (.slice none 0 0), (by first | rfl | (simp; done) | (simp [*]; done)), (by first | rfl | (simp; done) | (simp [*]; done)), H', ⟨Nat.le_refl _⟩, ⟨by first | exact Kd.R_nil _ _ _ _ _ | exact Kd.N_nil _ _ _ _ _ | exact Kd.V_nil _ _ _ _ _ | exact Kd.Q_nil _ _ _ _ _ | exact Kd.S_nil _ _ _ _ _⟩, ⟨by first | exact Kd.R_nil _ _ _ _ _ | exact Kd.N_nil _ _ _ _ _ | exact Kd.V_nil _ _ _ _ _ | exact Kd.Q_nil _ _ _ _ _ | exact Kd.S_nil _ _ _ _ _⟩, ⟨by first | exact Kd.R_nil _ _ _ _ _ | exact Kd.N_nil _ _ _ _ _ | exact Kd.V_nil _ _ _ _ _ | exact Kd.Q_nil _ _ _ _ _ | exact Kd.S_nil _ _ _ _ _⟩, ⟨by (with_reducible repeat (first | refine blk_drewN ?_ _ | refine blk_drew ?_ | refine blk_alloc ?_ _)); refine blk_far ?_ NB101_102.out _; (with_reducible repeat (first | refine blk_drewN ?_ _ | refine blk_drew ?_ | refine blk_alloc ?_ _)); refine blk_far ?_ NB101_102.out _; (with_reducible repeat (first | refine blk_drewN ?_ _ | refine blk_drew ?_ | refine blk_alloc ?_ _)); refine blk_far ?_ NB101_102.out _; (with_reducible repeat (first | refine blk_drewN ?_ _ | refine blk_drew ?_ | refine blk_alloc ?_ _)); refine blk_far ?_ NB101_102.out _; (with_reducible repeat (first | refine blk_drewN ?_ _ | refine blk_drew ?_ | refine blk_alloc ?_ _)); exact BK101.out⟩, ⟨by (with_reducible repeat (first | refine blk_drewN ?_ _ | refine blk_drew ?_ | refine blk_alloc ?_ _)); refine blk_put (cs := #[.int .i64 (wrap64 (1 + (wrap64 (a1)))), .slice none 0 0, .int .i64 (wrap64 ((wrap64 (a2)) * 4)), .int .i64 0]) ?_ 3 _ rfl; (with_reducible repeat (first | refine blk_drewN ?_ _ | refine blk_drew ?_ | refine blk_alloc ?_ _)); refine blk_put (cs := #[.int .i64 (wrap64 (1 + (wrap64 (a1)))), .slice none 0 0, .int .i64 0, .int .i64 0]) ?_ 2 _ rfl; (with_reducible repeat (first | refine blk_drewN ?_ _ | refine blk_drew ?_ | refine blk_alloc ?_ _)); refine blk_put (cs := #[.int .i64 (wrap64 (1 + (wrap64 (a1)))), .slice none 0 0, .int .i64 0, .int .i64 0]) ?_ 1 _ rfl; (with_reducible repeat (first | refine blk_drewN ?_ _ | refine blk_drew ?_ | refine blk_alloc ?_ _)); refine blk_put (cs := #[.int .i64 0, .slice none 0 0, .int .i64 0, .int .i64 0]) ?_ 0 _ rfl; (with_reducible repeat (first | refine blk_drewN ?_ _ | refine blk_drew ?_ | refine blk_alloc ?_ _)); exact BK102.out⟩, ⟨by repeat (first | (with_reducible first | exact HB.out | apply below_alloc | apply pw_below_drewN | apply below_drew1 | refine below_set ?_ GE101.out | refine below_set ?_ GE102.out) | exact HB.out)⟩⟩
 case round =>
  clear H'
  try clear p2
  try clear c4
  try clear c6
  try clear p6
  try clear hcz7_0
  try clear hcz7_1
  try clear hcz7_2
  try clear hcz7_3
  try clear hfz7_0
  try clear hfz7_1
  try clear hfz7_2
  try clear hfz7_3
  obtain ⟨x10_1, x11_1, x12_1, x13_1, x103001_1, u103001, rfl, rfl, HA, HK1, HO_10, HO_11, HO_103001, BK101, BK102, HB⟩ := hrel
  cases gk with
  | zero => exact absurd HA.out (by simp [isobathlaw02_rig.l0])
  | succ k1 =>
   have H := HA.out
   clear HA
   simp only [isobathlaw02_rig.l0] at H
   by_cases c8 : x13_1 < (l0.length : Int)
   ·rw [if_pos c8] at H
    have c8b0 : decide (x13_1 < (l0.length : Int)) = true := decide_eq_true c8
    clear c8
    by_cases c9 : x13_1 < 8
    ·rw [if_pos c9] at H
     have c9b0 : decide (x13_1 < 8) = true := decide_eq_true c9
     clear c9
     by_cases c10 : 0 ≤ x13_1
     ·rw [if_pos c10] at H
      have c10b0 : decide (0 ≤ x13_1) = true := decide_eq_true c10
      clear c10
      obtain ⟨ji11, hji11⟩ : ∃ j_ : Int, (mx 0 (wrap64 (-(wrap64 (Int.tdiv (wrap64 ((rd_T69 l0 x13_1).f1)) 4))))) = j_ := ⟨_, rfl⟩
      replace H : (if x103001_1.length < 4398046511104 then (if (wrap64 ((wrap64 ((mx (Int.tmod (wrap64 ((rd_T69 l0 x13_1).f4)) 4) (Int.tmod (wrap64 ((rd_T69 l0 x13_1).f5)) 4)) - (mn (Int.tmod (wrap64 ((rd_T69 l0 x13_1).f4)) 4) (Int.tmod (wrap64 ((rd_T69 l0 x13_1).f5)) 4)))) + 1)) = 0 then (none) else (if x11_1.length < 17592186044416 then (if x10_1.length < 8796093022208 then (isobathlaw02_rig.l0 k1 l0 (x10_1 ++ [(⟨mx 0 (wrap64 ((wrap64 (1000 * (mn (Int.tmod (wrap64 ((rd_T69 l0 x13_1).f4)) 4) (Int.tmod (wrap64 ((rd_T69 l0 x13_1).f5)) 4)))) - (Int.tmod (wrap64 ((rd_T69 l0 x13_1).f8)) 100))), mn 3000 (wrap64 ((wrap64 (1000 * (mx (Int.tmod (wrap64 ((rd_T69 l0 x13_1).f4)) 4) (Int.tmod (wrap64 ((rd_T69 l0 x13_1).f5)) 4)))) + (Int.tmod (wrap64 ((rd_T69 l0 x13_1).f8)) 100)))⟩ : S57)]) (x11_1 ++ [wrap64 ((mn (Int.tmod (wrap64 ((rd_T69 l0 x13_1).f4)) 4) (Int.tmod (wrap64 ((rd_T69 l0 x13_1).f5)) 4)) + (Int.tmod (wrap64 ((rd_T69 l0 x13_1).f6)) (wrap64 ((wrap64 ((mx (Int.tmod (wrap64 ((rd_T69 l0 x13_1).f4)) 4) (Int.tmod (wrap64 ((rd_T69 l0 x13_1).f5)) 4)) - (mn (Int.tmod (wrap64 ((rd_T69 l0 x13_1).f4)) 4) (Int.tmod (wrap64 ((rd_T69 l0 x13_1).f5)) 4)))) + 1))))]) (wrap64 (x12_1 + (ji11))) (wrap64 (x13_1 + 1)) (wrap64 (1 + (wrap64 (a1)))) (x103001_1 ++ [(⟨Int.tmod (wrap64 ((rd_T69 l0 x13_1).f0)) 4096, wrap64 (Int.tdiv (wrap64 ((rd_T69 l0 x13_1).f1)) 4), wrap64 ((rd_T69 l0 x13_1).f2), wrap64 (1 + (wrap64 ((rd_T69 l0 x13_1).f3)))⟩ : S46)]) (wrap64 ((wrap64 (a2)) * 4)) 600) else (none)) else (none))) else (none)) = some (r1, r2, r3, r4, r5, r6) := by first | (rw [hji11] at H; exact H) | (simp only [hji11] at H ⊢; exact H)
      have hji11_ : (if 0 < (wrap64 (-(wrap64 (Int.tdiv (wrap64 ((rd_T69 l0 x13_1).f1)) 4)))) then (wrap64 (-(wrap64 (Int.tdiv (wrap64 ((rd_T69 l0 x13_1).f1)) 4)))) else 0) = ji11 := hji11
      by_cases c12 : x103001_1.length < 4398046511104
      ·rw [if_pos c12] at H
       have LMc12 := Aside0.mk c12
       clear c12
       obtain ⟨y105, hy105⟩ : ∃ y_ : List (S46), y_ = (x103001_1 ++ [(⟨Int.tmod (wrap64 ((rd_T69 l0 x13_1).f0)) 4096, wrap64 (Int.tdiv (wrap64 ((rd_T69 l0 x13_1).f1)) 4), wrap64 ((rd_T69 l0 x13_1).f2), wrap64 (1 + (wrap64 ((rd_T69 l0 x13_1).f3)))⟩ : S46)]) := ⟨_, rfl⟩
       replace H : (if (wrap64 ((wrap64 ((mx (Int.tmod (wrap64 ((rd_T69 l0 x13_1).f4)) 4) (Int.tmod (wrap64 ((rd_T69 l0 x13_1).f5)) 4)) - (mn (Int.tmod (wrap64 ((rd_T69 l0 x13_1).f4)) 4) (Int.tmod (wrap64 ((rd_T69 l0 x13_1).f5)) 4)))) + 1)) = 0 then (none) else (if x11_1.length < 17592186044416 then (if x10_1.length < 8796093022208 then (isobathlaw02_rig.l0 k1 l0 (x10_1 ++ [(⟨mx 0 (wrap64 ((wrap64 (1000 * (mn (Int.tmod (wrap64 ((rd_T69 l0 x13_1).f4)) 4) (Int.tmod (wrap64 ((rd_T69 l0 x13_1).f5)) 4)))) - (Int.tmod (wrap64 ((rd_T69 l0 x13_1).f8)) 100))), mn 3000 (wrap64 ((wrap64 (1000 * (mx (Int.tmod (wrap64 ((rd_T69 l0 x13_1).f4)) 4) (Int.tmod (wrap64 ((rd_T69 l0 x13_1).f5)) 4)))) + (Int.tmod (wrap64 ((rd_T69 l0 x13_1).f8)) 100)))⟩ : S57)]) (x11_1 ++ [wrap64 ((mn (Int.tmod (wrap64 ((rd_T69 l0 x13_1).f4)) 4) (Int.tmod (wrap64 ((rd_T69 l0 x13_1).f5)) 4)) + (Int.tmod (wrap64 ((rd_T69 l0 x13_1).f6)) (wrap64 ((wrap64 ((mx (Int.tmod (wrap64 ((rd_T69 l0 x13_1).f4)) 4) (Int.tmod (wrap64 ((rd_T69 l0 x13_1).f5)) 4)) - (mn (Int.tmod (wrap64 ((rd_T69 l0 x13_1).f4)) 4) (Int.tmod (wrap64 ((rd_T69 l0 x13_1).f5)) 4)))) + 1))))]) (wrap64 (x12_1 + (ji11))) (wrap64 (x13_1 + 1)) (wrap64 (1 + (wrap64 (a1)))) y105 (wrap64 ((wrap64 (a2)) * 4)) 600) else (none)) else (none))) = some (r1, r2, r3, r4, r5, r6) := by first | (rw [hy105]; with_reducible exact H) | (have H2_ := (Option.bind_some _ _).symm.trans H; rw [hy105]; with_reducible exact H2_) | (have H2_ := (Option.bind_some _ _).symm.trans H; with_reducible exact H2_) | with_reducible exact H | (rw [hy105]; exact H) | exact H
       have Ny105 := Aside0.mk hy105
       clear hy105
       obtain ⟨ji13, hji13⟩ : ∃ j_ : Int, (mn (Int.tmod (wrap64 ((rd_T69 l0 x13_1).f4)) 4) (Int.tmod (wrap64 ((rd_T69 l0 x13_1).f5)) 4)) = j_ := ⟨_, rfl⟩
       replace H : (if (wrap64 ((wrap64 ((mx (Int.tmod (wrap64 ((rd_T69 l0 x13_1).f4)) 4) (Int.tmod (wrap64 ((rd_T69 l0 x13_1).f5)) 4)) - (ji13))) + 1)) = 0 then (none) else (if x11_1.length < 17592186044416 then (if x10_1.length < 8796093022208 then (isobathlaw02_rig.l0 k1 l0 (x10_1 ++ [(⟨mx 0 (wrap64 ((wrap64 (1000 * (ji13))) - (Int.tmod (wrap64 ((rd_T69 l0 x13_1).f8)) 100))), mn 3000 (wrap64 ((wrap64 (1000 * (mx (Int.tmod (wrap64 ((rd_T69 l0 x13_1).f4)) 4) (Int.tmod (wrap64 ((rd_T69 l0 x13_1).f5)) 4)))) + (Int.tmod (wrap64 ((rd_T69 l0 x13_1).f8)) 100)))⟩ : S57)]) (x11_1 ++ [wrap64 ((ji13) + (Int.tmod (wrap64 ((rd_T69 l0 x13_1).f6)) (wrap64 ((wrap64 ((mx (Int.tmod (wrap64 ((rd_T69 l0 x13_1).f4)) 4) (Int.tmod (wrap64 ((rd_T69 l0 x13_1).f5)) 4)) - (ji13))) + 1))))]) (wrap64 (x12_1 + (ji11))) (wrap64 (x13_1 + 1)) (wrap64 (1 + (wrap64 (a1)))) y105 (wrap64 ((wrap64 (a2)) * 4)) 600) else (none)) else (none))) = some (r1, r2, r3, r4, r5, r6) := by first | (rw [hji13] at H; exact H) | (simp only [hji13] at H ⊢; exact H)
       have hji13_ : (if (Int.tmod (wrap64 ((rd_T69 l0 x13_1).f5)) 4) < (Int.tmod (wrap64 ((rd_T69 l0 x13_1).f4)) 4) then (Int.tmod (wrap64 ((rd_T69 l0 x13_1).f5)) 4) else (Int.tmod (wrap64 ((rd_T69 l0 x13_1).f4)) 4)) = ji13 := hji13
       obtain ⟨ji14, hji14⟩ : ∃ j_ : Int, (mx (Int.tmod (wrap64 ((rd_T69 l0 x13_1).f4)) 4) (Int.tmod (wrap64 ((rd_T69 l0 x13_1).f5)) 4)) = j_ := ⟨_, rfl⟩
       replace H : (if (wrap64 ((wrap64 ((ji14) - (ji13))) + 1)) = 0 then (none) else (if x11_1.length < 17592186044416 then (if x10_1.length < 8796093022208 then (isobathlaw02_rig.l0 k1 l0 (x10_1 ++ [(⟨mx 0 (wrap64 ((wrap64 (1000 * (ji13))) - (Int.tmod (wrap64 ((rd_T69 l0 x13_1).f8)) 100))), mn 3000 (wrap64 ((wrap64 (1000 * (ji14))) + (Int.tmod (wrap64 ((rd_T69 l0 x13_1).f8)) 100)))⟩ : S57)]) (x11_1 ++ [wrap64 ((ji13) + (Int.tmod (wrap64 ((rd_T69 l0 x13_1).f6)) (wrap64 ((wrap64 ((ji14) - (ji13))) + 1))))]) (wrap64 (x12_1 + (ji11))) (wrap64 (x13_1 + 1)) (wrap64 (1 + (wrap64 (a1)))) y105 (wrap64 ((wrap64 (a2)) * 4)) 600) else (none)) else (none))) = some (r1, r2, r3, r4, r5, r6) := by first | (rw [hji14] at H; exact H) | (simp only [hji14] at H ⊢; exact H)
       have hji14_ : (if (Int.tmod (wrap64 ((rd_T69 l0 x13_1).f4)) 4) < (Int.tmod (wrap64 ((rd_T69 l0 x13_1).f5)) 4) then (Int.tmod (wrap64 ((rd_T69 l0 x13_1).f5)) 4) else (Int.tmod (wrap64 ((rd_T69 l0 x13_1).f4)) 4)) = ji14 := hji14
       by_cases c15 : (wrap64 ((wrap64 ((ji14) - (ji13))) + 1)) = 0
       ·rw [if_pos c15] at H
        exact absurd H (by simp)
       ·rw [if_neg c15] at H
        have c15b0 : ((wrap64 ((wrap64 ((ji14) - (ji13))) + 1)) == 0) = false := beq_eq_false_iff_ne.mpr c15
        have c15b1 : ((wrap64 ((wrap64 ((ji14) - (ji13))) + 1)) != 0) = true := bne_iff_ne.mpr c15
        by_cases c16 : x11_1.length < 17592186044416
        ·rw [if_pos c16] at H
         have LMc16 := Aside0.mk c16
         clear c16
         obtain ⟨y108, hy108⟩ : ∃ y_ : List Int, y_ = (x11_1 ++ [wrap64 ((ji13) + (Int.tmod (wrap64 ((rd_T69 l0 x13_1).f6)) (wrap64 ((wrap64 ((ji14) - (ji13))) + 1))))]) := ⟨_, rfl⟩
         replace H : (if x10_1.length < 8796093022208 then (isobathlaw02_rig.l0 k1 l0 (x10_1 ++ [(⟨mx 0 (wrap64 ((wrap64 (1000 * (ji13))) - (Int.tmod (wrap64 ((rd_T69 l0 x13_1).f8)) 100))), mn 3000 (wrap64 ((wrap64 (1000 * (ji14))) + (Int.tmod (wrap64 ((rd_T69 l0 x13_1).f8)) 100)))⟩ : S57)]) y108 (wrap64 (x12_1 + (ji11))) (wrap64 (x13_1 + 1)) (wrap64 (1 + (wrap64 (a1)))) y105 (wrap64 ((wrap64 (a2)) * 4)) 600) else (none)) = some (r1, r2, r3, r4, r5, r6) := by first | (rw [hy108]; with_reducible exact H) | (have H2_ := (Option.bind_some _ _).symm.trans H; rw [hy108]; with_reducible exact H2_) | (have H2_ := (Option.bind_some _ _).symm.trans H; with_reducible exact H2_) | with_reducible exact H | (rw [hy108]; exact H) | exact H
         have Ny108 := Aside0.mk hy108
         clear hy108
         obtain ⟨ji17, hji17⟩ : ∃ j_ : Int, (mx 0 (wrap64 ((wrap64 (1000 * (ji13))) - (Int.tmod (wrap64 ((rd_T69 l0 x13_1).f8)) 100)))) = j_ := ⟨_, rfl⟩
         replace H : (if x10_1.length < 8796093022208 then (isobathlaw02_rig.l0 k1 l0 (x10_1 ++ [(⟨ji17, mn 3000 (wrap64 ((wrap64 (1000 * (ji14))) + (Int.tmod (wrap64 ((rd_T69 l0 x13_1).f8)) 100)))⟩ : S57)]) y108 (wrap64 (x12_1 + (ji11))) (wrap64 (x13_1 + 1)) (wrap64 (1 + (wrap64 (a1)))) y105 (wrap64 ((wrap64 (a2)) * 4)) 600) else (none)) = some (r1, r2, r3, r4, r5, r6) := by first | (rw [hji17] at H; exact H) | (simp only [hji17] at H ⊢; exact H)
         have hji17_ : (if 0 < (wrap64 ((wrap64 (1000 * (ji13))) - (Int.tmod (wrap64 ((rd_T69 l0 x13_1).f8)) 100))) then (wrap64 ((wrap64 (1000 * (ji13))) - (Int.tmod (wrap64 ((rd_T69 l0 x13_1).f8)) 100))) else 0) = ji17 := hji17
         obtain ⟨ji18, hji18⟩ : ∃ j_ : Int, (mn 3000 (wrap64 ((wrap64 (1000 * (ji14))) + (Int.tmod (wrap64 ((rd_T69 l0 x13_1).f8)) 100)))) = j_ := ⟨_, rfl⟩
         replace H : (if x10_1.length < 8796093022208 then (isobathlaw02_rig.l0 k1 l0 (x10_1 ++ [(⟨ji17, ji18⟩ : S57)]) y108 (wrap64 (x12_1 + (ji11))) (wrap64 (x13_1 + 1)) (wrap64 (1 + (wrap64 (a1)))) y105 (wrap64 ((wrap64 (a2)) * 4)) 600) else (none)) = some (r1, r2, r3, r4, r5, r6) := by first | (rw [hji18] at H; exact H) | (simp only [hji18] at H ⊢; exact H)
         have hji18_ : (if (wrap64 ((wrap64 (1000 * (ji14))) + (Int.tmod (wrap64 ((rd_T69 l0 x13_1).f8)) 100))) < 3000 then (wrap64 ((wrap64 (1000 * (ji14))) + (Int.tmod (wrap64 ((rd_T69 l0 x13_1).f8)) 100))) else 3000) = ji18 := hji18
         by_cases c19 : x10_1.length < 8796093022208
         ·rw [if_pos c19] at H
          have LMc19 := Aside0.mk c19
          clear c19
          obtain ⟨y111, hy111⟩ : ∃ y_ : List (S57), y_ = (x10_1 ++ [(⟨ji17, ji18⟩ : S57)]) := ⟨_, rfl⟩
          replace H : (isobathlaw02_rig.l0 k1 l0 y111 y108 (wrap64 (x12_1 + (ji11))) (wrap64 (x13_1 + 1)) (wrap64 (1 + (wrap64 (a1)))) y105 (wrap64 ((wrap64 (a2)) * 4)) 600) = some (r1, r2, r3, r4, r5, r6) := by first | (rw [hy111]; with_reducible exact H) | (have H2_ := (Option.bind_some _ _).symm.trans H; rw [hy111]; with_reducible exact H2_) | (have H2_ := (Option.bind_some _ _).symm.trans H; with_reducible exact H2_) | with_reducible exact H | (rw [hy111]; exact H) | exact H
          have Ny111 := Aside0.mk hy111
          clear hy111
          have H' := Aside0.mk H
          clear H
          have p103 : 0 ≤ (x13_1 : Int) := of_decide_eq_true (by first | (with_reducible assumption) | assumption)
          have q103 : x13_1 < (l0.length : Int) := of_decide_eq_true (by first | (with_reducible assumption) | assumption)
          obtain ⟨ad103, e103, hx103_0, hx103_1, hx103_2, hx103_3, hx103_4, hx103_5, hx103_6, hx103_7, hx103_8⟩ := at_T69 HR0.out x13_1 p103 q103
          cases e103
          replace hx103_0 := (HB.out.cell (World.block_lt_of_cell? w _ hx103_0)).trans hx103_0
          replace hx103_1 := (HB.out.cell (World.block_lt_of_cell? w _ hx103_1)).trans hx103_1
          replace hx103_2 := (HB.out.cell (World.block_lt_of_cell? w _ hx103_2)).trans hx103_2
          replace hx103_3 := (HB.out.cell (World.block_lt_of_cell? w _ hx103_3)).trans hx103_3
          replace hx103_4 := (HB.out.cell (World.block_lt_of_cell? w _ hx103_4)).trans hx103_4
          replace hx103_5 := (HB.out.cell (World.block_lt_of_cell? w _ hx103_5)).trans hx103_5
          replace hx103_6 := (HB.out.cell (World.block_lt_of_cell? w _ hx103_6)).trans hx103_6
          replace hx103_7 := (HB.out.cell (World.block_lt_of_cell? w _ hx103_7)).trans hx103_7
          replace hx103_8 := (HB.out.cell (World.block_lt_of_cell? w _ hx103_8)).trans hx103_8
          replace p103 := eq_true p103
          replace q103 := eq_true q103
          try go_wp2_with (first | ((with_reducible refine gate_dst (N := 14) rfl ?_); refine box_event ?hg (N := 14) ?hd (cs := #[.int .u16 0, .int .i16 0, .int .u8 0, .int .u16 0, .int .u8 0, .int .u8 0, .int .u8 0, .int .u8 0, .int .u8 0]) (t := 69) ?hr ?_; (case hd => rfl); (case hg => rfl); (case hr => first | (go_simp; done) | (go_simp; rfl)); intro gb104 hg w20 hbox hb; have n0_ := Aside0.mk (Kd.R_below (by (with_reducible repeat (first | apply Kd.R_alloc | apply Kd.R_drewN | apply Kd.R_drew)); exact HO_10.out) hb); have n1_ := Aside0.mk (Kd.R_below (by (with_reducible repeat (first | apply Kd.R_alloc | apply Kd.R_drewN | apply Kd.R_drew)); exact HO_11.out) hb); have n2_ := Aside0.mk (Kd.R_below (by (with_reducible repeat (first | apply Kd.R_alloc | apply Kd.R_drewN | apply Kd.R_drew)); exact HO_103001.out) hb); have n3_ := Aside0.mk (blk_below (g := gb101) (o := .cells #[.int .i64 0, .slice none 0 0, .int .i64 0, .int .i64 0] 37 (0, 0)) (by (with_reducible repeat (first | refine blk_drewN ?_ _ | refine blk_drew ?_ | refine blk_alloc ?_ _)); exact BK101.out) hb); have n4_ := Aside0.mk (blk_below (g := gb102) (o := .cells #[.int .i64 (wrap64 (1 + (wrap64 (a1)))), u103001, .int .i64 (wrap64 ((wrap64 (a2)) * 4)), .int .i64 600] 37 (0, 0)) (by (with_reducible repeat (first | refine blk_drewN ?_ _ | refine blk_drew ?_ | refine blk_alloc ?_ _)); exact BK102.out) hb); have n5_ := Aside0.mk (below_step (by repeat (first | (with_reducible first | exact HB.out | apply below_alloc | apply pw_below_drewN | apply below_drew1 | refine below_set ?_ GE101.out | refine below_set ?_ GE102.out) | exact HB.out)) hb); have n6_ := Aside0.mk (hbox); have n7_ := Aside0.mk ((by rw [hg]; exact (below_size (by repeat (first | (with_reducible first | exact HB.out | apply below_alloc | apply pw_below_drewN | apply below_drew1 | refine below_set ?_ GE101.out | refine below_set ?_ GE102.out) | exact HB.out))) : w.heap.size ≤ gb104)); have n8_ := Aside0.mk ((by rw [hg]; exact (below_size (by repeat (first | (with_reducible first | exact HB.out | apply below_alloc | apply pw_below_drewN | apply below_drew1 | refine below_set ?_ GE101.out | refine below_set ?_ GE102.out) | exact HB.out))) : w.heap.size ≤ gb104)); have n9_ := Aside0.mk ((by rw [hg]; exact Nat.ne_of_lt (blk_lt (g := gb101) (o := .cells #[.int .i64 0, .slice none 0 0, .int .i64 0, .int .i64 0] 37 (0, 0)) (by (with_reducible repeat (first | refine blk_drewN ?_ _ | refine blk_drew ?_ | refine blk_alloc ?_ _)); exact BK101.out)) : gb101 ≠ gb104)); have n10_ := Aside0.mk ((by rw [hg]; exact Nat.ne_of_gt (blk_lt (g := gb101) (o := .cells #[.int .i64 0, .slice none 0 0, .int .i64 0, .int .i64 0] 37 (0, 0)) (by (with_reducible repeat (first | refine blk_drewN ?_ _ | refine blk_drew ?_ | refine blk_alloc ?_ _)); exact BK101.out)) : gb104 ≠ gb101)); have n11_ := Aside0.mk ((by rw [hg]; exact Nat.ne_of_lt (blk_lt (g := gb102) (o := .cells #[.int .i64 (wrap64 (1 + (wrap64 (a1)))), u103001, .int .i64 (wrap64 ((wrap64 (a2)) * 4)), .int .i64 600] 37 (0, 0)) (by (with_reducible repeat (first | refine blk_drewN ?_ _ | refine blk_drew ?_ | refine blk_alloc ?_ _)); exact BK102.out)) : gb102 ≠ gb104)); have n12_ := Aside0.mk ((by rw [hg]; exact Nat.ne_of_gt (blk_lt (g := gb102) (o := .cells #[.int .i64 (wrap64 (1 + (wrap64 (a1)))), u103001, .int .i64 (wrap64 ((wrap64 (a2)) * 4)), .int .i64 600] 37 (0, 0)) (by (with_reducible repeat (first | refine blk_drewN ?_ _ | refine blk_drew ?_ | refine blk_alloc ?_ _)); exact BK102.out)) : gb104 ≠ gb102)); clear HO_10; clear HO_11; clear HO_103001; clear BK101; clear BK102; clear HB; have HO_10 := n0_; have HO_11 := n1_; have HO_103001 := n2_; have BK101 := n3_; have BK102 := n4_; have HB := n5_; have BK104 := n6_; have GW104 := n7_; have GE104 := n8_; have NB101_104 := n9_; have NB104_101 := n10_; have NB102_104 := n11_; have NB104_102 := n12_; clear n0_ n1_ n2_ n3_ n4_ n5_ n6_ n7_ n8_ n9_ n10_ n11_ n12_; clear hb hbox hg; have hnb21 := NB104_101.out; have hnc21 := NB101_104.out; have hnb22 := NB104_102.out; have hnc22 := NB102_104.out; have hcz23_0 : w20.cell? ⟨gb104, 0, none⟩ = some (.int .u16 0) := (blk_cell BK104.out 0).trans rfl; have hcz23_1 : w20.cell? ⟨gb104, 1, none⟩ = some (.int .i16 0) := (blk_cell BK104.out 1).trans rfl; have hcz23_2 : w20.cell? ⟨gb104, 2, none⟩ = some (.int .u8 0) := (blk_cell BK104.out 2).trans rfl; have hcz23_3 : w20.cell? ⟨gb104, 3, none⟩ = some (.int .u16 0) := (blk_cell BK104.out 3).trans rfl; have hcz23_4 : w20.cell? ⟨gb104, 4, none⟩ = some (.int .u8 0) := (blk_cell BK104.out 4).trans rfl; have hcz23_5 : w20.cell? ⟨gb104, 5, none⟩ = some (.int .u8 0) := (blk_cell BK104.out 5).trans rfl; have hcz23_6 : w20.cell? ⟨gb104, 6, none⟩ = some (.int .u8 0) := (blk_cell BK104.out 6).trans rfl; have hcz23_7 : w20.cell? ⟨gb104, 7, none⟩ = some (.int .u8 0) := (blk_cell BK104.out 7).trans rfl; have hcz23_8 : w20.cell? ⟨gb104, 8, none⟩ = some (.int .u8 0) := (blk_cell BK104.out 8).trans rfl; have hfz23_0 := blk_frozen BK104.out 0; have hfz23_1 := blk_frozen BK104.out 1; have hfz23_2 := blk_frozen BK104.out 2; have hfz23_3 := blk_frozen BK104.out 3; have hfz23_4 := blk_frozen BK104.out 4; have hfz23_5 := blk_frozen BK104.out 5; have hfz23_6 := blk_frozen BK104.out 6; have hfz23_7 := blk_frozen BK104.out 7; have hfz23_8 := blk_frozen BK104.out 8; have hnb24 := NB102_101.out; have hnc24 := NB101_102.out; have hcz25_0 : w20.cell? ⟨gb102, 0, none⟩ = some (.int .i64 (wrap64 (1 + (wrap64 (a1))))) := (blk_cell BK102.out 0).trans rfl; have hcz25_1 : w20.cell? ⟨gb102, 1, none⟩ = some (u103001) := (blk_cell BK102.out 1).trans rfl; have hcz25_2 : w20.cell? ⟨gb102, 2, none⟩ = some (.int .i64 (wrap64 ((wrap64 (a2)) * 4))) := (blk_cell BK102.out 2).trans rfl; have hcz25_3 : w20.cell? ⟨gb102, 3, none⟩ = some (.int .i64 600) := (blk_cell BK102.out 3).trans rfl; have hfz25_0 := blk_frozen BK102.out 0; have hfz25_1 := blk_frozen BK102.out 1; have hfz25_2 := blk_frozen BK102.out 2; have hfz25_3 := blk_frozen BK102.out 3) | ((with_reducible refine gate_builtin (b := .append) (xs := #[.tmp 50, .tmp 64]) rfl ?_); at_builtin; refine Kd.R_append k46 (w0 := w) w.heap.size rfl (.tmp 50) (.tmp 64) 35 46 (.agg #[(.int .i64 0), (.int .i64 0), (.int .i64 0), (.int .i64 0)]) 32 rfl Try.underlying35 info46 rfl (by decide) (by omega) u103001 x103001_1 (⟨Int.tmod (wrap64 ((rd_T69 l0 x13_1).f0)) 4096, wrap64 (Int.tdiv (wrap64 ((rd_T69 l0 x13_1).f1)) 4), wrap64 ((rd_T69 l0 x13_1).f2), wrap64 (1 + (wrap64 ((rd_T69 l0 x13_1).f3)))⟩ : S46) [.int .i64 (Int.tmod (wrap64 ((rd_T69 l0 x13_1).f0)) 4096), .int .i64 (wrap64 (Int.tdiv (wrap64 ((rd_T69 l0 x13_1).f1)) 4)), .int .i64 (wrap64 ((rd_T69 l0 x13_1).f2)), .int .i64 (wrap64 (1 + (wrap64 ((rd_T69 l0 x13_1).f3))))] (fun _ => True) (fun _ => False) rfl (by first | (go_simp; done) | (go_simp; rfl)) ?aP (fun _ hk => hk.elim) ?aF ?aO ?aB ?aS ?aL ?_; (case aP => exact k46_mkM _ _ _ (⟨Int.tmod (wrap64 ((rd_T69 l0 x13_1).f0)) 4096, wrap64 (Int.tdiv (wrap64 ((rd_T69 l0 x13_1).f1)) 4), wrap64 ((rd_T69 l0 x13_1).f2), wrap64 (1 + (wrap64 ((rd_T69 l0 x13_1).f3)))⟩ : S46)); (case aB => exact (by repeat (first | (with_reducible first | exact HB.out | apply below_alloc | apply pw_below_drewN | apply below_drew1 | refine below_set ?_ GE101.out | refine below_set ?_ GE102.out | refine below_set ?_ GE104.out) | exact HB.out))); (case aF => exact (fun _ _ => trivial)); (case aO => exact (by (with_reducible repeat (first | apply Kd.R_alloc | apply Kd.R_drewN | apply Kd.R_drew)); exact Kd.R_mono (Kd.R_far (p := ⟨gb104, 8, none⟩) (Kd.R_far (p := ⟨gb104, 7, none⟩) (Kd.R_far (p := ⟨gb104, 6, none⟩) (Kd.R_far (p := ⟨gb104, 5, none⟩) (Kd.R_far (p := ⟨gb104, 4, none⟩) (Kd.R_far (p := ⟨gb104, 3, none⟩) (Kd.R_far (p := ⟨gb104, 2, none⟩) (Kd.R_far (p := ⟨gb104, 1, none⟩) (Kd.R_far (p := ⟨gb104, 0, none⟩) (Kd.R_types HO_103001.out BK104.out (by decide)) (fun _ hk => hk.2) (.int .u16 ((rd_T69 l0 x13_1).f0))) (fun _ hk => hk.2) (.int .i16 ((rd_T69 l0 x13_1).f1))) (fun _ hk => hk.2) (.int .u8 ((rd_T69 l0 x13_1).f2))) (fun _ hk => hk.2) (.int .u16 ((rd_T69 l0 x13_1).f3))) (fun _ hk => hk.2) (.int .u8 ((rd_T69 l0 x13_1).f4))) (fun _ hk => hk.2) (.int .u8 ((rd_T69 l0 x13_1).f5))) (fun _ hk => hk.2) (.int .u8 ((rd_T69 l0 x13_1).f6))) (fun _ hk => hk.2) (.int .u8 ((rd_T69 l0 x13_1).f7))) (fun _ hk => hk.2) (.int .u8 ((rd_T69 l0 x13_1).f8))) (fun _ hk => trivial))); (case aS => exact (below_size (by repeat (first | (with_reducible first | exact HB.out | apply below_alloc | apply pw_below_drewN | apply below_drew1 | refine below_set ?_ GE101.out | refine below_set ?_ GE102.out | refine below_set ?_ GE104.out) | exact HB.out)))); (case aL => have := LMc12.out; omega); intro v106 w26 ho hb hg hat; rw [← Ny105.out] at ho; have n0_ := Aside0.mk (Kd.R_over' (by (with_reducible repeat (first | apply Kd.R_alloc | apply Kd.R_drewN | apply Kd.R_drew)); exact (Kd.R_mono (Kd.R_far (p := ⟨gb104, 8, none⟩) (Kd.R_far (p := ⟨gb104, 7, none⟩) (Kd.R_far (p := ⟨gb104, 6, none⟩) (Kd.R_far (p := ⟨gb104, 5, none⟩) (Kd.R_far (p := ⟨gb104, 4, none⟩) (Kd.R_far (p := ⟨gb104, 3, none⟩) (Kd.R_far (p := ⟨gb104, 2, none⟩) (Kd.R_far (p := ⟨gb104, 1, none⟩) (Kd.R_far (p := ⟨gb104, 0, none⟩) (Kd.R_types HO_10.out BK104.out (by decide)) (fun _ hk => hk.2) (.int .u16 ((rd_T69 l0 x13_1).f0))) (fun _ hk => hk.2) (.int .i16 ((rd_T69 l0 x13_1).f1))) (fun _ hk => hk.2) (.int .u8 ((rd_T69 l0 x13_1).f2))) (fun _ hk => hk.2) (.int .u16 ((rd_T69 l0 x13_1).f3))) (fun _ hk => hk.2) (.int .u8 ((rd_T69 l0 x13_1).f4))) (fun _ hk => hk.2) (.int .u8 ((rd_T69 l0 x13_1).f5))) (fun _ hk => hk.2) (.int .u8 ((rd_T69 l0 x13_1).f6))) (fun _ hk => hk.2) (.int .u8 ((rd_T69 l0 x13_1).f7))) (fun _ hk => hk.2) (.int .u8 ((rd_T69 l0 x13_1).f8))) (fun _ h_ => h_.1))) (Kd.R_typed (by (with_reducible repeat (first | apply Kd.R_alloc | apply Kd.R_drewN | apply Kd.R_drew)); exact (Kd.R_mono (Kd.R_far (p := ⟨gb104, 8, none⟩) (Kd.R_far (p := ⟨gb104, 7, none⟩) (Kd.R_far (p := ⟨gb104, 6, none⟩) (Kd.R_far (p := ⟨gb104, 5, none⟩) (Kd.R_far (p := ⟨gb104, 4, none⟩) (Kd.R_far (p := ⟨gb104, 3, none⟩) (Kd.R_far (p := ⟨gb104, 2, none⟩) (Kd.R_far (p := ⟨gb104, 1, none⟩) (Kd.R_far (p := ⟨gb104, 0, none⟩) (Kd.R_types HO_103001.out BK104.out (by decide)) (fun _ hk => hk.2) (.int .u16 ((rd_T69 l0 x13_1).f0))) (fun _ hk => hk.2) (.int .i16 ((rd_T69 l0 x13_1).f1))) (fun _ hk => hk.2) (.int .u8 ((rd_T69 l0 x13_1).f2))) (fun _ hk => hk.2) (.int .u16 ((rd_T69 l0 x13_1).f3))) (fun _ hk => hk.2) (.int .u8 ((rd_T69 l0 x13_1).f4))) (fun _ hk => hk.2) (.int .u8 ((rd_T69 l0 x13_1).f5))) (fun _ hk => hk.2) (.int .u8 ((rd_T69 l0 x13_1).f6))) (fun _ hk => hk.2) (.int .u8 ((rd_T69 l0 x13_1).f7))) (fun _ hk => hk.2) (.int .u8 ((rd_T69 l0 x13_1).f8))) (fun _ h_ => h_.1)))) (by decide) hg); have n1_ := Aside0.mk (Kd.R_over' (by (with_reducible repeat (first | apply Kd.R_alloc | apply Kd.R_drewN | apply Kd.R_drew)); exact (Kd.R_mono (Kd.R_far (p := ⟨gb104, 8, none⟩) (Kd.R_far (p := ⟨gb104, 7, none⟩) (Kd.R_far (p := ⟨gb104, 6, none⟩) (Kd.R_far (p := ⟨gb104, 5, none⟩) (Kd.R_far (p := ⟨gb104, 4, none⟩) (Kd.R_far (p := ⟨gb104, 3, none⟩) (Kd.R_far (p := ⟨gb104, 2, none⟩) (Kd.R_far (p := ⟨gb104, 1, none⟩) (Kd.R_far (p := ⟨gb104, 0, none⟩) (Kd.R_types HO_11.out BK104.out (by decide)) (fun _ hk => hk.2) (.int .u16 ((rd_T69 l0 x13_1).f0))) (fun _ hk => hk.2) (.int .i16 ((rd_T69 l0 x13_1).f1))) (fun _ hk => hk.2) (.int .u8 ((rd_T69 l0 x13_1).f2))) (fun _ hk => hk.2) (.int .u16 ((rd_T69 l0 x13_1).f3))) (fun _ hk => hk.2) (.int .u8 ((rd_T69 l0 x13_1).f4))) (fun _ hk => hk.2) (.int .u8 ((rd_T69 l0 x13_1).f5))) (fun _ hk => hk.2) (.int .u8 ((rd_T69 l0 x13_1).f6))) (fun _ hk => hk.2) (.int .u8 ((rd_T69 l0 x13_1).f7))) (fun _ hk => hk.2) (.int .u8 ((rd_T69 l0 x13_1).f8))) (fun _ h_ => h_.1))) (Kd.R_typed (by (with_reducible repeat (first | apply Kd.R_alloc | apply Kd.R_drewN | apply Kd.R_drew)); exact (Kd.R_mono (Kd.R_far (p := ⟨gb104, 8, none⟩) (Kd.R_far (p := ⟨gb104, 7, none⟩) (Kd.R_far (p := ⟨gb104, 6, none⟩) (Kd.R_far (p := ⟨gb104, 5, none⟩) (Kd.R_far (p := ⟨gb104, 4, none⟩) (Kd.R_far (p := ⟨gb104, 3, none⟩) (Kd.R_far (p := ⟨gb104, 2, none⟩) (Kd.R_far (p := ⟨gb104, 1, none⟩) (Kd.R_far (p := ⟨gb104, 0, none⟩) (Kd.R_types HO_103001.out BK104.out (by decide)) (fun _ hk => hk.2) (.int .u16 ((rd_T69 l0 x13_1).f0))) (fun _ hk => hk.2) (.int .i16 ((rd_T69 l0 x13_1).f1))) (fun _ hk => hk.2) (.int .u8 ((rd_T69 l0 x13_1).f2))) (fun _ hk => hk.2) (.int .u16 ((rd_T69 l0 x13_1).f3))) (fun _ hk => hk.2) (.int .u8 ((rd_T69 l0 x13_1).f4))) (fun _ hk => hk.2) (.int .u8 ((rd_T69 l0 x13_1).f5))) (fun _ hk => hk.2) (.int .u8 ((rd_T69 l0 x13_1).f6))) (fun _ hk => hk.2) (.int .u8 ((rd_T69 l0 x13_1).f7))) (fun _ hk => hk.2) (.int .u8 ((rd_T69 l0 x13_1).f8))) (fun _ h_ => h_.1)))) (by decide) hg); have n2_ := Aside0.mk (blk_grown (g := gb101) (o := .cells #[.int .i64 0, .slice none 0 0, .int .i64 0, .int .i64 0] 37 (0, 0)) (by (with_reducible repeat (first | refine blk_drewN ?_ _ | refine blk_drew ?_ | refine blk_alloc ?_ _)); refine blk_far ?_ NB101_104.out _; (with_reducible repeat (first | refine blk_drewN ?_ _ | refine blk_drew ?_ | refine blk_alloc ?_ _)); refine blk_far ?_ NB101_104.out _; (with_reducible repeat (first | refine blk_drewN ?_ _ | refine blk_drew ?_ | refine blk_alloc ?_ _)); refine blk_far ?_ NB101_104.out _; (with_reducible repeat (first | refine blk_drewN ?_ _ | refine blk_drew ?_ | refine blk_alloc ?_ _)); refine blk_far ?_ NB101_104.out _; (with_reducible repeat (first | refine blk_drewN ?_ _ | refine blk_drew ?_ | refine blk_alloc ?_ _)); refine blk_far ?_ NB101_104.out _; (with_reducible repeat (first | refine blk_drewN ?_ _ | refine blk_drew ?_ | refine blk_alloc ?_ _)); refine blk_far ?_ NB101_104.out _; (with_reducible repeat (first | refine blk_drewN ?_ _ | refine blk_drew ?_ | refine blk_alloc ?_ _)); refine blk_far ?_ NB101_104.out _; (with_reducible repeat (first | refine blk_drewN ?_ _ | refine blk_drew ?_ | refine blk_alloc ?_ _)); refine blk_far ?_ NB101_104.out _; (with_reducible repeat (first | refine blk_drewN ?_ _ | refine blk_drew ?_ | refine blk_alloc ?_ _)); refine blk_far ?_ NB101_104.out _; (with_reducible repeat (first | refine blk_drewN ?_ _ | refine blk_drew ?_ | refine blk_alloc ?_ _)); exact BK101.out) hg (Kd.R_ne HO_103001.out BK101.out (by decide))); have n3_ := Aside0.mk (blk_grown (g := gb102) (o := .cells #[.int .i64 (wrap64 (1 + (wrap64 (a1)))), u103001, .int .i64 (wrap64 ((wrap64 (a2)) * 4)), .int .i64 600] 37 (0, 0)) (by (with_reducible repeat (first | refine blk_drewN ?_ _ | refine blk_drew ?_ | refine blk_alloc ?_ _)); refine blk_far ?_ NB102_104.out _; (with_reducible repeat (first | refine blk_drewN ?_ _ | refine blk_drew ?_ | refine blk_alloc ?_ _)); refine blk_far ?_ NB102_104.out _; (with_reducible repeat (first | refine blk_drewN ?_ _ | refine blk_drew ?_ | refine blk_alloc ?_ _)); refine blk_far ?_ NB102_104.out _; (with_reducible repeat (first | refine blk_drewN ?_ _ | refine blk_drew ?_ | refine blk_alloc ?_ _)); refine blk_far ?_ NB102_104.out _; (with_reducible repeat (first | refine blk_drewN ?_ _ | refine blk_drew ?_ | refine blk_alloc ?_ _)); refine blk_far ?_ NB102_104.out _; (with_reducible repeat (first | refine blk_drewN ?_ _ | refine blk_drew ?_ | refine blk_alloc ?_ _)); refine blk_far ?_ NB102_104.out _; (with_reducible repeat (first | refine blk_drewN ?_ _ | refine blk_drew ?_ | refine blk_alloc ?_ _)); refine blk_far ?_ NB102_104.out _; (with_reducible repeat (first | refine blk_drewN ?_ _ | refine blk_drew ?_ | refine blk_alloc ?_ _)); refine blk_far ?_ NB102_104.out _; (with_reducible repeat (first | refine blk_drewN ?_ _ | refine blk_drew ?_ | refine blk_alloc ?_ _)); refine blk_far ?_ NB102_104.out _; (with_reducible repeat (first | refine blk_drewN ?_ _ | refine blk_drew ?_ | refine blk_alloc ?_ _)); exact BK102.out) hg (Kd.R_ne HO_103001.out BK102.out (by decide))); have n4_ := Aside0.mk (blk_grown (g := gb104) (o := .cells #[.int .u16 ((rd_T69 l0 x13_1).f0), .int .i16 ((rd_T69 l0 x13_1).f1), .int .u8 ((rd_T69 l0 x13_1).f2), .int .u16 ((rd_T69 l0 x13_1).f3), .int .u8 ((rd_T69 l0 x13_1).f4), .int .u8 ((rd_T69 l0 x13_1).f5), .int .u8 ((rd_T69 l0 x13_1).f6), .int .u8 ((rd_T69 l0 x13_1).f7), .int .u8 ((rd_T69 l0 x13_1).f8)] 69 (0, 0)) (by (with_reducible repeat (first | refine blk_drewN ?_ _ | refine blk_drew ?_ | refine blk_alloc ?_ _)); refine blk_put (cs := #[.int .u16 ((rd_T69 l0 x13_1).f0), .int .i16 ((rd_T69 l0 x13_1).f1), .int .u8 ((rd_T69 l0 x13_1).f2), .int .u16 ((rd_T69 l0 x13_1).f3), .int .u8 ((rd_T69 l0 x13_1).f4), .int .u8 ((rd_T69 l0 x13_1).f5), .int .u8 ((rd_T69 l0 x13_1).f6), .int .u8 ((rd_T69 l0 x13_1).f7), .int .u8 0]) ?_ 8 _ rfl; (with_reducible repeat (first | refine blk_drewN ?_ _ | refine blk_drew ?_ | refine blk_alloc ?_ _)); refine blk_put (cs := #[.int .u16 ((rd_T69 l0 x13_1).f0), .int .i16 ((rd_T69 l0 x13_1).f1), .int .u8 ((rd_T69 l0 x13_1).f2), .int .u16 ((rd_T69 l0 x13_1).f3), .int .u8 ((rd_T69 l0 x13_1).f4), .int .u8 ((rd_T69 l0 x13_1).f5), .int .u8 ((rd_T69 l0 x13_1).f6), .int .u8 0, .int .u8 0]) ?_ 7 _ rfl; (with_reducible repeat (first | refine blk_drewN ?_ _ | refine blk_drew ?_ | refine blk_alloc ?_ _)); refine blk_put (cs := #[.int .u16 ((rd_T69 l0 x13_1).f0), .int .i16 ((rd_T69 l0 x13_1).f1), .int .u8 ((rd_T69 l0 x13_1).f2), .int .u16 ((rd_T69 l0 x13_1).f3), .int .u8 ((rd_T69 l0 x13_1).f4), .int .u8 ((rd_T69 l0 x13_1).f5), .int .u8 0, .int .u8 0, .int .u8 0]) ?_ 6 _ rfl; (with_reducible repeat (first | refine blk_drewN ?_ _ | refine blk_drew ?_ | refine blk_alloc ?_ _)); refine blk_put (cs := #[.int .u16 ((rd_T69 l0 x13_1).f0), .int .i16 ((rd_T69 l0 x13_1).f1), .int .u8 ((rd_T69 l0 x13_1).f2), .int .u16 ((rd_T69 l0 x13_1).f3), .int .u8 ((rd_T69 l0 x13_1).f4), .int .u8 0, .int .u8 0, .int .u8 0, .int .u8 0]) ?_ 5 _ rfl; (with_reducible repeat (first | refine blk_drewN ?_ _ | refine blk_drew ?_ | refine blk_alloc ?_ _)); refine blk_put (cs := #[.int .u16 ((rd_T69 l0 x13_1).f0), .int .i16 ((rd_T69 l0 x13_1).f1), .int .u8 ((rd_T69 l0 x13_1).f2), .int .u16 ((rd_T69 l0 x13_1).f3), .int .u8 0, .int .u8 0, .int .u8 0, .int .u8 0, .int .u8 0]) ?_ 4 _ rfl; (with_reducible repeat (first | refine blk_drewN ?_ _ | refine blk_drew ?_ | refine blk_alloc ?_ _)); refine blk_put (cs := #[.int .u16 ((rd_T69 l0 x13_1).f0), .int .i16 ((rd_T69 l0 x13_1).f1), .int .u8 ((rd_T69 l0 x13_1).f2), .int .u16 0, .int .u8 0, .int .u8 0, .int .u8 0, .int .u8 0, .int .u8 0]) ?_ 3 _ rfl; (with_reducible repeat (first | refine blk_drewN ?_ _ | refine blk_drew ?_ | refine blk_alloc ?_ _)); refine blk_put (cs := #[.int .u16 ((rd_T69 l0 x13_1).f0), .int .i16 ((rd_T69 l0 x13_1).f1), .int .u8 0, .int .u16 0, .int .u8 0, .int .u8 0, .int .u8 0, .int .u8 0, .int .u8 0]) ?_ 2 _ rfl; (with_reducible repeat (first | refine blk_drewN ?_ _ | refine blk_drew ?_ | refine blk_alloc ?_ _)); refine blk_put (cs := #[.int .u16 ((rd_T69 l0 x13_1).f0), .int .i16 0, .int .u8 0, .int .u16 0, .int .u8 0, .int .u8 0, .int .u8 0, .int .u8 0, .int .u8 0]) ?_ 1 _ rfl; (with_reducible repeat (first | refine blk_drewN ?_ _ | refine blk_drew ?_ | refine blk_alloc ?_ _)); refine blk_put (cs := #[.int .u16 0, .int .i16 0, .int .u8 0, .int .u16 0, .int .u8 0, .int .u8 0, .int .u8 0, .int .u8 0, .int .u8 0]) ?_ 0 _ rfl; (with_reducible repeat (first | refine blk_drewN ?_ _ | refine blk_drew ?_ | refine blk_alloc ?_ _)); exact BK104.out) hg (Kd.R_ne HO_103001.out BK104.out (by decide))); have n5_ := Aside0.mk (hb); have n6_ := Aside0.mk (ho); clear HO_10; clear HO_11; clear BK101; clear BK102; clear BK104; clear HB; clear HO_103001; have HO_10 := n0_; have HO_11 := n1_; have BK101 := n2_; have BK102 := n3_; have BK104 := n4_; have HB := n5_; have HO107 := n6_; clear n0_ n1_ n2_ n3_ n4_ n5_ n6_; clear ho hb hg hat; obtain ⟨Ao27, co27, eo27⟩ := Kd.R_slice HO107.out; subst eo27; have hcz28_0 : w26.cell? ⟨gb102, 0, none⟩ = some (.int .i64 (wrap64 (1 + (wrap64 (a1))))) := (blk_cell BK102.out 0).trans rfl; have hcz28_1 : w26.cell? ⟨gb102, 1, none⟩ = some (u103001) := (blk_cell BK102.out 1).trans rfl; have hcz28_2 : w26.cell? ⟨gb102, 2, none⟩ = some (.int .i64 (wrap64 ((wrap64 (a2)) * 4))) := (blk_cell BK102.out 2).trans rfl; have hcz28_3 : w26.cell? ⟨gb102, 3, none⟩ = some (.int .i64 600) := (blk_cell BK102.out 3).trans rfl; have hfz28_0 := blk_frozen BK102.out 0; have hfz28_1 := blk_frozen BK102.out 1; have hfz28_2 := blk_frozen BK102.out 2; have hfz28_3 := blk_frozen BK102.out 3))
          have n0_ : Aside0 (Kd.R k57 57 (w26.setCell ⟨gb102, 1, none⟩ (.slice Ao27 y105.length co27)) w.heap.size (fun _ => True) u10 x10_1) := ⟨by (with_reducible repeat (first | apply Kd.R_alloc | apply Kd.R_drewN | apply Kd.R_drew)); exact Kd.R_mono (Kd.R_far (p := ⟨gb102, 1, none⟩) (Kd.R_types HO_10.out BK102.out (by decide)) (fun _ hk => hk.2) (.slice Ao27 y105.length co27)) (fun _ hk => trivial)⟩
          have n1_ : Aside0 (Kd.R (Kd.int .i64) 2 (w26.setCell ⟨gb102, 1, none⟩ (.slice Ao27 y105.length co27)) w.heap.size (fun _ => True) u11 x11_1) := ⟨by (with_reducible repeat (first | apply Kd.R_alloc | apply Kd.R_drewN | apply Kd.R_drew)); exact Kd.R_mono (Kd.R_far (p := ⟨gb102, 1, none⟩) (Kd.R_types HO_11.out BK102.out (by decide)) (fun _ hk => hk.2) (.slice Ao27 y105.length co27)) (fun _ hk => trivial)⟩
          have n2_ : Aside0 (Kd.R k46 46 (w26.setCell ⟨gb102, 1, none⟩ (.slice Ao27 y105.length co27)) w.heap.size (fun _ => True) (.slice Ao27 y105.length co27) y105) := ⟨by (with_reducible repeat (first | apply Kd.R_alloc | apply Kd.R_drewN | apply Kd.R_drew)); exact Kd.R_mono (Kd.R_far (p := ⟨gb102, 1, none⟩) (Kd.R_types HO107.out BK102.out (by decide)) (fun _ hk => hk.2) (.slice Ao27 y105.length co27)) (fun _ hk => trivial)⟩
          have n3_ : Aside0 ((w26.setCell ⟨gb102, 1, none⟩ (.slice Ao27 y105.length co27)).heap[gb101]? = some (.cells #[.int .i64 0, .slice none 0 0, .int .i64 0, .int .i64 0] 37 (0, 0))) := ⟨by (with_reducible repeat (first | refine blk_drewN ?_ _ | refine blk_drew ?_ | refine blk_alloc ?_ _)); refine blk_far ?_ NB101_102.out _; (with_reducible repeat (first | refine blk_drewN ?_ _ | refine blk_drew ?_ | refine blk_alloc ?_ _)); exact BK101.out⟩
          have n4_ : Aside0 ((w26.setCell ⟨gb102, 1, none⟩ (.slice Ao27 y105.length co27)).heap[gb102]? = some (.cells #[.int .i64 (wrap64 (1 + (wrap64 (a1)))), .slice Ao27 y105.length co27, .int .i64 (wrap64 ((wrap64 (a2)) * 4)), .int .i64 600] 37 (0, 0))) := ⟨by (with_reducible repeat (first | refine blk_drewN ?_ _ | refine blk_drew ?_ | refine blk_alloc ?_ _)); refine blk_put (cs := #[.int .i64 (wrap64 (1 + (wrap64 (a1)))), u103001, .int .i64 (wrap64 ((wrap64 (a2)) * 4)), .int .i64 600]) ?_ 1 _ rfl; (with_reducible repeat (first | refine blk_drewN ?_ _ | refine blk_drew ?_ | refine blk_alloc ?_ _)); exact BK102.out⟩
          have n5_ : Aside0 ((w26.setCell ⟨gb102, 1, none⟩ (.slice Ao27 y105.length co27)).heap[gb104]? = some (.cells #[.int .u16 ((rd_T69 l0 x13_1).f0), .int .i16 ((rd_T69 l0 x13_1).f1), .int .u8 ((rd_T69 l0 x13_1).f2), .int .u16 ((rd_T69 l0 x13_1).f3), .int .u8 ((rd_T69 l0 x13_1).f4), .int .u8 ((rd_T69 l0 x13_1).f5), .int .u8 ((rd_T69 l0 x13_1).f6), .int .u8 ((rd_T69 l0 x13_1).f7), .int .u8 ((rd_T69 l0 x13_1).f8)] 69 (0, 0))) := ⟨by (with_reducible repeat (first | refine blk_drewN ?_ _ | refine blk_drew ?_ | refine blk_alloc ?_ _)); refine blk_far ?_ NB104_102.out _; (with_reducible repeat (first | refine blk_drewN ?_ _ | refine blk_drew ?_ | refine blk_alloc ?_ _)); exact BK104.out⟩
          have n6_ : Aside0 (Below w.heap.size w (w26.setCell ⟨gb102, 1, none⟩ (.slice Ao27 y105.length co27))) := ⟨by repeat (first | (with_reducible first | exact HB.out | apply below_alloc | apply pw_below_drewN | apply below_drew1 | refine below_set ?_ GE101.out | refine below_set ?_ GE102.out | refine below_set ?_ GE104.out) | exact HB.out)⟩
          (try clear HO_10)
          (try clear HO_11)
          (try clear HO107)
          (try clear BK101)
          (try clear BK102)
          (try clear BK104)
          (try clear HB)
          generalize (w26.setCell ⟨gb102, 1, none⟩ (.slice Ao27 y105.length co27)) = w29 at n0_ n1_ n2_ n3_ n4_ n5_ n6_ ⊢
          have HO_10 := n0_
          have HO_11 := n1_
          have HO107 := n2_
          have BK101 := n3_
          have BK102 := n4_
          have BK104 := n5_
          have HB := n6_
          clear n0_ n1_ n2_ n3_ n4_ n5_ n6_
          have n0_ := Aside0.mk (Kd.R_drew HO_10.out)
          have n1_ := Aside0.mk (Kd.R_drew HO_11.out)
          have n2_ := Aside0.mk (Kd.R_drew HO107.out)
          have n3_ := Aside0.mk (blk_drew BK101.out)
          have n4_ := Aside0.mk (blk_drew BK102.out)
          have n5_ := Aside0.mk (blk_drew BK104.out)
          have n6_ := Aside0.mk (below_drew1 HB.out)
          clear HO_10
          clear HO_11
          clear HO107
          clear BK101
          clear BK102
          clear BK104
          clear HB
          have HO_10 := n0_
          have HO_11 := n1_
          have HO107 := n2_
          have BK101 := n3_
          have BK102 := n4_
          have BK104 := n5_
          have HB := n6_
          clear n0_ n1_ n2_ n3_ n4_ n5_ n6_
          refine start_ (n := 10) (S := fun w' => w'.cell? ⟨gb104, 0, none⟩ = some (.int .u16 ((rd_T69 l0 x13_1).f0)) ∧ w'.cell? ⟨gb104, 1, none⟩ = some (.int .i16 ((rd_T69 l0 x13_1).f1)) ∧ w'.cell? ⟨gb104, 2, none⟩ = some (.int .u8 ((rd_T69 l0 x13_1).f2)) ∧ w'.cell? ⟨gb104, 3, none⟩ = some (.int .u16 ((rd_T69 l0 x13_1).f3)) ∧ w'.cell? ⟨gb104, 4, none⟩ = some (.int .u8 ((rd_T69 l0 x13_1).f4)) ∧ w'.cell? ⟨gb104, 5, none⟩ = some (.int .u8 ((rd_T69 l0 x13_1).f5)) ∧ w'.cell? ⟨gb104, 6, none⟩ = some (.int .u8 ((rd_T69 l0 x13_1).f6)) ∧ w'.cell? ⟨gb104, 7, none⟩ = some (.int .u8 ((rd_T69 l0 x13_1).f7)) ∧ w'.cell? ⟨gb104, 8, none⟩ = some (.int .u8 ((rd_T69 l0 x13_1).f8))) (ds := []) #[false, false, false, false, false, false, false, false, false, false] (by kernel_rfl) rfl rfl ⟨(blk_cell BK104.out 0).trans rfl, (blk_cell BK104.out 1).trans rfl, (blk_cell BK104.out 2).trans rfl, (blk_cell BK104.out 3).trans rfl, (blk_cell BK104.out 4).trans rfl, (blk_cell BK104.out 5).trans rfl, (blk_cell BK104.out 6).trans rfl, (blk_cell BK104.out 7).trans rfl, (blk_cell BK104.out 8).trans rfl⟩ (fun hHeld => ?_); refine with_tabW isobathlaw02_rig.tab12 isobathlaw02_rig.bits12 (fun HT_ HW_ => ?_)
          generalize w29.drew = w30 at HO_10 HO_11 HO107 BK101 BK102 BK104 HB hHeld ⊢
          refine pure_ (i := 0) (N := some 67) (v := ?_) (a' := ?_) #[true, false, false, false, false, false, false, false, false, false] rfl rfl (any_of HT_.out (by kernel_rfl)) (fun _ _ _ h => h) (Or.inl ⟨by rfl, ?_⟩) ?_ ?_
          rotate_left
          ·intro w'
           go_simp
           with_reducible rfl
          rotate_left
          ·simp only [Act.put, List.setIfInBounds_toArray, List.set_cons_zero, List.set_cons_succ, i64_w, i32_w]
           rfl
          refine pure_ (i := 4) (N := some 71) (v := ?_) (a' := ?_) #[true, false, false, false, true, false, false, false, false, false] rfl rfl (any_of HT_.out (by kernel_rfl)) (fun _ _ _ h => h) (Or.inl ⟨by rfl, ?_⟩) ?_ ?_
          rotate_left
          ·intro w'
           go_simp
           with_reducible rfl
          rotate_left
          ·simp only [Act.put, List.setIfInBounds_toArray, List.set_cons_zero, List.set_cons_succ, i64_w, i32_w]
           rfl
          refine take_ (i := 1) (N := some 68) (v := ?_) (a' := ?_) #[true, true, false, false, true, false, false, false, false, false] rfl rfl (take_ofW HT_.out HW_.out (by kernel_rfl)) (fun _ _ _ h => h) (Or.inl ⟨by rfl, ?_⟩) hHeld ?_ ?_
          rotate_left
          ·rintro w' ⟨s0, s1, s2, s3, s4, s5, s6, s7, s8⟩
           go_simp
           with_reducible rfl
          rotate_left
          ·simp only [Act.put, List.setIfInBounds_toArray, List.set_cons_zero, List.set_cons_succ, i64_w, i32_w]
           rfl
          refine pure_ (i := 2) (N := some 69) (v := ?_) (a' := ?_) #[true, true, true, false, true, false, false, false, false, false] rfl rfl (any_of HT_.out (by kernel_rfl)) (fun _ _ _ h => h) (Or.inl ⟨by rfl, ?_⟩) ?_ ?_
          rotate_left
          ·intro w'
           go_simp
           with_reducible rfl
          rotate_left
          ·simp only [Act.put, List.setIfInBounds_toArray, List.set_cons_zero, List.set_cons_succ, i64_w, i32_w]
           rfl
          refine pure_ (i := 3) (N := some 70) (v := ?_) (a' := ?_) #[true, true, true, true, true, false, false, false, false, false] rfl rfl (any_of HT_.out (by kernel_rfl)) (fun _ _ _ h => h) (Or.inl ⟨by rfl, ?_⟩) ?_ ?_
          rotate_left
          ·intro w'
           go_simp
           with_reducible rfl
          rotate_left
          ·simp only [Act.put, List.setIfInBounds_toArray, List.set_cons_zero, List.set_cons_succ, i64_w, i32_w]
           rfl
          refine pure_ (i := 8) (N := some 16) (v := ?_) (a' := ?_) #[true, true, true, true, true, false, false, false, true, false] rfl rfl (any_of HT_.out (by kernel_rfl)) (fun _ _ _ h => h) (Or.inl ⟨by rfl, ?_⟩) ?_ ?_
          rotate_left
          ·intro w'
           go_simp
           with_reducible rfl
          rotate_left
          ·simp only [Act.put, List.setIfInBounds_toArray, List.set_cons_zero, List.set_cons_succ, i64_w, i32_w]
           rfl
          refine take_ (i := 5) (N := some 72) (v := ?_) (a' := ?_) #[true, true, true, true, true, true, false, false, true, false] rfl rfl (take_ofW HT_.out HW_.out (by kernel_rfl)) (fun _ _ _ h => h) (Or.inl ⟨by rfl, ?_⟩) hHeld ?_ ?_
          rotate_left
          ·rintro w' ⟨s0, s1, s2, s3, s4, s5, s6, s7, s8⟩
           go_simp
           with_reducible rfl
          rotate_left
          ·simp only [Act.put, List.setIfInBounds_toArray, List.set_cons_zero, List.set_cons_succ, i64_w, i32_w]
           rfl
          refine pure_ (i := 6) (N := some 73) (v := ?_) (a' := ?_) #[true, true, true, true, true, true, true, false, true, false] rfl rfl (any_of HT_.out (by kernel_rfl)) (fun _ _ _ h => h) (Or.inl ⟨by rfl, ?_⟩) ?_ ?_
          rotate_left
          ·intro w'
           go_simp
           with_reducible rfl
          rotate_left
          ·simp only [Act.put, List.setIfInBounds_toArray, List.set_cons_zero, List.set_cons_succ, i64_w, i32_w]
           rfl
          refine pure_ (i := 7) (N := some 74) (v := ?_) (a' := ?_) #[true, true, true, true, true, true, true, true, true, false] rfl rfl (any_of HT_.out (by kernel_rfl)) (fun _ _ _ h => h) (Or.inl ⟨by rfl, ?_⟩) ?_ ?_
          rotate_left
          ·intro w'
           go_simp
           with_reducible rfl
          rotate_left
          ·simp only [Act.put, List.setIfInBounds_toArray, List.set_cons_zero, List.set_cons_succ, i64_w, i32_w]
           rfl
          refine pure_ (i := 9) (N := some 17) (v := ?_) (a' := ?_) #[true, true, true, true, true, true, true, true, true, true] rfl rfl (any_of HT_.out (by kernel_rfl)) (fun _ _ _ h => h) (Or.inl ⟨by rfl, ?_⟩) ?_ ?_
          rotate_left
          ·intro w'
           go_simp
           with_reducible rfl
          rotate_left
          ·simp only [Act.put, List.setIfInBounds_toArray, List.set_cons_zero, List.set_cons_succ, i64_w, i32_w]
           rfl
          refine done_ (done_of HT_.out (by kernel_rfl)) ?_
          have hcz31_0 : w30.cell? ⟨gb104, 0, none⟩ = some (.int .u16 ((rd_T69 l0 x13_1).f0)) := (blk_cell BK104.out 0).trans rfl
          have hcz31_1 : w30.cell? ⟨gb104, 1, none⟩ = some (.int .i16 ((rd_T69 l0 x13_1).f1)) := (blk_cell BK104.out 1).trans rfl
          have hcz31_2 : w30.cell? ⟨gb104, 2, none⟩ = some (.int .u8 ((rd_T69 l0 x13_1).f2)) := (blk_cell BK104.out 2).trans rfl
          have hcz31_3 : w30.cell? ⟨gb104, 3, none⟩ = some (.int .u16 ((rd_T69 l0 x13_1).f3)) := (blk_cell BK104.out 3).trans rfl
          have hcz31_4 : w30.cell? ⟨gb104, 4, none⟩ = some (.int .u8 ((rd_T69 l0 x13_1).f4)) := (blk_cell BK104.out 4).trans rfl
          have hcz31_5 : w30.cell? ⟨gb104, 5, none⟩ = some (.int .u8 ((rd_T69 l0 x13_1).f5)) := (blk_cell BK104.out 5).trans rfl
          have hcz31_6 : w30.cell? ⟨gb104, 6, none⟩ = some (.int .u8 ((rd_T69 l0 x13_1).f6)) := (blk_cell BK104.out 6).trans rfl
          have hcz31_7 : w30.cell? ⟨gb104, 7, none⟩ = some (.int .u8 ((rd_T69 l0 x13_1).f7)) := (blk_cell BK104.out 7).trans rfl
          have hcz31_8 : w30.cell? ⟨gb104, 8, none⟩ = some (.int .u8 ((rd_T69 l0 x13_1).f8)) := (blk_cell BK104.out 8).trans rfl
          have hfz31_0 := blk_frozen BK104.out 0
          have hfz31_1 := blk_frozen BK104.out 1
          have hfz31_2 := blk_frozen BK104.out 2
          have hfz31_3 := blk_frozen BK104.out 3
          have hfz31_4 := blk_frozen BK104.out 4
          have hfz31_5 := blk_frozen BK104.out 5
          have hfz31_6 := blk_frozen BK104.out 6
          have hfz31_7 := blk_frozen BK104.out 7
          have hfz31_8 := blk_frozen BK104.out 8
          try go_wp2_with (first | ((with_reducible refine gate_builtin (b := .append) (xs := #[.tmp 81, .tmp 92]) rfl ?_); at_builtin; refine Kd.R_append (Kd.int .i64) (w0 := w) w.heap.size rfl (.tmp 81) (.tmp 92) 42 2 (.int .i64 0) 8 rfl Try.underlying42 info2 rfl (by decide) (by omega) u11 x11_1 (wrap64 ((ji13) + (Int.tmod (wrap64 ((rd_T69 l0 x13_1).f6)) (wrap64 ((wrap64 ((ji14) - (ji13))) + 1))))) [.int .i64 (wrap64 ((ji13) + (Int.tmod (wrap64 ((rd_T69 l0 x13_1).f6)) (wrap64 ((wrap64 ((ji14) - (ji13))) + 1)))))] (fun _ => True) (fun _ => False) rfl rfl ?aP (fun _ hk => hk.elim) ?aF ?aO ?aB ?aS ?aL ?_; (case aP => exact rfl); (case aB => exact (by repeat (first | (with_reducible first | exact HB.out | apply below_alloc | apply pw_below_drewN | apply below_drew1 | refine below_set ?_ GE101.out | refine below_set ?_ GE102.out | refine below_set ?_ GE104.out) | exact HB.out))); (case aF => exact (fun _ _ => trivial)); (case aO => exact (by (with_reducible repeat (first | apply Kd.R_alloc | apply Kd.R_drewN | apply Kd.R_drew)); exact HO_11.out)); (case aS => exact (below_size (by repeat (first | (with_reducible first | exact HB.out | apply below_alloc | apply pw_below_drewN | apply below_drew1 | refine below_set ?_ GE101.out | refine below_set ?_ GE102.out | refine below_set ?_ GE104.out) | exact HB.out)))); (case aL => have := LMc16.out; omega); intro v109 w32 ho hb hg hat; rw [← Ny108.out] at ho; have n0_ := Aside0.mk (Kd.R_over' (by (with_reducible repeat (first | apply Kd.R_alloc | apply Kd.R_drewN | apply Kd.R_drew)); exact HO_10.out) (Kd.R_typed (by (with_reducible repeat (first | apply Kd.R_alloc | apply Kd.R_drewN | apply Kd.R_drew)); exact HO_11.out)) (by decide) hg); have n1_ := Aside0.mk (blk_grown (g := gb101) (o := .cells #[.int .i64 0, .slice none 0 0, .int .i64 0, .int .i64 0] 37 (0, 0)) (by (with_reducible repeat (first | refine blk_drewN ?_ _ | refine blk_drew ?_ | refine blk_alloc ?_ _)); exact BK101.out) hg (Kd.R_ne HO_11.out BK101.out (by decide))); have n2_ := Aside0.mk (blk_grown (g := gb102) (o := .cells #[.int .i64 (wrap64 (1 + (wrap64 (a1)))), .slice Ao27 y105.length co27, .int .i64 (wrap64 ((wrap64 (a2)) * 4)), .int .i64 600] 37 (0, 0)) (by (with_reducible repeat (first | refine blk_drewN ?_ _ | refine blk_drew ?_ | refine blk_alloc ?_ _)); exact BK102.out) hg (Kd.R_ne HO_11.out BK102.out (by decide))); have n3_ := Aside0.mk (blk_grown (g := gb104) (o := .cells #[.int .u16 ((rd_T69 l0 x13_1).f0), .int .i16 ((rd_T69 l0 x13_1).f1), .int .u8 ((rd_T69 l0 x13_1).f2), .int .u16 ((rd_T69 l0 x13_1).f3), .int .u8 ((rd_T69 l0 x13_1).f4), .int .u8 ((rd_T69 l0 x13_1).f5), .int .u8 ((rd_T69 l0 x13_1).f6), .int .u8 ((rd_T69 l0 x13_1).f7), .int .u8 ((rd_T69 l0 x13_1).f8)] 69 (0, 0)) (by (with_reducible repeat (first | refine blk_drewN ?_ _ | refine blk_drew ?_ | refine blk_alloc ?_ _)); exact BK104.out) hg (Kd.R_ne HO_11.out BK104.out (by decide))); have n4_ := Aside0.mk (Kd.R_over' (by (with_reducible repeat (first | apply Kd.R_alloc | apply Kd.R_drewN | apply Kd.R_drew)); exact HO107.out) (Kd.R_typed (by (with_reducible repeat (first | apply Kd.R_alloc | apply Kd.R_drewN | apply Kd.R_drew)); exact HO_11.out)) (by decide) hg); have n5_ := Aside0.mk (hb); have n6_ := Aside0.mk (ho); clear HO_10; clear BK101; clear BK102; clear BK104; clear HO107; clear HB; clear HO_11; have HO_10 := n0_; have BK101 := n1_; have BK102 := n2_; have BK104 := n3_; have HO107 := n4_; have HB := n5_; have HO110 := n6_; clear n0_ n1_ n2_ n3_ n4_ n5_ n6_; clear ho hb hg hat; have hcz33_0 : w32.cell? ⟨gb104, 0, none⟩ = some (.int .u16 ((rd_T69 l0 x13_1).f0)) := (blk_cell BK104.out 0).trans rfl; have hcz33_1 : w32.cell? ⟨gb104, 1, none⟩ = some (.int .i16 ((rd_T69 l0 x13_1).f1)) := (blk_cell BK104.out 1).trans rfl; have hcz33_2 : w32.cell? ⟨gb104, 2, none⟩ = some (.int .u8 ((rd_T69 l0 x13_1).f2)) := (blk_cell BK104.out 2).trans rfl; have hcz33_3 : w32.cell? ⟨gb104, 3, none⟩ = some (.int .u16 ((rd_T69 l0 x13_1).f3)) := (blk_cell BK104.out 3).trans rfl; have hcz33_4 : w32.cell? ⟨gb104, 4, none⟩ = some (.int .u8 ((rd_T69 l0 x13_1).f4)) := (blk_cell BK104.out 4).trans rfl; have hcz33_5 : w32.cell? ⟨gb104, 5, none⟩ = some (.int .u8 ((rd_T69 l0 x13_1).f5)) := (blk_cell BK104.out 5).trans rfl; have hcz33_6 : w32.cell? ⟨gb104, 6, none⟩ = some (.int .u8 ((rd_T69 l0 x13_1).f6)) := (blk_cell BK104.out 6).trans rfl; have hcz33_7 : w32.cell? ⟨gb104, 7, none⟩ = some (.int .u8 ((rd_T69 l0 x13_1).f7)) := (blk_cell BK104.out 7).trans rfl; have hcz33_8 : w32.cell? ⟨gb104, 8, none⟩ = some (.int .u8 ((rd_T69 l0 x13_1).f8)) := (blk_cell BK104.out 8).trans rfl; have hfz33_0 := blk_frozen BK104.out 0; have hfz33_1 := blk_frozen BK104.out 1; have hfz33_2 := blk_frozen BK104.out 2; have hfz33_3 := blk_frozen BK104.out 3; have hfz33_4 := blk_frozen BK104.out 4; have hfz33_5 := blk_frozen BK104.out 5; have hfz33_6 := blk_frozen BK104.out 6; have hfz33_7 := blk_frozen BK104.out 7; have hfz33_8 := blk_frozen BK104.out 8) | ((with_reducible refine gate_builtin (b := .append) (xs := #[.tmp 98, .tmp 110]) rfl ?_); at_builtin; refine Kd.R_append k57 (w0 := w) w.heap.size rfl (.tmp 98) (.tmp 110) 48 57 (.agg #[(.int .i64 0), (.int .i64 0)]) 16 rfl Try.underlying48 info57 rfl (by decide) (by omega) u10 x10_1 (⟨ji17, ji18⟩ : S57) [.int .i64 ji17, .int .i64 ji18] (fun _ => True) (fun _ => False) rfl rfl ?aP (fun _ hk => hk.elim) ?aF ?aO ?aB ?aS ?aL ?_; (case aP => exact k57_mkM _ _ _ (⟨ji17, ji18⟩ : S57)); (case aB => exact (by repeat (first | (with_reducible first | exact HB.out | apply below_alloc | apply pw_below_drewN | apply below_drew1 | refine below_set ?_ GE101.out | refine below_set ?_ GE102.out | refine below_set ?_ GE104.out) | exact HB.out))); (case aF => exact (fun _ _ => trivial)); (case aO => exact (by (with_reducible repeat (first | apply Kd.R_alloc | apply Kd.R_drewN | apply Kd.R_drew)); exact HO_10.out)); (case aS => exact (below_size (by repeat (first | (with_reducible first | exact HB.out | apply below_alloc | apply pw_below_drewN | apply below_drew1 | refine below_set ?_ GE101.out | refine below_set ?_ GE102.out | refine below_set ?_ GE104.out) | exact HB.out)))); (case aL => have := LMc19.out; omega); intro v112 w34 ho hb hg hat; rw [← Ny111.out] at ho; have n0_ := Aside0.mk (blk_grown (g := gb101) (o := .cells #[.int .i64 0, .slice none 0 0, .int .i64 0, .int .i64 0] 37 (0, 0)) (by (with_reducible repeat (first | refine blk_drewN ?_ _ | refine blk_drew ?_ | refine blk_alloc ?_ _)); exact BK101.out) hg (Kd.R_ne HO_10.out BK101.out (by decide))); have n1_ := Aside0.mk (blk_grown (g := gb102) (o := .cells #[.int .i64 (wrap64 (1 + (wrap64 (a1)))), .slice Ao27 y105.length co27, .int .i64 (wrap64 ((wrap64 (a2)) * 4)), .int .i64 600] 37 (0, 0)) (by (with_reducible repeat (first | refine blk_drewN ?_ _ | refine blk_drew ?_ | refine blk_alloc ?_ _)); exact BK102.out) hg (Kd.R_ne HO_10.out BK102.out (by decide))); have n2_ := Aside0.mk (blk_grown (g := gb104) (o := .cells #[.int .u16 ((rd_T69 l0 x13_1).f0), .int .i16 ((rd_T69 l0 x13_1).f1), .int .u8 ((rd_T69 l0 x13_1).f2), .int .u16 ((rd_T69 l0 x13_1).f3), .int .u8 ((rd_T69 l0 x13_1).f4), .int .u8 ((rd_T69 l0 x13_1).f5), .int .u8 ((rd_T69 l0 x13_1).f6), .int .u8 ((rd_T69 l0 x13_1).f7), .int .u8 ((rd_T69 l0 x13_1).f8)] 69 (0, 0)) (by (with_reducible repeat (first | refine blk_drewN ?_ _ | refine blk_drew ?_ | refine blk_alloc ?_ _)); exact BK104.out) hg (Kd.R_ne HO_10.out BK104.out (by decide))); have n3_ := Aside0.mk (Kd.R_over' (by (with_reducible repeat (first | apply Kd.R_alloc | apply Kd.R_drewN | apply Kd.R_drew)); exact HO107.out) (Kd.R_typed (by (with_reducible repeat (first | apply Kd.R_alloc | apply Kd.R_drewN | apply Kd.R_drew)); exact HO_10.out)) (by decide) hg); have n4_ := Aside0.mk (Kd.R_over' (by (with_reducible repeat (first | apply Kd.R_alloc | apply Kd.R_drewN | apply Kd.R_drew)); exact HO110.out) (Kd.R_typed (by (with_reducible repeat (first | apply Kd.R_alloc | apply Kd.R_drewN | apply Kd.R_drew)); exact HO_10.out)) (by decide) hg); have n5_ := Aside0.mk (hb); have n6_ := Aside0.mk (ho); clear BK101; clear BK102; clear BK104; clear HO107; clear HO110; clear HB; clear HO_10; have BK101 := n0_; have BK102 := n1_; have BK104 := n2_; have HO107 := n3_; have HO110 := n4_; have HB := n5_; have HO113 := n6_; clear n0_ n1_ n2_ n3_ n4_ n5_ n6_; clear ho hb hg hat))
          go_roundg k1
          case measure => have := HK1.out; omega
          case rel => exact ⟨(y111), (y108), (wrap64 (x12_1 + (ji11))), (wrap64 (x13_1 + 1)), (y105), (.slice Ao27 y105.length co27), (by first | rfl | (simp; done) | (simp only [← hji11] <;> (first | rfl | simp)) | (simp [*]; done)), (by first | rfl | (simp; done) | (simp [*]; done)), H', ⟨by have := HK1.out; omega⟩, ⟨by (with_reducible repeat (first | apply Kd.R_alloc | apply Kd.R_drewN | apply Kd.R_drew)); exact HO113.out⟩, ⟨by (with_reducible repeat (first | apply Kd.R_alloc | apply Kd.R_drewN | apply Kd.R_drew)); exact HO110.out⟩, ⟨by (with_reducible repeat (first | apply Kd.R_alloc | apply Kd.R_drewN | apply Kd.R_drew)); exact HO107.out⟩, ⟨by (with_reducible repeat (first | refine blk_drewN ?_ _ | refine blk_drew ?_ | refine blk_alloc ?_ _)); exact BK101.out⟩, ⟨by (with_reducible repeat (first | refine blk_drewN ?_ _ | refine blk_drew ?_ | refine blk_alloc ?_ _)); exact BK102.out⟩, ⟨by repeat (first | (with_reducible first | exact HB.out | apply below_alloc | apply pw_below_drewN | apply below_drew1 | refine below_set ?_ GE101.out | refine below_set ?_ GE102.out | refine below_set ?_ GE104.out) | exact HB.out)⟩⟩
         ·rw [if_neg c19] at H
          exact absurd H (by simp)
        ·rw [if_neg c16] at H
         exact absurd H (by simp)
      ·rw [if_neg c12] at H
       exact absurd H (by simp)
     ·rw [if_neg c10] at H
      exact absurd H (by simp)
    ·rw [if_neg c9] at H
     have c9b0 : decide (x13_1 < 8) = false := decide_eq_false c9
     clear c9
     by_cases c35 : (x103001_1.length : Int) > 0
     ·rw [if_pos c35] at H
      have c35b0 : decide (0 < (x103001_1.length : Int)) = true := decide_eq_true c35
      have c35b1 : decide (0 < x103001_1.length) = true := decide_eq_true (by omega)
      clear c35
      by_cases c36 : 0 < (x103001_1.length : Int)
      ·rw [if_pos c36] at H
       have c36b0 : decide (0 < (x103001_1.length : Int)) = true := decide_eq_true c36
       have c36b1 : decide (0 < x103001_1.length) = true := decide_eq_true (by omega)
       clear c36
       obtain ⟨y115, hy115⟩ : ∃ y_ : List (S46), y_ = (x103001_1.set (0 : Int).toNat (⟨(rd_T46 x103001_1 0).f0, wrap64 (((rd_T46 x103001_1 0).f1) + x12_1), (rd_T46 x103001_1 0).f2, (rd_T46 x103001_1 0).f3⟩ : S46)) := ⟨_, rfl⟩
       replace H : (some ((wrap64 (1 + (wrap64 (a1)))), y115, (wrap64 ((wrap64 (a2)) * 4)), 600, x10_1, x11_1)) = some (r1, r2, r3, r4, r5, r6) := by first | (rw [hy115]; with_reducible exact H) | (have H2_ := (Option.bind_some _ _).symm.trans H; rw [hy115]; with_reducible exact H2_) | (have H2_ := (Option.bind_some _ _).symm.trans H; with_reducible exact H2_) | with_reducible exact H | (rw [hy115]; exact H) | exact H
       have Ny115 := Aside0.mk hy115
       clear hy115
       simp only [Option.some.injEq, Prod.mk.injEq] at H
       obtain ⟨rfl, rfl, rfl, rfl, rfl, rfl⟩ := H
       have hnb38 := NB102_101.out
       have hnc38 := NB101_102.out
       have hcz39_0 : wr.cell? ⟨gb102, 0, none⟩ = some (.int .i64 (wrap64 (1 + (wrap64 (a1))))) := (blk_cell BK102.out 0).trans rfl
       have hcz39_1 : wr.cell? ⟨gb102, 1, none⟩ = some (u103001) := (blk_cell BK102.out 1).trans rfl
       have hcz39_2 : wr.cell? ⟨gb102, 2, none⟩ = some (.int .i64 (wrap64 ((wrap64 (a2)) * 4))) := (blk_cell BK102.out 2).trans rfl
       have hcz39_3 : wr.cell? ⟨gb102, 3, none⟩ = some (.int .i64 600) := (blk_cell BK102.out 3).trans rfl
       have hfz39_0 := blk_frozen BK102.out 0
       have hfz39_1 := blk_frozen BK102.out 1
       have hfz39_2 := blk_frozen BK102.out 2
       have hfz39_3 := blk_frozen BK102.out 3
       obtain ⟨Ao40, co40, eo40⟩ := Kd.R_slice HO_103001.out
       subst eo40
       try go_wp2
       have n0_ := Aside0.mk (Kd.R_drew HO_10.out)
       have n1_ := Aside0.mk (Kd.R_drew HO_11.out)
       have n2_ := Aside0.mk (Kd.R_drew HO_103001.out)
       have n3_ := Aside0.mk (blk_drew BK101.out)
       have n4_ := Aside0.mk (blk_drew BK102.out)
       have n5_ := Aside0.mk (below_drew1 HB.out)
       clear HO_10
       clear HO_11
       clear HO_103001
       clear BK101
       clear BK102
       clear HB
       have HO_10 := n0_
       have HO_11 := n1_
       have HO_103001 := n2_
       have BK101 := n3_
       have BK102 := n4_
       have HB := n5_
       clear n0_ n1_ n2_ n3_ n4_ n5_
       have p114 : 0 ≤ (0 : Int) := (by omega)
       have q114 : 0 < (x103001_1.length : Int) := of_decide_eq_true (by first | (with_reducible assumption) | assumption)
       obtain ⟨ad114, e114, hx114_0, hx114_1, hx114_2, hx114_3⟩ := at_T46 (Kd.R_reads' HO_103001.out).2.2 0 p114 q114
       cases e114
       have qi114 : (0 < x103001_1.length) = True := eq_true (by omega)
       (try rw [show ((0 : Int)).toNat = 0 from rfl] at hx114_0)
       (try rw [show 0 * 4 = 0 from rfl] at hx114_0)
       (try rw [Addr.add_zero'] at hx114_0)
       (try rw [show ((0 : Int)).toNat = 0 from rfl] at hx114_1)
       (try rw [show 0 * 4 = 0 from rfl] at hx114_1)
       (try rw [Addr.add_zero'] at hx114_1)
       (try rw [show ((0 : Int)).toNat = 0 from rfl] at hx114_2)
       (try rw [show 0 * 4 = 0 from rfl] at hx114_2)
       (try rw [Addr.add_zero'] at hx114_2)
       (try rw [show ((0 : Int)).toNat = 0 from rfl] at hx114_3)
       (try rw [show 0 * 4 = 0 from rfl] at hx114_3)
       (try rw [Addr.add_zero'] at hx114_3)
       replace p114 := eq_true p114
       replace q114 := eq_true q114
       have p37 : 0 ≤ (0 : Int) := (by omega)
       have q37 : (0 : Int) < ((x103001_1.length : Int) : Int) := of_decide_eq_true (by first | (with_reducible assumption) | assumption)
       have qi37 : (0 < x103001_1.length) = True := eq_true (by omega)
       obtain ⟨go37, co37, eo37, gb37, gl37, cl37, HG37⟩ := Kd.R_form HO_103001.out (by omega)
       (first | cases eo37 | (injection eo37 with ea_ en_ ec_; (first | subst ea_ | (injection ea_ with ea_; subst ea_)); subst ec_; clear en_))
       have GB37 := Aside0.mk gb37
       have GG37 := Aside0.mk HG37
       clear gb37 gl37 HG37
       (first | simp only [add_plain] at hx114_0 | skip)
       (first | simp only [add_plain] at hx114_1 | skip)
       (first | simp only [add_plain] at hx114_2 | skip)
       (first | simp only [add_plain] at hx114_3 | skip)
       obtain ⟨ce37, hcl37, hM37, hcc37, hfr37⟩ := Kd.R_elem HO_103001.out z46 (0 : Int) p37 q37
       obtain rfl := k46_openM hM37
       have hx37_0 : World.cell? _ ⟨go37, (0 : Int).toNat * 4, none⟩ = some (.int .i64 ((rd_T46 x103001_1 0).f0)) := hcc37 0 _ rfl
       have hx37_1 : World.cell? _ ⟨go37, (0 : Int).toNat * 4 + 1, none⟩ = some (.int .i64 ((rd_T46 x103001_1 0).f1)) := hcc37 1 _ rfl
       have hx37_2 : World.cell? _ ⟨go37, (0 : Int).toNat * 4 + 2, none⟩ = some (.int .i64 ((rd_T46 x103001_1 0).f2)) := hcc37 2 _ rfl
       have hx37_3 : World.cell? _ ⟨go37, (0 : Int).toNat * 4 + 3, none⟩ = some (.int .i64 ((rd_T46 x103001_1 0).f3)) := hcc37 3 _ rfl
       have hf37_0 : World.frozen? _ ⟨go37, (0 : Int).toNat * 4, none⟩ = false := hfr37 0
       have hf37_1 : World.frozen? _ ⟨go37, (0 : Int).toNat * 4 + 1, none⟩ = false := hfr37 1
       have hf37_2 : World.frozen? _ ⟨go37, (0 : Int).toNat * 4 + 2, none⟩ = false := hfr37 2
       have hf37_3 : World.frozen? _ ⟨go37, (0 : Int).toNat * 4 + 3, none⟩ = false := hfr37 3
       clear hcl37 hcc37 hfr37 hM37
       (try rw [show ((0 : Int)).toNat = 0 from rfl] at hx37_0)
       (try simp only [Nat.reduceMul, Nat.zero_mul, Nat.zero_add, Nat.reduceAdd] at hx37_0)
       (try rw [show ((0 : Int)).toNat = 0 from rfl] at hf37_0)
       (try simp only [Nat.reduceMul, Nat.zero_mul, Nat.zero_add, Nat.reduceAdd] at hf37_0)
       (try rw [show ((0 : Int)).toNat = 0 from rfl] at hx37_1)
       (try simp only [Nat.reduceMul, Nat.zero_mul, Nat.zero_add, Nat.reduceAdd] at hx37_1)
       (try rw [show ((0 : Int)).toNat = 0 from rfl] at hf37_1)
       (try simp only [Nat.reduceMul, Nat.zero_mul, Nat.zero_add, Nat.reduceAdd] at hf37_1)
       (try rw [show ((0 : Int)).toNat = 0 from rfl] at hx37_2)
       (try simp only [Nat.reduceMul, Nat.zero_mul, Nat.zero_add, Nat.reduceAdd] at hx37_2)
       (try rw [show ((0 : Int)).toNat = 0 from rfl] at hf37_2)
       (try simp only [Nat.reduceMul, Nat.zero_mul, Nat.zero_add, Nat.reduceAdd] at hf37_2)
       (try rw [show ((0 : Int)).toNat = 0 from rfl] at hx37_3)
       (try simp only [Nat.reduceMul, Nat.zero_mul, Nat.zero_add, Nat.reduceAdd] at hx37_3)
       (try rw [show ((0 : Int)).toNat = 0 from rfl] at hf37_3)
       (try simp only [Nat.reduceMul, Nat.zero_mul, Nat.zero_add, Nat.reduceAdd] at hf37_3)
       replace p37 := eq_true p37
       replace q37 := eq_true q37
       obtain ⟨ce42, hcl42, hM42, hcc42, hfr42⟩ := Kd.R_elem HO_103001.out z46 (0 : Int) (by omega) (by have h_ : (0 : Int) < ((x103001_1.length : Int) : Int) := of_decide_eq_true (by first | (with_reducible assumption) | assumption); first | exact h_ | (have e_ := (Kd.R_reads' HO_103001.out).1; omega) | simpa using h_)
       obtain rfl := k46_openM hM42
       have HP42 := (Kd.R_seg HO_103001.out (0 : Int) (by omega) (by have h_ : (0 : Int) < ((x103001_1.length : Int) : Int) := of_decide_eq_true (by first | (with_reducible assumption) | assumption); first | exact h_ | (have e_ := (Kd.R_reads' HO_103001.out).1; omega) | simpa using h_) (seg := [.int .i64 (wrap64 (((rd_T46 x103001_1 0).f1) + x12_1))]) (j := 1) hcl42 hcc42 (show 2 ≤ 4 from by decide) (x' := (⟨(rd_T46 x103001_1 0).f0, wrap64 (((rd_T46 x103001_1 0).f1) + x12_1), (rd_T46 x103001_1 0).f2, (rd_T46 x103001_1 0).f3⟩ : S46)) (k46_mkM _ _ _ (⟨(rd_T46 x103001_1 0).f0, wrap64 (((rd_T46 x103001_1 0).f1) + x12_1), (rd_T46 x103001_1 0).f2, (rd_T46 x103001_1 0).f3⟩ : S46) ) (fun _ hk => hk)).1
       rw [← Ny115.out] at HP42
       have HQ42 := Aside0.mk HP42
       clear hcl42 hcc42 hfr42 hM42 HP42
       refine start_ (n := 12) (S := fun w' => w'.cell? ⟨gb102, 0, none⟩ = some (.int .i64 (wrap64 (1 + (wrap64 (a1))))) ∧ w'.cell? ⟨gb102, 1, none⟩ = some (.slice (some ⟨go37, 0, none⟩) x103001_1.length co40) ∧ w'.cell? ⟨gb102, 2, none⟩ = some (.int .i64 (wrap64 ((wrap64 (a2)) * 4))) ∧ w'.cell? ⟨gb102, 3, none⟩ = some (.int .i64 600) ∧ w'.cell? ⟨go37, 0, none⟩ = some (.int .i64 ((rd_T46 x103001_1 0).f0)) ∧ w'.cell? ⟨go37, 1, none⟩ = some (.int .i64 ((rd_T46 x103001_1 0).f1)) ∧ w'.cell? ⟨go37, 2, none⟩ = some (.int .i64 ((rd_T46 x103001_1 0).f2)) ∧ w'.cell? ⟨go37, 3, none⟩ = some (.int .i64 ((rd_T46 x103001_1 0).f3))) (ds := [11]) #[false, false, false, false, false, false, false, false, false, false, false, false] (by kernel_rfl) rfl rfl ⟨(blk_cell BK102.out 0).trans rfl, (blk_cell BK102.out 1).trans rfl, (blk_cell BK102.out 2).trans rfl, (blk_cell BK102.out 3).trans rfl, hx114_0, hx114_1, hx114_2, hx114_3⟩ (fun hHeld => ?_); refine with_tabW isobathlaw02_rig.tab18 isobathlaw02_rig.bits18 (fun HT_ HW_ => ?_)
       generalize wr.drew = w41 at HO_10 HO_11 HO_103001 BK101 BK102 HB GG37 HQ42 hf37_0 hf37_1 hf37_2 hf37_3 hx114_0 hx114_1 hx114_2 hx114_3 hx37_0 hx37_1 hx37_2 hx37_3 hHeld ⊢
       refine pure_ (i := 0) (N := some 116) (v := ?_) (a' := ?_) #[true, false, false, false, false, false, false, false, false, false, false, false] rfl rfl (any_of HT_.out (by kernel_rfl)) (fun _ _ _ h => h) (Or.inl ⟨by rfl, ?_⟩) ?_ ?_
       rotate_left
       ·intro w'
        go_simp
        with_reducible rfl
       rotate_left
       ·simp only [Act.put, List.setIfInBounds_toArray, List.set_cons_zero, List.set_cons_succ, i64_w, i32_w]
        rfl
       refine pure_ (i := 2) (N := some 118) (v := ?_) (a' := ?_) #[true, false, true, false, false, false, false, false, false, false, false, false] rfl rfl (any_of HT_.out (by kernel_rfl)) (fun _ _ _ h => h) (Or.inl ⟨by rfl, ?_⟩) ?_ ?_
       rotate_left
       ·intro w'
        go_simp
        with_reducible rfl
       rotate_left
       ·simp only [Act.put, List.setIfInBounds_toArray, List.set_cons_zero, List.set_cons_succ, i64_w, i32_w]
        rfl
       refine pure_ (i := 7) (N := some 123) (v := ?_) (a' := ?_) #[true, false, true, false, false, false, false, true, false, false, false, false] rfl rfl (any_of HT_.out (by kernel_rfl)) (fun _ _ _ h => h) (Or.inl ⟨by rfl, ?_⟩) ?_ ?_
       rotate_left
       ·intro w'
        go_simp
        with_reducible rfl
       rotate_left
       ·simp only [Act.put, List.setIfInBounds_toArray, List.set_cons_zero, List.set_cons_succ, i64_w, i32_w]
        rfl
       refine take_ (i := 1) (N := some 117) (v := ?_) (a' := ?_) #[true, true, true, false, false, false, false, true, false, false, false, false] rfl rfl (take_ofW HT_.out HW_.out (by kernel_rfl)) (fun _ _ _ h => h) (Or.inl ⟨by rfl, ?_⟩) hHeld ?_ ?_
       rotate_left
       ·rintro w' ⟨s0, s1, s2, s3, s4, s5, s6, s7⟩
        go_simp
        with_reducible rfl
       rotate_left
       ·simp only [Act.put, List.setIfInBounds_toArray, List.set_cons_zero, List.set_cons_succ, i64_w, i32_w]
        rfl
       refine take_ (i := 3) (N := some 119) (v := ?_) (a' := ?_) #[true, true, true, true, false, false, false, true, false, false, false, false] rfl rfl (take_ofW HT_.out HW_.out (by kernel_rfl)) (fun _ _ _ h => h) (Or.inl ⟨by rfl, ?_⟩) hHeld ?_ ?_
       rotate_left
       ·rintro w' ⟨s0, s1, s2, s3, s4, s5, s6, s7⟩
        go_simp
        with_reducible rfl
       rotate_left
       ·simp only [Act.put, List.setIfInBounds_toArray, List.set_cons_zero, List.set_cons_succ, i64_w, i32_w]
        rfl
       refine pure_ (i := 4) (N := some 120) (v := ?_) (a' := ?_) #[true, true, true, true, true, false, false, true, false, false, false, false] rfl rfl (any_of HT_.out (by kernel_rfl)) (fun _ _ _ h => h) (Or.inl ⟨by rfl, ?_⟩) ?_ ?_
       rotate_left
       ·intro w'
        go_simp
        with_reducible rfl
       rotate_left
       ·simp only [Act.put, List.setIfInBounds_toArray, List.set_cons_zero, List.set_cons_succ, i64_w, i32_w]
        rfl
       refine pure_ (i := 5) (N := some 121) (v := ?_) (a' := ?_) #[true, true, true, true, true, true, false, true, false, false, false, false] rfl rfl (any_of HT_.out (by kernel_rfl)) (fun _ _ _ h => h) (Or.inl ⟨by rfl, ?_⟩) ?_ ?_
       rotate_left
       ·intro w'
        go_simp
        with_reducible rfl
       rotate_left
       ·simp only [Act.put, List.setIfInBounds_toArray, List.set_cons_zero, List.set_cons_succ, i64_w, i32_w]
        rfl
       refine take_ (i := 6) (N := some 122) (v := ?_) (a' := ?_) #[true, true, true, true, true, true, true, true, false, false, false, false] rfl rfl (take_ofW HT_.out HW_.out (by kernel_rfl)) (fun _ _ _ h => h) (Or.inl ⟨by rfl, ?_⟩) hHeld ?_ ?_
       rotate_left
       ·rintro w' ⟨s0, s1, s2, s3, s4, s5, s6, s7⟩
        go_simp
        with_reducible rfl
       rotate_left
       ·simp only [Act.put, List.setIfInBounds_toArray, List.set_cons_zero, List.set_cons_succ, i64_w, i32_w]
        rfl
       refine pure_ (i := 8) (N := some 124) (v := ?_) (a' := ?_) #[true, true, true, true, true, true, true, true, true, false, false, false] rfl rfl (any_of HT_.out (by kernel_rfl)) (fun _ _ _ h => h) (Or.inl ⟨by rfl, ?_⟩) ?_ ?_
       rotate_left
       ·intro w'
        go_simp
        with_reducible rfl
       rotate_left
       ·simp only [Act.put, List.setIfInBounds_toArray, List.set_cons_zero, List.set_cons_succ, i64_w, i32_w]
        rfl
       refine pure_ (i := 9) (N := some 125) (v := ?_) (a' := ?_) #[true, true, true, true, true, true, true, true, true, true, false, false] rfl rfl (any_of HT_.out (by kernel_rfl)) (fun _ _ _ h => h) (Or.inl ⟨by rfl, ?_⟩) ?_ ?_
       rotate_left
       ·intro w'
        go_simp
        with_reducible rfl
       rotate_left
       ·simp only [Act.put, List.setIfInBounds_toArray, List.set_cons_zero, List.set_cons_succ, i64_w, i32_w]
        rfl
       refine pure_ (i := 10) (N := some 126) (v := ?_) (a' := ?_) #[true, true, true, true, true, true, true, true, true, true, true, false] rfl rfl (any_of HT_.out (by kernel_rfl)) (fun _ _ _ h => h) (Or.inl ⟨by rfl, ?_⟩) ?_ ?_
       rotate_left
       ·intro w'
        go_simp
        with_reducible rfl
       rotate_left
       ·simp only [Act.put, List.setIfInBounds_toArray, List.set_cons_zero, List.set_cons_succ, i64_w, i32_w]
        rfl
       refine last_ (i := 11) (N := none) #[true, true, true, true, true, true, true, true, true, true, true, true] rfl rfl (one_of HT_.out (by kernel_rfl)) (by decide) (fun K hK => ?_)
       refine skip_ (w1 := ?_) (by rfl) rfl ?_ ?_
       rotate_left
       ·go_simp
        rfl
       refine hK.out _ _ ?_
       clear hK K
       refine done_ (done_of HT_.out (by kernel_rfl)) ?_
       have n0_ : Aside0 (Kd.R k57 57 (w41.setCell ⟨go37, 1, none⟩ (.int .i64 (wrap64 (((rd_T46 x103001_1 0).f1) + x12_1)))) w.heap.size (fun _ => True) u10 x10_1) := ⟨by (with_reducible repeat (first | apply Kd.R_alloc | apply Kd.R_drewN | apply Kd.R_drew)); exact Kd.R_mono (Kd.R_far (p := ⟨go37, 1, none⟩) (Kd.R_types HO_10.out GG37.out (by decide)) (fun _ hk => hk.2) (.int .i64 (wrap64 (((rd_T46 x103001_1 0).f1) + x12_1)))) (fun _ hk => trivial)⟩
       have n1_ : Aside0 (Kd.R (Kd.int .i64) 2 (w41.setCell ⟨go37, 1, none⟩ (.int .i64 (wrap64 (((rd_T46 x103001_1 0).f1) + x12_1)))) w.heap.size (fun _ => True) u11 x11_1) := ⟨by (with_reducible repeat (first | apply Kd.R_alloc | apply Kd.R_drewN | apply Kd.R_drew)); exact Kd.R_mono (Kd.R_far (p := ⟨go37, 1, none⟩) (Kd.R_types HO_11.out GG37.out (by decide)) (fun _ hk => hk.2) (.int .i64 (wrap64 (((rd_T46 x103001_1 0).f1) + x12_1)))) (fun _ hk => trivial)⟩
       have n2_ : Aside0 (Kd.R k46 46 (w41.setCell ⟨go37, 1, none⟩ (.int .i64 (wrap64 (((rd_T46 x103001_1 0).f1) + x12_1)))) w.heap.size (fun _ => True) (.slice (some ⟨go37, 0, none⟩) x103001_1.length co40) y115) := ⟨by (with_reducible repeat (first | apply Kd.R_alloc | apply Kd.R_drewN | apply Kd.R_drew)); exact HQ42.out⟩
       have n3_ : Aside0 ((w41.setCell ⟨go37, 1, none⟩ (.int .i64 (wrap64 (((rd_T46 x103001_1 0).f1) + x12_1)))).heap[gb101]? = some (.cells #[.int .i64 0, .slice none 0 0, .int .i64 0, .int .i64 0] 37 (0, 0))) := ⟨by (with_reducible repeat (first | refine blk_drewN ?_ _ | refine blk_drew ?_ | refine blk_alloc ?_ _)); refine blk_far ?_ (by have h_ := Kd.R_ne HO_103001.out BK101.out (by decide); intro e_; exact h_ (by rw [e_]; rfl)) _; (with_reducible repeat (first | refine blk_drewN ?_ _ | refine blk_drew ?_ | refine blk_alloc ?_ _)); exact BK101.out⟩
       have n4_ : Aside0 ((w41.setCell ⟨go37, 1, none⟩ (.int .i64 (wrap64 (((rd_T46 x103001_1 0).f1) + x12_1)))).heap[gb102]? = some (.cells #[.int .i64 (wrap64 (1 + (wrap64 (a1)))), .slice (some ⟨go37, 0, none⟩) x103001_1.length co40, .int .i64 (wrap64 ((wrap64 (a2)) * 4)), .int .i64 600] 37 (0, 0))) := ⟨by (with_reducible repeat (first | refine blk_drewN ?_ _ | refine blk_drew ?_ | refine blk_alloc ?_ _)); refine blk_far ?_ (by have h_ := Kd.R_ne HO_103001.out BK102.out (by decide); intro e_; exact h_ (by rw [e_]; rfl)) _; (with_reducible repeat (first | refine blk_drewN ?_ _ | refine blk_drew ?_ | refine blk_alloc ?_ _)); exact BK102.out⟩
       have n5_ : Aside0 (Below w.heap.size w (w41.setCell ⟨go37, 1, none⟩ (.int .i64 (wrap64 (((rd_T46 x103001_1 0).f1) + x12_1))))) := ⟨by repeat (first | (with_reducible first | exact HB.out | apply below_alloc | apply pw_below_drewN | apply below_drew1 | refine below_set ?_ GB37.out | refine below_set ?_ GE101.out | refine below_set ?_ GE102.out) | exact HB.out)⟩
       (try clear HO_10)
       (try clear HO_11)
       (try clear HO_103001)
       (try clear BK101)
       (try clear BK102)
       (try clear HB)
       generalize (w41.setCell ⟨go37, 1, none⟩ (.int .i64 (wrap64 (((rd_T46 x103001_1 0).f1) + x12_1)))) = w43 at n0_ n1_ n2_ n3_ n4_ n5_ ⊢
       have HO_10 := n0_
       have HO_11 := n1_
       have HO_103001 := n2_
       have BK101 := n3_
       have BK102 := n4_
       have HB := n5_
       clear n0_ n1_ n2_ n3_ n4_ n5_
       have hcz44_0 : w43.cell? ⟨gb102, 0, none⟩ = some (.int .i64 (wrap64 (1 + (wrap64 (a1))))) := (blk_cell BK102.out 0).trans rfl
       have hcz44_1 : w43.cell? ⟨gb102, 1, none⟩ = some (.slice (some ⟨go37, 0, none⟩) x103001_1.length co40) := (blk_cell BK102.out 1).trans rfl
       have hcz44_2 : w43.cell? ⟨gb102, 2, none⟩ = some (.int .i64 (wrap64 ((wrap64 (a2)) * 4))) := (blk_cell BK102.out 2).trans rfl
       have hcz44_3 : w43.cell? ⟨gb102, 3, none⟩ = some (.int .i64 600) := (blk_cell BK102.out 3).trans rfl
       have hfz44_0 := blk_frozen BK102.out 0
       have hfz44_1 := blk_frozen BK102.out 1
       have hfz44_2 := blk_frozen BK102.out 2
       have hfz44_3 := blk_frozen BK102.out 3
       have hcz45_0 : w43.cell? ⟨gb101, 0, none⟩ = some (.int .i64 0) := (blk_cell BK101.out 0).trans rfl
       have hcz45_1 : w43.cell? ⟨gb101, 1, none⟩ = some (.slice none 0 0) := (blk_cell BK101.out 1).trans rfl
       have hcz45_2 : w43.cell? ⟨gb101, 2, none⟩ = some (.int .i64 0) := (blk_cell BK101.out 2).trans rfl
       have hcz45_3 : w43.cell? ⟨gb101, 3, none⟩ = some (.int .i64 0) := (blk_cell BK101.out 3).trans rfl
       have hfz45_0 := blk_frozen BK101.out 0
       have hfz45_1 := blk_frozen BK101.out 1
       have hfz45_2 := blk_frozen BK101.out 2
       have hfz45_3 := blk_frozen BK101.out 3
       try go_wp2
       refine bodyPost_ret (results_ctt rfl _ _ gb101 37 #[.int .i64 (wrap64 (1 + (wrap64 (a1)))), .slice (some ⟨go37, 0, none⟩) x103001_1.length co40, .int .i64 (wrap64 ((wrap64 (a2)) * 4)), .int .i64 600] (0, 0) _ rfl (by (with_reducible repeat (first | refine blk_drewN ?_ _ | refine blk_drew ?_ | refine blk_alloc ?_ _)); refine blk_put (cs := #[.int .i64 (wrap64 (1 + (wrap64 (a1)))), .slice (some ⟨go37, 0, none⟩) x103001_1.length co40, .int .i64 (wrap64 ((wrap64 (a2)) * 4)), .int .i64 0]) ?_ 3 _ rfl; (with_reducible repeat (first | refine blk_drewN ?_ _ | refine blk_drew ?_ | refine blk_alloc ?_ _)); refine blk_put (cs := #[.int .i64 (wrap64 (1 + (wrap64 (a1)))), .slice (some ⟨go37, 0, none⟩) x103001_1.length co40, .int .i64 0, .int .i64 0]) ?_ 2 _ rfl; (with_reducible repeat (first | refine blk_drewN ?_ _ | refine blk_drew ?_ | refine blk_alloc ?_ _)); refine blk_put (cs := #[.int .i64 (wrap64 (1 + (wrap64 (a1)))), .slice none 0 0, .int .i64 0, .int .i64 0]) ?_ 1 _ rfl; (with_reducible repeat (first | refine blk_drewN ?_ _ | refine blk_drew ?_ | refine blk_alloc ?_ _)); refine blk_put (cs := #[.int .i64 0, .slice none 0 0, .int .i64 0, .int .i64 0]) ?_ 0 _ rfl; (with_reducible repeat (first | refine blk_drewN ?_ _ | refine blk_drew ?_ | refine blk_alloc ?_ _)); exact BK101.out) Try.underlying37 rfl (by kernel_rfl)) rfl ?_
       exact ⟨_, _, _, by first | rfl | (simp [errW_none, errW_some] <;> rfl) | (simp [*, errW_none, errW_some] <;> rfl), by (with_reducible repeat (first | apply Kd.R_alloc | apply Kd.R_drewN | apply Kd.R_drew)); exact Kd.R_mono (Kd.R_far (p := ⟨gb101, 3, none⟩) (Kd.R_far (p := ⟨gb101, 2, none⟩) (Kd.R_far (p := ⟨gb101, 1, none⟩) (Kd.R_far (p := ⟨gb101, 0, none⟩) (Kd.R_types HO_103001.out BK101.out (by decide)) (fun _ hk => hk.2) (.int .i64 (wrap64 (1 + (wrap64 (a1)))))) (fun _ hk => hk.2) (.slice (some ⟨go37, 0, none⟩) x103001_1.length co40)) (fun _ hk => hk.2) (.int .i64 (wrap64 ((wrap64 (a2)) * 4)))) (fun _ hk => hk.2) (.int .i64 600)) (fun _ hk => trivial), by (with_reducible repeat (first | apply Kd.R_alloc | apply Kd.R_drewN | apply Kd.R_drew)); exact Kd.R_mono (Kd.R_far (p := ⟨gb101, 3, none⟩) (Kd.R_far (p := ⟨gb101, 2, none⟩) (Kd.R_far (p := ⟨gb101, 1, none⟩) (Kd.R_far (p := ⟨gb101, 0, none⟩) (Kd.R_types HO_10.out BK101.out (by decide)) (fun _ hk => hk.2) (.int .i64 (wrap64 (1 + (wrap64 (a1)))))) (fun _ hk => hk.2) (.slice (some ⟨go37, 0, none⟩) x103001_1.length co40)) (fun _ hk => hk.2) (.int .i64 (wrap64 ((wrap64 (a2)) * 4)))) (fun _ hk => hk.2) (.int .i64 600)) (fun _ hk => trivial), by (with_reducible repeat (first | apply Kd.R_alloc | apply Kd.R_drewN | apply Kd.R_drew)); exact Kd.R_mono (Kd.R_far (p := ⟨gb101, 3, none⟩) (Kd.R_far (p := ⟨gb101, 2, none⟩) (Kd.R_far (p := ⟨gb101, 1, none⟩) (Kd.R_far (p := ⟨gb101, 0, none⟩) (Kd.R_types HO_11.out BK101.out (by decide)) (fun _ hk => hk.2) (.int .i64 (wrap64 (1 + (wrap64 (a1)))))) (fun _ hk => hk.2) (.slice (some ⟨go37, 0, none⟩) x103001_1.length co40)) (fun _ hk => hk.2) (.int .i64 (wrap64 ((wrap64 (a2)) * 4)))) (fun _ hk => hk.2) (.int .i64 600)) (fun _ hk => trivial), by repeat (first | (with_reducible first | exact HB.out | apply below_alloc | apply pw_below_drewN | apply below_drew1 | refine below_set ?_ GE101.out | refine below_set ?_ GE102.out) | exact HB.out)⟩
      ·rw [if_neg c36] at H
       exact absurd H (by simp)
     ·rw [if_neg c35] at H
      have c35b0 : decide (0 < (x103001_1.length : Int)) = false := decide_eq_false c35
      have c35b1 : decide (0 < x103001_1.length) = false := decide_eq_false (by omega)
      clear c35
      simp only [Option.some.injEq, Prod.mk.injEq] at H
      obtain ⟨rfl, rfl, rfl, rfl, rfl, rfl⟩ := H
      have hnb46 := NB102_101.out
      have hnc46 := NB101_102.out
      have hcz47_0 : wr.cell? ⟨gb102, 0, none⟩ = some (.int .i64 (wrap64 (1 + (wrap64 (a1))))) := (blk_cell BK102.out 0).trans rfl
      have hcz47_1 : wr.cell? ⟨gb102, 1, none⟩ = some (u103001) := (blk_cell BK102.out 1).trans rfl
      have hcz47_2 : wr.cell? ⟨gb102, 2, none⟩ = some (.int .i64 (wrap64 ((wrap64 (a2)) * 4))) := (blk_cell BK102.out 2).trans rfl
      have hcz47_3 : wr.cell? ⟨gb102, 3, none⟩ = some (.int .i64 600) := (blk_cell BK102.out 3).trans rfl
      have hfz47_0 := blk_frozen BK102.out 0
      have hfz47_1 := blk_frozen BK102.out 1
      have hfz47_2 := blk_frozen BK102.out 2
      have hfz47_3 := blk_frozen BK102.out 3
      obtain ⟨Ao48, co48, eo48⟩ := Kd.R_slice HO_103001.out
      subst eo48
      have hcz49_0 : wr.cell? ⟨gb101, 0, none⟩ = some (.int .i64 0) := (blk_cell BK101.out 0).trans rfl
      have hcz49_1 : wr.cell? ⟨gb101, 1, none⟩ = some (.slice none 0 0) := (blk_cell BK101.out 1).trans rfl
      have hcz49_2 : wr.cell? ⟨gb101, 2, none⟩ = some (.int .i64 0) := (blk_cell BK101.out 2).trans rfl
      have hcz49_3 : wr.cell? ⟨gb101, 3, none⟩ = some (.int .i64 0) := (blk_cell BK101.out 3).trans rfl
      have hfz49_0 := blk_frozen BK101.out 0
      have hfz49_1 := blk_frozen BK101.out 1
      have hfz49_2 := blk_frozen BK101.out 2
      have hfz49_3 := blk_frozen BK101.out 3
      go_wp2
      refine bodyPost_ret (results_ctt rfl _ _ gb101 37 #[.int .i64 (wrap64 (1 + (wrap64 (a1)))), .slice Ao48 x103001_1.length co48, .int .i64 (wrap64 ((wrap64 (a2)) * 4)), .int .i64 600] (0, 0) _ rfl (by (with_reducible repeat (first | refine blk_drewN ?_ _ | refine blk_drew ?_ | refine blk_alloc ?_ _)); refine blk_put (cs := #[.int .i64 (wrap64 (1 + (wrap64 (a1)))), .slice Ao48 x103001_1.length co48, .int .i64 (wrap64 ((wrap64 (a2)) * 4)), .int .i64 0]) ?_ 3 _ rfl; (with_reducible repeat (first | refine blk_drewN ?_ _ | refine blk_drew ?_ | refine blk_alloc ?_ _)); refine blk_put (cs := #[.int .i64 (wrap64 (1 + (wrap64 (a1)))), .slice Ao48 x103001_1.length co48, .int .i64 0, .int .i64 0]) ?_ 2 _ rfl; (with_reducible repeat (first | refine blk_drewN ?_ _ | refine blk_drew ?_ | refine blk_alloc ?_ _)); refine blk_put (cs := #[.int .i64 (wrap64 (1 + (wrap64 (a1)))), .slice none 0 0, .int .i64 0, .int .i64 0]) ?_ 1 _ rfl; (with_reducible repeat (first | refine blk_drewN ?_ _ | refine blk_drew ?_ | refine blk_alloc ?_ _)); refine blk_put (cs := #[.int .i64 0, .slice none 0 0, .int .i64 0, .int .i64 0]) ?_ 0 _ rfl; (with_reducible repeat (first | refine blk_drewN ?_ _ | refine blk_drew ?_ | refine blk_alloc ?_ _)); exact BK101.out) Try.underlying37 rfl (by kernel_rfl)) rfl ?_
      exact ⟨_, _, _, by first | rfl | (simp [errW_none, errW_some] <;> rfl) | (simp [*, errW_none, errW_some] <;> rfl), by (with_reducible repeat (first | apply Kd.R_alloc | apply Kd.R_drewN | apply Kd.R_drew)); exact Kd.R_mono (Kd.R_far (p := ⟨gb101, 3, none⟩) (Kd.R_far (p := ⟨gb101, 2, none⟩) (Kd.R_far (p := ⟨gb101, 1, none⟩) (Kd.R_far (p := ⟨gb101, 0, none⟩) (Kd.R_types HO_103001.out BK101.out (by decide)) (fun _ hk => hk.2) (.int .i64 (wrap64 (1 + (wrap64 (a1)))))) (fun _ hk => hk.2) (.slice Ao48 x103001_1.length co48)) (fun _ hk => hk.2) (.int .i64 (wrap64 ((wrap64 (a2)) * 4)))) (fun _ hk => hk.2) (.int .i64 600)) (fun _ hk => trivial), by (with_reducible repeat (first | apply Kd.R_alloc | apply Kd.R_drewN | apply Kd.R_drew)); exact Kd.R_mono (Kd.R_far (p := ⟨gb101, 3, none⟩) (Kd.R_far (p := ⟨gb101, 2, none⟩) (Kd.R_far (p := ⟨gb101, 1, none⟩) (Kd.R_far (p := ⟨gb101, 0, none⟩) (Kd.R_types HO_10.out BK101.out (by decide)) (fun _ hk => hk.2) (.int .i64 (wrap64 (1 + (wrap64 (a1)))))) (fun _ hk => hk.2) (.slice Ao48 x103001_1.length co48)) (fun _ hk => hk.2) (.int .i64 (wrap64 ((wrap64 (a2)) * 4)))) (fun _ hk => hk.2) (.int .i64 600)) (fun _ hk => trivial), by (with_reducible repeat (first | apply Kd.R_alloc | apply Kd.R_drewN | apply Kd.R_drew)); exact Kd.R_mono (Kd.R_far (p := ⟨gb101, 3, none⟩) (Kd.R_far (p := ⟨gb101, 2, none⟩) (Kd.R_far (p := ⟨gb101, 1, none⟩) (Kd.R_far (p := ⟨gb101, 0, none⟩) (Kd.R_types HO_11.out BK101.out (by decide)) (fun _ hk => hk.2) (.int .i64 (wrap64 (1 + (wrap64 (a1)))))) (fun _ hk => hk.2) (.slice Ao48 x103001_1.length co48)) (fun _ hk => hk.2) (.int .i64 (wrap64 ((wrap64 (a2)) * 4)))) (fun _ hk => hk.2) (.int .i64 600)) (fun _ hk => trivial), by repeat (first | (with_reducible first | exact HB.out | apply below_alloc | apply pw_below_drewN | apply below_drew1 | refine below_set ?_ GE101.out | refine below_set ?_ GE102.out) | exact HB.out)⟩
   ·rw [if_neg c8] at H
    have c8b0 : decide (x13_1 < (l0.length : Int)) = false := decide_eq_false c8
    clear c8
    by_cases c50 : (x103001_1.length : Int) > 0
    ·rw [if_pos c50] at H
     have c50b0 : decide (0 < (x103001_1.length : Int)) = true := decide_eq_true c50
     have c50b1 : decide (0 < x103001_1.length) = true := decide_eq_true (by omega)
     clear c50
     by_cases c51 : 0 < (x103001_1.length : Int)
     ·rw [if_pos c51] at H
      have c51b0 : decide (0 < (x103001_1.length : Int)) = true := decide_eq_true c51
      have c51b1 : decide (0 < x103001_1.length) = true := decide_eq_true (by omega)
      clear c51
      obtain ⟨y117, hy117⟩ : ∃ y_ : List (S46), y_ = (x103001_1.set (0 : Int).toNat (⟨(rd_T46 x103001_1 0).f0, wrap64 (((rd_T46 x103001_1 0).f1) + x12_1), (rd_T46 x103001_1 0).f2, (rd_T46 x103001_1 0).f3⟩ : S46)) := ⟨_, rfl⟩
      replace H : (some ((wrap64 (1 + (wrap64 (a1)))), y117, (wrap64 ((wrap64 (a2)) * 4)), 600, x10_1, x11_1)) = some (r1, r2, r3, r4, r5, r6) := by first | (rw [hy117]; with_reducible exact H) | (have H2_ := (Option.bind_some _ _).symm.trans H; rw [hy117]; with_reducible exact H2_) | (have H2_ := (Option.bind_some _ _).symm.trans H; with_reducible exact H2_) | with_reducible exact H | (rw [hy117]; exact H) | exact H
      have Ny117 := Aside0.mk hy117
      clear hy117
      simp only [Option.some.injEq, Prod.mk.injEq] at H
      obtain ⟨rfl, rfl, rfl, rfl, rfl, rfl⟩ := H
      have hnb53 := NB102_101.out
      have hnc53 := NB101_102.out
      have hcz54_0 : wr.cell? ⟨gb102, 0, none⟩ = some (.int .i64 (wrap64 (1 + (wrap64 (a1))))) := (blk_cell BK102.out 0).trans rfl
      have hcz54_1 : wr.cell? ⟨gb102, 1, none⟩ = some (u103001) := (blk_cell BK102.out 1).trans rfl
      have hcz54_2 : wr.cell? ⟨gb102, 2, none⟩ = some (.int .i64 (wrap64 ((wrap64 (a2)) * 4))) := (blk_cell BK102.out 2).trans rfl
      have hcz54_3 : wr.cell? ⟨gb102, 3, none⟩ = some (.int .i64 600) := (blk_cell BK102.out 3).trans rfl
      have hfz54_0 := blk_frozen BK102.out 0
      have hfz54_1 := blk_frozen BK102.out 1
      have hfz54_2 := blk_frozen BK102.out 2
      have hfz54_3 := blk_frozen BK102.out 3
      obtain ⟨Ao55, co55, eo55⟩ := Kd.R_slice HO_103001.out
      subst eo55
      try go_wp2
      have n0_ := Aside0.mk (Kd.R_drew HO_10.out)
      have n1_ := Aside0.mk (Kd.R_drew HO_11.out)
      have n2_ := Aside0.mk (Kd.R_drew HO_103001.out)
      have n3_ := Aside0.mk (blk_drew BK101.out)
      have n4_ := Aside0.mk (blk_drew BK102.out)
      have n5_ := Aside0.mk (below_drew1 HB.out)
      clear HO_10
      clear HO_11
      clear HO_103001
      clear BK101
      clear BK102
      clear HB
      have HO_10 := n0_
      have HO_11 := n1_
      have HO_103001 := n2_
      have BK101 := n3_
      have BK102 := n4_
      have HB := n5_
      clear n0_ n1_ n2_ n3_ n4_ n5_
      have p116 : 0 ≤ (0 : Int) := (by omega)
      have q116 : 0 < (x103001_1.length : Int) := of_decide_eq_true (by first | (with_reducible assumption) | assumption)
      obtain ⟨ad116, e116, hx116_0, hx116_1, hx116_2, hx116_3⟩ := at_T46 (Kd.R_reads' HO_103001.out).2.2 0 p116 q116
      cases e116
      have qi116 : (0 < x103001_1.length) = True := eq_true (by omega)
      (try rw [show ((0 : Int)).toNat = 0 from rfl] at hx116_0)
      (try rw [show 0 * 4 = 0 from rfl] at hx116_0)
      (try rw [Addr.add_zero'] at hx116_0)
      (try rw [show ((0 : Int)).toNat = 0 from rfl] at hx116_1)
      (try rw [show 0 * 4 = 0 from rfl] at hx116_1)
      (try rw [Addr.add_zero'] at hx116_1)
      (try rw [show ((0 : Int)).toNat = 0 from rfl] at hx116_2)
      (try rw [show 0 * 4 = 0 from rfl] at hx116_2)
      (try rw [Addr.add_zero'] at hx116_2)
      (try rw [show ((0 : Int)).toNat = 0 from rfl] at hx116_3)
      (try rw [show 0 * 4 = 0 from rfl] at hx116_3)
      (try rw [Addr.add_zero'] at hx116_3)
      replace p116 := eq_true p116
      replace q116 := eq_true q116
      have p52 : 0 ≤ (0 : Int) := (by omega)
      have q52 : (0 : Int) < ((x103001_1.length : Int) : Int) := of_decide_eq_true (by first | (with_reducible assumption) | assumption)
      have qi52 : (0 < x103001_1.length) = True := eq_true (by omega)
      obtain ⟨go52, co52, eo52, gb52, gl52, cl52, HG52⟩ := Kd.R_form HO_103001.out (by omega)
      (first | cases eo52 | (injection eo52 with ea_ en_ ec_; (first | subst ea_ | (injection ea_ with ea_; subst ea_)); subst ec_; clear en_))
      have GB52 := Aside0.mk gb52
      have GG52 := Aside0.mk HG52
      clear gb52 gl52 HG52
      (first | simp only [add_plain] at hx116_0 | skip)
      (first | simp only [add_plain] at hx116_1 | skip)
      (first | simp only [add_plain] at hx116_2 | skip)
      (first | simp only [add_plain] at hx116_3 | skip)
      obtain ⟨ce52, hcl52, hM52, hcc52, hfr52⟩ := Kd.R_elem HO_103001.out z46 (0 : Int) p52 q52
      obtain rfl := k46_openM hM52
      have hx52_0 : World.cell? _ ⟨go52, (0 : Int).toNat * 4, none⟩ = some (.int .i64 ((rd_T46 x103001_1 0).f0)) := hcc52 0 _ rfl
      have hx52_1 : World.cell? _ ⟨go52, (0 : Int).toNat * 4 + 1, none⟩ = some (.int .i64 ((rd_T46 x103001_1 0).f1)) := hcc52 1 _ rfl
      have hx52_2 : World.cell? _ ⟨go52, (0 : Int).toNat * 4 + 2, none⟩ = some (.int .i64 ((rd_T46 x103001_1 0).f2)) := hcc52 2 _ rfl
      have hx52_3 : World.cell? _ ⟨go52, (0 : Int).toNat * 4 + 3, none⟩ = some (.int .i64 ((rd_T46 x103001_1 0).f3)) := hcc52 3 _ rfl
      have hf52_0 : World.frozen? _ ⟨go52, (0 : Int).toNat * 4, none⟩ = false := hfr52 0
      have hf52_1 : World.frozen? _ ⟨go52, (0 : Int).toNat * 4 + 1, none⟩ = false := hfr52 1
      have hf52_2 : World.frozen? _ ⟨go52, (0 : Int).toNat * 4 + 2, none⟩ = false := hfr52 2
      have hf52_3 : World.frozen? _ ⟨go52, (0 : Int).toNat * 4 + 3, none⟩ = false := hfr52 3
      clear hcl52 hcc52 hfr52 hM52
      (try rw [show ((0 : Int)).toNat = 0 from rfl] at hx52_0)
      (try simp only [Nat.reduceMul, Nat.zero_mul, Nat.zero_add, Nat.reduceAdd] at hx52_0)
      (try rw [show ((0 : Int)).toNat = 0 from rfl] at hf52_0)
      (try simp only [Nat.reduceMul, Nat.zero_mul, Nat.zero_add, Nat.reduceAdd] at hf52_0)
      (try rw [show ((0 : Int)).toNat = 0 from rfl] at hx52_1)
      (try simp only [Nat.reduceMul, Nat.zero_mul, Nat.zero_add, Nat.reduceAdd] at hx52_1)
      (try rw [show ((0 : Int)).toNat = 0 from rfl] at hf52_1)
      (try simp only [Nat.reduceMul, Nat.zero_mul, Nat.zero_add, Nat.reduceAdd] at hf52_1)
      (try rw [show ((0 : Int)).toNat = 0 from rfl] at hx52_2)
      (try simp only [Nat.reduceMul, Nat.zero_mul, Nat.zero_add, Nat.reduceAdd] at hx52_2)
      (try rw [show ((0 : Int)).toNat = 0 from rfl] at hf52_2)
      (try simp only [Nat.reduceMul, Nat.zero_mul, Nat.zero_add, Nat.reduceAdd] at hf52_2)
      (try rw [show ((0 : Int)).toNat = 0 from rfl] at hx52_3)
      (try simp only [Nat.reduceMul, Nat.zero_mul, Nat.zero_add, Nat.reduceAdd] at hx52_3)
      (try rw [show ((0 : Int)).toNat = 0 from rfl] at hf52_3)
      (try simp only [Nat.reduceMul, Nat.zero_mul, Nat.zero_add, Nat.reduceAdd] at hf52_3)
      replace p52 := eq_true p52
      replace q52 := eq_true q52
      obtain ⟨ce57, hcl57, hM57, hcc57, hfr57⟩ := Kd.R_elem HO_103001.out z46 (0 : Int) (by omega) (by have h_ : (0 : Int) < ((x103001_1.length : Int) : Int) := of_decide_eq_true (by first | (with_reducible assumption) | assumption); first | exact h_ | (have e_ := (Kd.R_reads' HO_103001.out).1; omega) | simpa using h_)
      obtain rfl := k46_openM hM57
      have HP57 := (Kd.R_seg HO_103001.out (0 : Int) (by omega) (by have h_ : (0 : Int) < ((x103001_1.length : Int) : Int) := of_decide_eq_true (by first | (with_reducible assumption) | assumption); first | exact h_ | (have e_ := (Kd.R_reads' HO_103001.out).1; omega) | simpa using h_) (seg := [.int .i64 (wrap64 (((rd_T46 x103001_1 0).f1) + x12_1))]) (j := 1) hcl57 hcc57 (show 2 ≤ 4 from by decide) (x' := (⟨(rd_T46 x103001_1 0).f0, wrap64 (((rd_T46 x103001_1 0).f1) + x12_1), (rd_T46 x103001_1 0).f2, (rd_T46 x103001_1 0).f3⟩ : S46)) (k46_mkM _ _ _ (⟨(rd_T46 x103001_1 0).f0, wrap64 (((rd_T46 x103001_1 0).f1) + x12_1), (rd_T46 x103001_1 0).f2, (rd_T46 x103001_1 0).f3⟩ : S46) ) (fun _ hk => hk)).1
      rw [← Ny117.out] at HP57
      have HQ57 := Aside0.mk HP57
      clear hcl57 hcc57 hfr57 hM57 HP57
      refine start_ (n := 12) (S := fun w' => w'.cell? ⟨gb102, 0, none⟩ = some (.int .i64 (wrap64 (1 + (wrap64 (a1))))) ∧ w'.cell? ⟨gb102, 1, none⟩ = some (.slice (some ⟨go52, 0, none⟩) x103001_1.length co55) ∧ w'.cell? ⟨gb102, 2, none⟩ = some (.int .i64 (wrap64 ((wrap64 (a2)) * 4))) ∧ w'.cell? ⟨gb102, 3, none⟩ = some (.int .i64 600) ∧ w'.cell? ⟨go52, 0, none⟩ = some (.int .i64 ((rd_T46 x103001_1 0).f0)) ∧ w'.cell? ⟨go52, 1, none⟩ = some (.int .i64 ((rd_T46 x103001_1 0).f1)) ∧ w'.cell? ⟨go52, 2, none⟩ = some (.int .i64 ((rd_T46 x103001_1 0).f2)) ∧ w'.cell? ⟨go52, 3, none⟩ = some (.int .i64 ((rd_T46 x103001_1 0).f3))) (ds := [11]) #[false, false, false, false, false, false, false, false, false, false, false, false] (by kernel_rfl) rfl rfl ⟨(blk_cell BK102.out 0).trans rfl, (blk_cell BK102.out 1).trans rfl, (blk_cell BK102.out 2).trans rfl, (blk_cell BK102.out 3).trans rfl, hx116_0, hx116_1, hx116_2, hx116_3⟩ (fun hHeld => ?_); refine with_tabW isobathlaw02_rig.tab18 isobathlaw02_rig.bits18 (fun HT_ HW_ => ?_)
      generalize wr.drew = w56 at HO_10 HO_11 HO_103001 BK101 BK102 HB GG52 HQ57 hf52_0 hf52_1 hf52_2 hf52_3 hx116_0 hx116_1 hx116_2 hx116_3 hx52_0 hx52_1 hx52_2 hx52_3 hHeld ⊢
      refine pure_ (i := 0) (N := some 116) (v := ?_) (a' := ?_) #[true, false, false, false, false, false, false, false, false, false, false, false] rfl rfl (any_of HT_.out (by kernel_rfl)) (fun _ _ _ h => h) (Or.inl ⟨by rfl, ?_⟩) ?_ ?_
      rotate_left
      ·intro w'
       go_simp
       with_reducible rfl
      rotate_left
      ·simp only [Act.put, List.setIfInBounds_toArray, List.set_cons_zero, List.set_cons_succ, i64_w, i32_w]
       rfl
      refine pure_ (i := 2) (N := some 118) (v := ?_) (a' := ?_) #[true, false, true, false, false, false, false, false, false, false, false, false] rfl rfl (any_of HT_.out (by kernel_rfl)) (fun _ _ _ h => h) (Or.inl ⟨by rfl, ?_⟩) ?_ ?_
      rotate_left
      ·intro w'
       go_simp
       with_reducible rfl
      rotate_left
      ·simp only [Act.put, List.setIfInBounds_toArray, List.set_cons_zero, List.set_cons_succ, i64_w, i32_w]
       rfl
      refine pure_ (i := 7) (N := some 123) (v := ?_) (a' := ?_) #[true, false, true, false, false, false, false, true, false, false, false, false] rfl rfl (any_of HT_.out (by kernel_rfl)) (fun _ _ _ h => h) (Or.inl ⟨by rfl, ?_⟩) ?_ ?_
      rotate_left
      ·intro w'
       go_simp
       with_reducible rfl
      rotate_left
      ·simp only [Act.put, List.setIfInBounds_toArray, List.set_cons_zero, List.set_cons_succ, i64_w, i32_w]
       rfl
      refine take_ (i := 1) (N := some 117) (v := ?_) (a' := ?_) #[true, true, true, false, false, false, false, true, false, false, false, false] rfl rfl (take_ofW HT_.out HW_.out (by kernel_rfl)) (fun _ _ _ h => h) (Or.inl ⟨by rfl, ?_⟩) hHeld ?_ ?_
      rotate_left
      ·rintro w' ⟨s0, s1, s2, s3, s4, s5, s6, s7⟩
       go_simp
       with_reducible rfl
      rotate_left
      ·simp only [Act.put, List.setIfInBounds_toArray, List.set_cons_zero, List.set_cons_succ, i64_w, i32_w]
       rfl
      refine take_ (i := 3) (N := some 119) (v := ?_) (a' := ?_) #[true, true, true, true, false, false, false, true, false, false, false, false] rfl rfl (take_ofW HT_.out HW_.out (by kernel_rfl)) (fun _ _ _ h => h) (Or.inl ⟨by rfl, ?_⟩) hHeld ?_ ?_
      rotate_left
      ·rintro w' ⟨s0, s1, s2, s3, s4, s5, s6, s7⟩
       go_simp
       with_reducible rfl
      rotate_left
      ·simp only [Act.put, List.setIfInBounds_toArray, List.set_cons_zero, List.set_cons_succ, i64_w, i32_w]
       rfl
      refine pure_ (i := 4) (N := some 120) (v := ?_) (a' := ?_) #[true, true, true, true, true, false, false, true, false, false, false, false] rfl rfl (any_of HT_.out (by kernel_rfl)) (fun _ _ _ h => h) (Or.inl ⟨by rfl, ?_⟩) ?_ ?_
      rotate_left
      ·intro w'
       go_simp
       with_reducible rfl
      rotate_left
      ·simp only [Act.put, List.setIfInBounds_toArray, List.set_cons_zero, List.set_cons_succ, i64_w, i32_w]
       rfl
      refine pure_ (i := 5) (N := some 121) (v := ?_) (a' := ?_) #[true, true, true, true, true, true, false, true, false, false, false, false] rfl rfl (any_of HT_.out (by kernel_rfl)) (fun _ _ _ h => h) (Or.inl ⟨by rfl, ?_⟩) ?_ ?_
      rotate_left
      ·intro w'
       go_simp
       with_reducible rfl
      rotate_left
      ·simp only [Act.put, List.setIfInBounds_toArray, List.set_cons_zero, List.set_cons_succ, i64_w, i32_w]
       rfl
      refine take_ (i := 6) (N := some 122) (v := ?_) (a' := ?_) #[true, true, true, true, true, true, true, true, false, false, false, false] rfl rfl (take_ofW HT_.out HW_.out (by kernel_rfl)) (fun _ _ _ h => h) (Or.inl ⟨by rfl, ?_⟩) hHeld ?_ ?_
      rotate_left
      ·rintro w' ⟨s0, s1, s2, s3, s4, s5, s6, s7⟩
       go_simp
       with_reducible rfl
      rotate_left
      ·simp only [Act.put, List.setIfInBounds_toArray, List.set_cons_zero, List.set_cons_succ, i64_w, i32_w]
       rfl
      refine pure_ (i := 8) (N := some 124) (v := ?_) (a' := ?_) #[true, true, true, true, true, true, true, true, true, false, false, false] rfl rfl (any_of HT_.out (by kernel_rfl)) (fun _ _ _ h => h) (Or.inl ⟨by rfl, ?_⟩) ?_ ?_
      rotate_left
      ·intro w'
       go_simp
       with_reducible rfl
      rotate_left
      ·simp only [Act.put, List.setIfInBounds_toArray, List.set_cons_zero, List.set_cons_succ, i64_w, i32_w]
       rfl
      refine pure_ (i := 9) (N := some 125) (v := ?_) (a' := ?_) #[true, true, true, true, true, true, true, true, true, true, false, false] rfl rfl (any_of HT_.out (by kernel_rfl)) (fun _ _ _ h => h) (Or.inl ⟨by rfl, ?_⟩) ?_ ?_
      rotate_left
      ·intro w'
       go_simp
       with_reducible rfl
      rotate_left
      ·simp only [Act.put, List.setIfInBounds_toArray, List.set_cons_zero, List.set_cons_succ, i64_w, i32_w]
       rfl
      refine pure_ (i := 10) (N := some 126) (v := ?_) (a' := ?_) #[true, true, true, true, true, true, true, true, true, true, true, false] rfl rfl (any_of HT_.out (by kernel_rfl)) (fun _ _ _ h => h) (Or.inl ⟨by rfl, ?_⟩) ?_ ?_
      rotate_left
      ·intro w'
       go_simp
       with_reducible rfl
      rotate_left
      ·simp only [Act.put, List.setIfInBounds_toArray, List.set_cons_zero, List.set_cons_succ, i64_w, i32_w]
       rfl
      refine last_ (i := 11) (N := none) #[true, true, true, true, true, true, true, true, true, true, true, true] rfl rfl (one_of HT_.out (by kernel_rfl)) (by decide) (fun K hK => ?_)
      refine skip_ (w1 := ?_) (by rfl) rfl ?_ ?_
      rotate_left
      ·go_simp
       rfl
      refine hK.out _ _ ?_
      clear hK K
      refine done_ (done_of HT_.out (by kernel_rfl)) ?_
      have n0_ : Aside0 (Kd.R k57 57 (w56.setCell ⟨go52, 1, none⟩ (.int .i64 (wrap64 (((rd_T46 x103001_1 0).f1) + x12_1)))) w.heap.size (fun _ => True) u10 x10_1) := ⟨by (with_reducible repeat (first | apply Kd.R_alloc | apply Kd.R_drewN | apply Kd.R_drew)); exact Kd.R_mono (Kd.R_far (p := ⟨go52, 1, none⟩) (Kd.R_types HO_10.out GG52.out (by decide)) (fun _ hk => hk.2) (.int .i64 (wrap64 (((rd_T46 x103001_1 0).f1) + x12_1)))) (fun _ hk => trivial)⟩
      have n1_ : Aside0 (Kd.R (Kd.int .i64) 2 (w56.setCell ⟨go52, 1, none⟩ (.int .i64 (wrap64 (((rd_T46 x103001_1 0).f1) + x12_1)))) w.heap.size (fun _ => True) u11 x11_1) := ⟨by (with_reducible repeat (first | apply Kd.R_alloc | apply Kd.R_drewN | apply Kd.R_drew)); exact Kd.R_mono (Kd.R_far (p := ⟨go52, 1, none⟩) (Kd.R_types HO_11.out GG52.out (by decide)) (fun _ hk => hk.2) (.int .i64 (wrap64 (((rd_T46 x103001_1 0).f1) + x12_1)))) (fun _ hk => trivial)⟩
      have n2_ : Aside0 (Kd.R k46 46 (w56.setCell ⟨go52, 1, none⟩ (.int .i64 (wrap64 (((rd_T46 x103001_1 0).f1) + x12_1)))) w.heap.size (fun _ => True) (.slice (some ⟨go52, 0, none⟩) x103001_1.length co55) y117) := ⟨by (with_reducible repeat (first | apply Kd.R_alloc | apply Kd.R_drewN | apply Kd.R_drew)); exact HQ57.out⟩
      have n3_ : Aside0 ((w56.setCell ⟨go52, 1, none⟩ (.int .i64 (wrap64 (((rd_T46 x103001_1 0).f1) + x12_1)))).heap[gb101]? = some (.cells #[.int .i64 0, .slice none 0 0, .int .i64 0, .int .i64 0] 37 (0, 0))) := ⟨by (with_reducible repeat (first | refine blk_drewN ?_ _ | refine blk_drew ?_ | refine blk_alloc ?_ _)); refine blk_far ?_ (by have h_ := Kd.R_ne HO_103001.out BK101.out (by decide); intro e_; exact h_ (by rw [e_]; rfl)) _; (with_reducible repeat (first | refine blk_drewN ?_ _ | refine blk_drew ?_ | refine blk_alloc ?_ _)); exact BK101.out⟩
      have n4_ : Aside0 ((w56.setCell ⟨go52, 1, none⟩ (.int .i64 (wrap64 (((rd_T46 x103001_1 0).f1) + x12_1)))).heap[gb102]? = some (.cells #[.int .i64 (wrap64 (1 + (wrap64 (a1)))), .slice (some ⟨go52, 0, none⟩) x103001_1.length co55, .int .i64 (wrap64 ((wrap64 (a2)) * 4)), .int .i64 600] 37 (0, 0))) := ⟨by (with_reducible repeat (first | refine blk_drewN ?_ _ | refine blk_drew ?_ | refine blk_alloc ?_ _)); refine blk_far ?_ (by have h_ := Kd.R_ne HO_103001.out BK102.out (by decide); intro e_; exact h_ (by rw [e_]; rfl)) _; (with_reducible repeat (first | refine blk_drewN ?_ _ | refine blk_drew ?_ | refine blk_alloc ?_ _)); exact BK102.out⟩
      have n5_ : Aside0 (Below w.heap.size w (w56.setCell ⟨go52, 1, none⟩ (.int .i64 (wrap64 (((rd_T46 x103001_1 0).f1) + x12_1))))) := ⟨by repeat (first | (with_reducible first | exact HB.out | apply below_alloc | apply pw_below_drewN | apply below_drew1 | refine below_set ?_ GB52.out | refine below_set ?_ GE101.out | refine below_set ?_ GE102.out) | exact HB.out)⟩
      (try clear HO_10)
      (try clear HO_11)
      (try clear HO_103001)
      (try clear BK101)
      (try clear BK102)
      (try clear HB)
      generalize (w56.setCell ⟨go52, 1, none⟩ (.int .i64 (wrap64 (((rd_T46 x103001_1 0).f1) + x12_1)))) = w58 at n0_ n1_ n2_ n3_ n4_ n5_ ⊢
      have HO_10 := n0_
      have HO_11 := n1_
      have HO_103001 := n2_
      have BK101 := n3_
      have BK102 := n4_
      have HB := n5_
      clear n0_ n1_ n2_ n3_ n4_ n5_
      have hcz59_0 : w58.cell? ⟨gb102, 0, none⟩ = some (.int .i64 (wrap64 (1 + (wrap64 (a1))))) := (blk_cell BK102.out 0).trans rfl
      have hcz59_1 : w58.cell? ⟨gb102, 1, none⟩ = some (.slice (some ⟨go52, 0, none⟩) x103001_1.length co55) := (blk_cell BK102.out 1).trans rfl
      have hcz59_2 : w58.cell? ⟨gb102, 2, none⟩ = some (.int .i64 (wrap64 ((wrap64 (a2)) * 4))) := (blk_cell BK102.out 2).trans rfl
      have hcz59_3 : w58.cell? ⟨gb102, 3, none⟩ = some (.int .i64 600) := (blk_cell BK102.out 3).trans rfl
      have hfz59_0 := blk_frozen BK102.out 0
      have hfz59_1 := blk_frozen BK102.out 1
      have hfz59_2 := blk_frozen BK102.out 2
      have hfz59_3 := blk_frozen BK102.out 3
      have hcz60_0 : w58.cell? ⟨gb101, 0, none⟩ = some (.int .i64 0) := (blk_cell BK101.out 0).trans rfl
      have hcz60_1 : w58.cell? ⟨gb101, 1, none⟩ = some (.slice none 0 0) := (blk_cell BK101.out 1).trans rfl
      have hcz60_2 : w58.cell? ⟨gb101, 2, none⟩ = some (.int .i64 0) := (blk_cell BK101.out 2).trans rfl
      have hcz60_3 : w58.cell? ⟨gb101, 3, none⟩ = some (.int .i64 0) := (blk_cell BK101.out 3).trans rfl
      have hfz60_0 := blk_frozen BK101.out 0
      have hfz60_1 := blk_frozen BK101.out 1
      have hfz60_2 := blk_frozen BK101.out 2
      have hfz60_3 := blk_frozen BK101.out 3
      try go_wp2
      refine bodyPost_ret (results_ctt rfl _ _ gb101 37 #[.int .i64 (wrap64 (1 + (wrap64 (a1)))), .slice (some ⟨go52, 0, none⟩) x103001_1.length co55, .int .i64 (wrap64 ((wrap64 (a2)) * 4)), .int .i64 600] (0, 0) _ rfl (by (with_reducible repeat (first | refine blk_drewN ?_ _ | refine blk_drew ?_ | refine blk_alloc ?_ _)); refine blk_put (cs := #[.int .i64 (wrap64 (1 + (wrap64 (a1)))), .slice (some ⟨go52, 0, none⟩) x103001_1.length co55, .int .i64 (wrap64 ((wrap64 (a2)) * 4)), .int .i64 0]) ?_ 3 _ rfl; (with_reducible repeat (first | refine blk_drewN ?_ _ | refine blk_drew ?_ | refine blk_alloc ?_ _)); refine blk_put (cs := #[.int .i64 (wrap64 (1 + (wrap64 (a1)))), .slice (some ⟨go52, 0, none⟩) x103001_1.length co55, .int .i64 0, .int .i64 0]) ?_ 2 _ rfl; (with_reducible repeat (first | refine blk_drewN ?_ _ | refine blk_drew ?_ | refine blk_alloc ?_ _)); refine blk_put (cs := #[.int .i64 (wrap64 (1 + (wrap64 (a1)))), .slice none 0 0, .int .i64 0, .int .i64 0]) ?_ 1 _ rfl; (with_reducible repeat (first | refine blk_drewN ?_ _ | refine blk_drew ?_ | refine blk_alloc ?_ _)); refine blk_put (cs := #[.int .i64 0, .slice none 0 0, .int .i64 0, .int .i64 0]) ?_ 0 _ rfl; (with_reducible repeat (first | refine blk_drewN ?_ _ | refine blk_drew ?_ | refine blk_alloc ?_ _)); exact BK101.out) Try.underlying37 rfl (by kernel_rfl)) rfl ?_
      exact ⟨_, _, _, by first | rfl | (simp [errW_none, errW_some] <;> rfl) | (simp [*, errW_none, errW_some] <;> rfl), by (with_reducible repeat (first | apply Kd.R_alloc | apply Kd.R_drewN | apply Kd.R_drew)); exact Kd.R_mono (Kd.R_far (p := ⟨gb101, 3, none⟩) (Kd.R_far (p := ⟨gb101, 2, none⟩) (Kd.R_far (p := ⟨gb101, 1, none⟩) (Kd.R_far (p := ⟨gb101, 0, none⟩) (Kd.R_types HO_103001.out BK101.out (by decide)) (fun _ hk => hk.2) (.int .i64 (wrap64 (1 + (wrap64 (a1)))))) (fun _ hk => hk.2) (.slice (some ⟨go52, 0, none⟩) x103001_1.length co55)) (fun _ hk => hk.2) (.int .i64 (wrap64 ((wrap64 (a2)) * 4)))) (fun _ hk => hk.2) (.int .i64 600)) (fun _ hk => trivial), by (with_reducible repeat (first | apply Kd.R_alloc | apply Kd.R_drewN | apply Kd.R_drew)); exact Kd.R_mono (Kd.R_far (p := ⟨gb101, 3, none⟩) (Kd.R_far (p := ⟨gb101, 2, none⟩) (Kd.R_far (p := ⟨gb101, 1, none⟩) (Kd.R_far (p := ⟨gb101, 0, none⟩) (Kd.R_types HO_10.out BK101.out (by decide)) (fun _ hk => hk.2) (.int .i64 (wrap64 (1 + (wrap64 (a1)))))) (fun _ hk => hk.2) (.slice (some ⟨go52, 0, none⟩) x103001_1.length co55)) (fun _ hk => hk.2) (.int .i64 (wrap64 ((wrap64 (a2)) * 4)))) (fun _ hk => hk.2) (.int .i64 600)) (fun _ hk => trivial), by (with_reducible repeat (first | apply Kd.R_alloc | apply Kd.R_drewN | apply Kd.R_drew)); exact Kd.R_mono (Kd.R_far (p := ⟨gb101, 3, none⟩) (Kd.R_far (p := ⟨gb101, 2, none⟩) (Kd.R_far (p := ⟨gb101, 1, none⟩) (Kd.R_far (p := ⟨gb101, 0, none⟩) (Kd.R_types HO_11.out BK101.out (by decide)) (fun _ hk => hk.2) (.int .i64 (wrap64 (1 + (wrap64 (a1)))))) (fun _ hk => hk.2) (.slice (some ⟨go52, 0, none⟩) x103001_1.length co55)) (fun _ hk => hk.2) (.int .i64 (wrap64 ((wrap64 (a2)) * 4)))) (fun _ hk => hk.2) (.int .i64 600)) (fun _ hk => trivial), by repeat (first | (with_reducible first | exact HB.out | apply below_alloc | apply pw_below_drewN | apply below_drew1 | refine below_set ?_ GE101.out | refine below_set ?_ GE102.out) | exact HB.out)⟩
     ·rw [if_neg c51] at H
      exact absurd H (by simp)
    ·rw [if_neg c50] at H
     have c50b0 : decide (0 < (x103001_1.length : Int)) = false := decide_eq_false c50
     have c50b1 : decide (0 < x103001_1.length) = false := decide_eq_false (by omega)
     clear c50
     simp only [Option.some.injEq, Prod.mk.injEq] at H
     obtain ⟨rfl, rfl, rfl, rfl, rfl, rfl⟩ := H
     have hnb61 := NB102_101.out
     have hnc61 := NB101_102.out
     have hcz62_0 : wr.cell? ⟨gb102, 0, none⟩ = some (.int .i64 (wrap64 (1 + (wrap64 (a1))))) := (blk_cell BK102.out 0).trans rfl
     have hcz62_1 : wr.cell? ⟨gb102, 1, none⟩ = some (u103001) := (blk_cell BK102.out 1).trans rfl
     have hcz62_2 : wr.cell? ⟨gb102, 2, none⟩ = some (.int .i64 (wrap64 ((wrap64 (a2)) * 4))) := (blk_cell BK102.out 2).trans rfl
     have hcz62_3 : wr.cell? ⟨gb102, 3, none⟩ = some (.int .i64 600) := (blk_cell BK102.out 3).trans rfl
     have hfz62_0 := blk_frozen BK102.out 0
     have hfz62_1 := blk_frozen BK102.out 1
     have hfz62_2 := blk_frozen BK102.out 2
     have hfz62_3 := blk_frozen BK102.out 3
     obtain ⟨Ao63, co63, eo63⟩ := Kd.R_slice HO_103001.out
     subst eo63
     have hcz64_0 : wr.cell? ⟨gb101, 0, none⟩ = some (.int .i64 0) := (blk_cell BK101.out 0).trans rfl
     have hcz64_1 : wr.cell? ⟨gb101, 1, none⟩ = some (.slice none 0 0) := (blk_cell BK101.out 1).trans rfl
     have hcz64_2 : wr.cell? ⟨gb101, 2, none⟩ = some (.int .i64 0) := (blk_cell BK101.out 2).trans rfl
     have hcz64_3 : wr.cell? ⟨gb101, 3, none⟩ = some (.int .i64 0) := (blk_cell BK101.out 3).trans rfl
     have hfz64_0 := blk_frozen BK101.out 0
     have hfz64_1 := blk_frozen BK101.out 1
     have hfz64_2 := blk_frozen BK101.out 2
     have hfz64_3 := blk_frozen BK101.out 3
     go_wp2
     refine bodyPost_ret (results_ctt rfl _ _ gb101 37 #[.int .i64 (wrap64 (1 + (wrap64 (a1)))), .slice Ao63 x103001_1.length co63, .int .i64 (wrap64 ((wrap64 (a2)) * 4)), .int .i64 600] (0, 0) _ rfl (by (with_reducible repeat (first | refine blk_drewN ?_ _ | refine blk_drew ?_ | refine blk_alloc ?_ _)); refine blk_put (cs := #[.int .i64 (wrap64 (1 + (wrap64 (a1)))), .slice Ao63 x103001_1.length co63, .int .i64 (wrap64 ((wrap64 (a2)) * 4)), .int .i64 0]) ?_ 3 _ rfl; (with_reducible repeat (first | refine blk_drewN ?_ _ | refine blk_drew ?_ | refine blk_alloc ?_ _)); refine blk_put (cs := #[.int .i64 (wrap64 (1 + (wrap64 (a1)))), .slice Ao63 x103001_1.length co63, .int .i64 0, .int .i64 0]) ?_ 2 _ rfl; (with_reducible repeat (first | refine blk_drewN ?_ _ | refine blk_drew ?_ | refine blk_alloc ?_ _)); refine blk_put (cs := #[.int .i64 (wrap64 (1 + (wrap64 (a1)))), .slice none 0 0, .int .i64 0, .int .i64 0]) ?_ 1 _ rfl; (with_reducible repeat (first | refine blk_drewN ?_ _ | refine blk_drew ?_ | refine blk_alloc ?_ _)); refine blk_put (cs := #[.int .i64 0, .slice none 0 0, .int .i64 0, .int .i64 0]) ?_ 0 _ rfl; (with_reducible repeat (first | refine blk_drewN ?_ _ | refine blk_drew ?_ | refine blk_alloc ?_ _)); exact BK101.out) Try.underlying37 rfl (by kernel_rfl)) rfl ?_
     exact ⟨_, _, _, by first | rfl | (simp [errW_none, errW_some] <;> rfl) | (simp [*, errW_none, errW_some] <;> rfl), by (with_reducible repeat (first | apply Kd.R_alloc | apply Kd.R_drewN | apply Kd.R_drew)); exact Kd.R_mono (Kd.R_far (p := ⟨gb101, 3, none⟩) (Kd.R_far (p := ⟨gb101, 2, none⟩) (Kd.R_far (p := ⟨gb101, 1, none⟩) (Kd.R_far (p := ⟨gb101, 0, none⟩) (Kd.R_types HO_103001.out BK101.out (by decide)) (fun _ hk => hk.2) (.int .i64 (wrap64 (1 + (wrap64 (a1)))))) (fun _ hk => hk.2) (.slice Ao63 x103001_1.length co63)) (fun _ hk => hk.2) (.int .i64 (wrap64 ((wrap64 (a2)) * 4)))) (fun _ hk => hk.2) (.int .i64 600)) (fun _ hk => trivial), by (with_reducible repeat (first | apply Kd.R_alloc | apply Kd.R_drewN | apply Kd.R_drew)); exact Kd.R_mono (Kd.R_far (p := ⟨gb101, 3, none⟩) (Kd.R_far (p := ⟨gb101, 2, none⟩) (Kd.R_far (p := ⟨gb101, 1, none⟩) (Kd.R_far (p := ⟨gb101, 0, none⟩) (Kd.R_types HO_10.out BK101.out (by decide)) (fun _ hk => hk.2) (.int .i64 (wrap64 (1 + (wrap64 (a1)))))) (fun _ hk => hk.2) (.slice Ao63 x103001_1.length co63)) (fun _ hk => hk.2) (.int .i64 (wrap64 ((wrap64 (a2)) * 4)))) (fun _ hk => hk.2) (.int .i64 600)) (fun _ hk => trivial), by (with_reducible repeat (first | apply Kd.R_alloc | apply Kd.R_drewN | apply Kd.R_drew)); exact Kd.R_mono (Kd.R_far (p := ⟨gb101, 3, none⟩) (Kd.R_far (p := ⟨gb101, 2, none⟩) (Kd.R_far (p := ⟨gb101, 1, none⟩) (Kd.R_far (p := ⟨gb101, 0, none⟩) (Kd.R_types HO_11.out BK101.out (by decide)) (fun _ hk => hk.2) (.int .i64 (wrap64 (1 + (wrap64 (a1)))))) (fun _ hk => hk.2) (.slice Ao63 x103001_1.length co63)) (fun _ hk => hk.2) (.int .i64 (wrap64 ((wrap64 (a2)) * 4)))) (fun _ hk => hk.2) (.int .i64 600)) (fun _ hk => trivial), by repeat (first | (with_reducible first | exact HB.out | apply below_alloc | apply pw_below_drewN | apply below_drew1 | refine below_set ?_ GE101.out | refine below_set ?_ GE102.out) | exact HB.out)⟩
end Go.Proofs.Ytebcmhajbjkojaa.P
namespace Go.Proofs.Ytebcmhajbjkojaa.P
open Go.RowKit Go.Proofs.YtebcmhajbjkojaaW.PrintWords Go.Proofs.YtebcmhajbjkojaaW.PrintLast Go.Proofs.YtebcmhajbjkojaaW.PrintMore
attribute [local go_sem] max2_int min2_int max_two min_two max_three min_three max_four min_four   -- for this text's walks alone
set_option linter.unusedVariables false
set_option linter.unusedSimpArgs false
def mooring_Lifts.f (d : Int) (els : List S46) (an fr : Int) : Option (List Int × Int) := if els.length < 17592186044416 then (if Moor.chk d els an fr = 0 then some (Moor.lifts els, 0) else some ([], Moor.chk d els an fr)) else none
theorem Moor.zeros_err (d : Int) (els : List S46) (an fr : Int) : Moor.err d els an fr (List.replicate els.length z57) false = Moor.chk d els an fr := by
 unfold Moor.err
 by_cases h : Moor.chk d els an fr = 0
 ·rw [if_neg (by simpa using h), if_neg (by simp), h]
  unfold Moor.err2
  have h1 : (List.replicate els.length z57).all Moor.curB = true := by
   rw [List.all_eq_true]
   intro x hx
   rw [List.eq_of_mem_replicate hx]
   decide
  rw [if_pos h1, if_neg (by simp)]
 ·rw [if_pos h]
theorem NewForces.cases' {w w' : World} {A : Option Addr} {c : Nat} {d an fr : Int} {els : List S46} {cs : List S57} {r : Int} {e : Ending} (h : NewForces w A c d an fr els cs r e w') : ∃ p, e = .returned (.tuple #[p, .int .i64 r]) ∧ Below w.heap.size w w' ∧ (r = 0 → ∃ g, p = .pointer (some ⟨g, 0, none⟩) ∧ OwnForces w w' g (Moor.on els cs) (Moor.lifts els)) := by
 rcases h with ⟨h0, h1, h2⟩ | ⟨h0, g, h1, _, h3, h4⟩
 ·exact ⟨_, h1, h2, fun e => absurd e h0⟩
 ·subst h0
  exact ⟨_, h1, h4, fun _ => ⟨g, rfl, h3⟩⟩
def Lifts.T1 : Bool × List (List Nat × List Nat) := (true, [([], []), ([], []), ([1], [1]), ([2], [2]), ([3, 3], [3]), ([0, 4], [0, 4]), ([5], [5]), ([6], [6]), ([6], [6]), ([7, 5, 0, 1, 2, 3, 4, 5, 6, 7], [7]), ([8, 9, 0, 1, 2, 3, 4, 5, 6, 7, 8, 9], [8])])
def Lifts.B1 : List Nat := [0, 0, 2, 6, 14, 31, 63, 127, 127, 255, 1023]
theorem Lifts.tab1 : rtab .any (opsOf Try.f24 1) = Lifts.T1 := by kernel_rfl
theorem Lifts.bits1 : waitsOk Lifts.T1.2 Lifts.B1 = true := by kernel_rfl
set_option maxHeartbeats 8000000 in
set_option maxRecDepth 100000 in
theorem mooring_Lifts.calls (d : Int) (A : Option Addr) (c : Nat) (els : List S46) (an fr : Int) (r1 : List Int) (r2 : Int) (w : World) (hr0 : Kd.C k46 w A els.length els) (hc0 : els.length ≤ c) (h : mooring_Lifts.f d els an fr = some (r1, r2)) :
  Calls Try.prog 24 #[.agg #[.int .i64 d, .slice A els.length c, .int .i64 an, .int .i64 fr]] w fun e w' => ∃ v0_ : Value, e = .returned (.tuple #[v0_, .int .i64 r2]) ∧ Kd.R (Kd.int .i64) 2 w' w.heap.size (fun _ => True) v0_ r1 ∧ Below w.heap.size w w' := by
 have hu37 := Try.underlying37
 have hu57 := Try.underlying57
 have hu98 := Try.underlying98
 unfold mooring_Lifts.f at h
 by_cases hsm : els.length < 17592186044416
 ·rw [if_pos hsm] at h
  obtain ⟨r, hr⟩ : ∃ r, Moor.chk d els an fr = r := ⟨_, rfl⟩
  have hrr : Moor.err d els an fr (List.replicate els.length z57) false = r := by rw [Moor.zeros_err, hr]
  rw [hr] at h
  have NF := Aside0.mk (fun (w1 : World) (A1 : Option Addr) (c1 : Nat) (hb1 : Below w.heap.size w w1) (hr1 : Kd.C k57 w1 A1 (List.replicate els.length z57).length (List.replicate els.length z57)) (hc1 : (List.replicate els.length z57).length ≤ c1) => mooring_newForces.calls A c A1 c1 _ false r w1 (Kd.C_below hr0 hb1) hc0 hr1 hc1 hrr)
  have HSM := Aside0.mk hsm
  have RL : Aside0 ((List.replicate els.length z57).length = els.length) := ⟨List.length_replicate⟩
  clear hr0 hc0 hr hrr hsm
  have H := Aside0.mk h
  clear h
  go_enter Try.func24, Try.ntmps24
  go_wp2_with ((with_reducible refine gate_dst (N := 1) rfl ?_); refine box_event ?hg (N := 1) ?hd (cs := #[.int .i64 d, .slice A els.length c, .int .i64 an, .int .i64 fr]) (t := 37) ?hr ?_; (case hd => rfl); (case hg => rfl); (case hr => first | (go_simp; done) | (go_simp; rfl)); intro gm hgm w1 hbk hb0; have BM := Aside0.mk hbk; have HB := Aside0.mk hb0; clear hgm hbk hb0)
  have n0 := Aside0.mk (blk_drew BM.out)
  have n1 := Aside0.mk (below_drew1 HB.out)
  clear BM HB
  have BM := n0
  have HB := n1
  clear n0 n1
  refine start_ (n := 11) (S := fun w' => w'.cell? ⟨gm, 0, none⟩ = some (.int .i64 d) ∧ w'.cell? ⟨gm, 1, none⟩ = some (.slice A els.length c) ∧ w'.cell? ⟨gm, 2, none⟩ = some (.int .i64 an) ∧ w'.cell? ⟨gm, 3, none⟩ = some (.int .i64 fr)) (ds := []) #[false, false, false, false, false, false, false, false, false, false, false] (by kernel_rfl) rfl rfl ⟨((blk_cell BM.out 0).trans rfl), ((blk_cell BM.out 1).trans rfl), ((blk_cell BM.out 2).trans rfl), ((blk_cell BM.out 3).trans rfl)⟩ (fun hHeld => ?_)
  refine with_tabW Lifts.tab1 Lifts.bits1 (fun HT_ HW_ => ?_)
  generalize World.drew _ = w2 at BM HB hHeld ⊢
  refine pure_ (i := 1) (N := some 8) (v := ?_) (a' := ?_) #[false, true, false, false, false, false, false, false, false, false, false] rfl rfl (any_of HT_.out (by kernel_rfl)) (fun _ _ _ h => h) (Or.inl ⟨by rfl, ?_⟩) ?_ ?_
  rotate_left
  ·intro w'
   go_simp
   with_reducible rfl
  rotate_left
  ·simp only [Act.put, List.setIfInBounds_toArray, List.set_cons_zero, List.set_cons_succ, i64_w, i32_w]
   rfl
  refine take_ (i := 0) (N := some 7) (v := ?_) (a' := ?_) #[true, true, false, false, false, false, false, false, false, false, false] rfl rfl (take_ofW HT_.out HW_.out (by kernel_rfl)) (fun _ _ _ h => h) (Or.inl ⟨by rfl, ?_⟩) hHeld ?_ ?_
  rotate_left
  ·rintro w' ⟨s0, s1, s2, s3⟩
   go_simp
   with_reducible rfl
  rotate_left
  ·simp only [Act.put, List.setIfInBounds_toArray, List.set_cons_zero, List.set_cons_succ, i64_w, i32_w]
   rfl
  refine take_ (i := 2) (N := some 9) (v := ?_) (a' := ?_) #[true, true, true, false, false, false, false, false, false, false, false] rfl rfl (take_ofW HT_.out HW_.out (by kernel_rfl)) (fun _ _ _ h => h) (Or.inl ⟨by rfl, ?_⟩) hHeld ?_ ?_
  rotate_left
  ·rintro w' ⟨s0, s1, s2, s3⟩
   go_simp
   with_reducible rfl
  rotate_left
  ·simp only [Act.put, List.setIfInBounds_toArray, List.set_cons_zero, List.set_cons_succ, i64_w, i32_w]
   rfl
  refine pure_ (i := 3) (N := some 10) (v := ?_) (a' := ?_) #[true, true, true, true, false, false, false, false, false, false, false] rfl rfl (any_of HT_.out (by kernel_rfl)) (fun _ _ _ h => h) (Or.inl ⟨by rfl, ?_⟩) ?_ ?_
  rotate_left
  ·intro w'
   go_simp
   with_reducible rfl
  rotate_left
  ·simp only [Act.put, List.setIfInBounds_toArray, List.set_cons_zero, List.set_cons_succ, i64_w, i32_w]
   rfl
  refine one_ (i := 4) (N := some 11) #[true, true, true, true, true, false, false, false, false, false, false] rfl rfl (one_of HT_.out (by kernel_rfl)) (by decide) (fun K hK => ?_)
  refine Kd.R_make_step k57 (w0 := w) w.heap.size 57 (by rfl) rfl 48 _ _ rfl (els.length : Int) rfl rfl Try.underlying48 (.agg #[(.int .i64 0), (.int .i64 0)]) 16 info57 rfl (by decide) (by omega) z57 (ok := fun _ => True) (okp := fun _ => False) ?zz (fun _ _ => trivial) trivial (by omega) ?zl HB.out (below_size HB.out) ?_
  (case zz => exact k57_mkM _ _ _ z57)
  (case zl => rw [Int.toNat_natCast]; have := HSM.out; omega)
  intro v1 w3 hrow hb3 hg3 _
  rw [Int.toNat_natCast] at hrow
  obtain ⟨A5, c5, rfl, hl5, hC5⟩ := Kd.R_reads hrow
  have n1 := Aside0.mk (blk_grown BM.out hg3 (by simp))
  have HP := Aside0.mk hC5
  have HL := Aside0.mk hl5
  clear BM HB hrow hg3 hC5 hl5
  have BM := n1
  have HB := Aside0.mk hb3
  clear n1 hb3
  refine hK.out _ _ ⟨((blk_cell BM.out 0).trans rfl), ((blk_cell BM.out 1).trans rfl), ((blk_cell BM.out 2).trans rfl), ((blk_cell BM.out 3).trans rfl)⟩ (fun hHeld => ?_)
  clear hK K
  refine norm_ (a' := ?_) ?_ ?_
  rotate_left
  ·show Act.put _ (some 11) _ = _
   simp only [Act.put, List.setIfInBounds_toArray, List.set_cons_zero, List.set_cons_succ, i64_w, i32_w]
   rfl
  refine one_ (i := 5) (N := some 12) #[true, true, true, true, true, true, false, false, false, false, false] rfl rfl (one_of HT_.out (by kernel_rfl)) (by decide) (fun K hK => ?_)
  refine goes_ Try.func58 (by kernel_rfl) rfl #[.agg #[.int .i64 d, .slice A els.length c, .int .i64 an, .int .i64 fr], .slice A5 (List.replicate els.length z57).length c5, .bool false] (by rfl) rfl rfl (by simp only [List.map_toArray, List.map_cons, List.map_nil]; rfl) ?_
  with_reducible refine (NF.out _ A5 c5 HB.out HP.out HL.out).mono ?_
  intro e w4 hnf
  obtain ⟨pt, he, hb4, hok⟩ := NewForces.cases' hnf
  subst he
  refine ⟨_, rfl, ?_⟩
  have n1 := Aside0.mk (below_step HB.out hb4)
  have n2 := Aside0.mk (blk_below BM.out hb4)
  have HW := Aside0.mk (below_size HB.out)
  have HOK := Aside0.mk hok
  clear HB BM HP HL hnf hb4 hok
  have HB := n1
  have BM := n2
  clear n1 n2
  refine hK.out _ _ ⟨((blk_cell BM.out 0).trans rfl), ((blk_cell BM.out 1).trans rfl), ((blk_cell BM.out 2).trans rfl), ((blk_cell BM.out 3).trans rfl)⟩ (fun hHeld => ?_)
  clear hK K
  refine norm_ (a' := ?_) ?_ ?_
  rotate_left
  ·show Act.put _ (some 12) _ = _
   simp only [Act.put, List.setIfInBounds_toArray, List.set_cons_zero, List.set_cons_succ, i64_w, i32_w]
   rfl
  refine pure_ (i := 6) (N := some 6) (v := ?_) (a' := ?_) #[true, true, true, true, true, true, true, false, false, false, false] rfl rfl (any_of HT_.out (by kernel_rfl)) (fun _ _ _ h => h) (Or.inl ⟨by rfl, ?_⟩) ?_ ?_
  rotate_left
  ·intro w'
   go_simp
   with_reducible rfl
  rotate_left
  ·simp only [Act.put, List.setIfInBounds_toArray, List.set_cons_zero, List.set_cons_succ, i64_w, i32_w]
   rfl
  refine pure_ (i := 7) (N := some 13) (v := ?_) (a' := ?_) #[true, true, true, true, true, true, true, true, false, false, false] rfl rfl (any_of HT_.out (by kernel_rfl)) (fun _ _ _ h => h) (Or.inl ⟨by rfl, ?_⟩) ?_ ?_
  rotate_left
  ·intro w'
   go_simp
   with_reducible rfl
  rotate_left
  ·simp only [Act.put, List.setIfInBounds_toArray, List.set_cons_zero, List.set_cons_succ, i64_w, i32_w]
   rfl
  refine pure_ (i := 8) (N := some 14) (v := ?_) (a' := ?_) #[true, true, true, true, true, true, true, true, true, false, false] rfl rfl (any_of HT_.out (by kernel_rfl)) (fun _ _ _ h => h) (Or.inl ⟨by rfl, ?_⟩) ?_ ?_
  rotate_left
  ·intro w'
   go_simp
   with_reducible rfl
  rotate_left
  ·simp only [Act.put, List.setIfInBounds_toArray, List.set_cons_zero, List.set_cons_succ, i64_w, i32_w]
   rfl
  refine pure_ (i := 9) (N := some 4) (v := ?_) (a' := ?_) #[true, true, true, true, true, true, true, true, true, true, false] rfl rfl (any_of HT_.out (by kernel_rfl)) (fun _ _ _ h => h) (Or.inl ⟨by rfl, ?_⟩) ?_ ?_
  rotate_left
  ·intro w'
   go_simp
   with_reducible rfl
  rotate_left
  ·simp only [Act.put, List.setIfInBounds_toArray, List.set_cons_zero, List.set_cons_succ, i64_w, i32_w]
   rfl
  refine pure_ (i := 10) (N := some 5) (v := ?_) (a' := ?_) #[true, true, true, true, true, true, true, true, true, true, true] rfl rfl (any_of HT_.out (by kernel_rfl)) (fun _ _ _ h => h) (Or.inl ⟨by rfl, ?_⟩) ?_ ?_
  rotate_left
  ·intro w'
   go_simp
   with_reducible rfl
  rotate_left
  ·simp only [Act.put, List.setIfInBounds_toArray, List.set_cons_zero, List.set_cons_succ, i64_w, i32_w]
   rfl
  refine done_ (done_of HT_.out (by kernel_rfl)) ?_
  clear hHeld BM
  by_cases c0 : r = 0
  ·subst c0
   have h := H.out
   rw [if_pos rfl] at h
   have h := Option.some.inj h
   simp only [Prod.mk.injEq] at h
   obtain ⟨rfl, rfl⟩ := h
   obtain ⟨g, rfl, v0, v1, v2, v3, v4, v5, v6, v7, von, vli, ho1, ho2, ho3⟩ := HOK.out rfl
   have OW := Aside0.mk (Kd.R_lower ho3 HW.out)
   have hz9 := (blk_cell ho1 9).trans rfl
   clear ho1 ho2 ho3 HOK
   obtain ⟨A8, n8, c8, rfl⟩ : ∃ A n c, vli = .slice A n c := by
    obtain ⟨A, c, h⟩ := Kd.R_slice OW.out
    exact ⟨A, _, c, h⟩
   go_wp2
   go_ret2
   exact ⟨_, rfl, OW.out, HB.out⟩
  ·have h := H.out
   rw [if_neg c0] at h
   have h := Option.some.inj h
   simp only [Prod.mk.injEq] at h
   obtain ⟨rfl, rfl⟩ := h
   have d1 : (r != 0) = true := bne_iff_ne.mpr c0
   clear c0
   go_wp2
   go_ret2
   exact ⟨_, rfl, Kd.R_nil _ _ _ _ _, HB.out⟩
 ·rw [if_neg hsm] at h
  cases h
end Go.Proofs.Ytebcmhajbjkojaa.P
namespace Go.Proofs.Ytebcmhajbjkojaa.P
open Go.RowKit Go.Proofs.YtebcmhajbjkojaaW.PrintWords Go.Proofs.YtebcmhajbjkojaaW.PrintLast Go.Proofs.YtebcmhajbjkojaaW.PrintMore
attribute [local go_sem] max2_int min2_int max_two min_two max_three min_three max_four min_four   -- for this text's walks alone
set_option linter.unusedVariables false
set_option linter.unusedSimpArgs false
def mooring_Pulls.f (d : Int) (els : List S46) (an fr : Int) (cs : List S57) (free : Bool) : Option (List S57 × Int) := if Moor.err d els an fr cs false = 0 then some (Moor.pulls free (Moor.on els cs), 0) else some ([], Moor.err d els an fr cs false)
set_option maxHeartbeats 8000000 in
set_option maxRecDepth 100000 in
theorem mooring_Pulls.calls (d : Int) (A : Option Addr) (c : Nat) (els : List S46) (an fr : Int) (A1 : Option Addr) (c1 : Nat) (cs : List S57) (free : Bool) (r1 : List S57) (r2 : Int) (w : World) (hr0 : Kd.C k46 w A els.length els) (hc0 : els.length ≤ c) (hr1 : Kd.C k57 w A1 cs.length cs) (hc1 : cs.length ≤ c1) (h : mooring_Pulls.f d els an fr cs free = some (r1, r2)) :
  Calls Try.prog 26 #[.agg #[.int .i64 d, .slice A els.length c, .int .i64 an, .int .i64 fr], .slice A1 cs.length c1, .bool free] w fun e w' => ∃ v0_ : Value, e = .returned (.tuple #[v0_, .int .i64 r2]) ∧ Kd.R k57 57 w' w.heap.size (fun _ => True) v0_ r1 ∧ Below w.heap.size w w' := by
 have hu37 := Try.underlying37
 have hu57 := Try.underlying57
 have hu98 := Try.underlying98
 have hu129 := Try.underlying129
 obtain ⟨r, hr⟩ : ∃ r, Moor.err d els an fr cs false = r := ⟨_, rfl⟩
 have NF := Aside0.mk (fun (w1 : World) (hb1 : Below w.heap.size w w1) => mooring_newForces.calls A c A1 c1 cs false r w1 (Kd.C_below hr0 hb1) hc0 (Kd.C_below hr1 hb1) hc1 hr)
 have HR := Aside0.mk hr
 unfold mooring_Pulls.f at h
 rw [hr] at h
 have HR0 := Aside0.mk hr0
 clear hr0 hc0 hr1 hc1 hr
 by_cases c0 : r = 0
 ·subst c0
  rw [if_pos rfl] at h
  have h := Option.some.inj h
  simp only [Prod.mk.injEq] at h
  obtain ⟨rfl, rfl⟩ := h
  have OKM := Aside0.mk (Moor.err_ok HR.out).1
  go_enter Try.func26, Try.ntmps26
  go_wp2_with (first | ((with_reducible refine gate_dst (N := 3) rfl ?_); refine box_event ?hg (N := 3) ?hd (cs := #[.int .i64 d, .slice A els.length c, .int .i64 an, .int .i64 fr]) (t := 37) ?hr ?_; (case hd => rfl); (case hg => rfl); (case hr => first | (go_simp; done) | (go_simp; rfl)); intro gm hgm w1 hbk hb0; have BM := Aside0.mk hbk; have HB := Aside0.mk hb0; have hz0 := (blk_cell hbk 0).trans rfl; have hz1 := (blk_cell hbk 1).trans rfl; have hz2 := (blk_cell hbk 2).trans rfl; have hz3 := (blk_cell hbk 3).trans rfl; clear hgm hbk hb0) | (go_at_call 58; (with_reducible refine (NF.out _ HB.out).mono ?_); intro e w3 hnf; obtain ⟨gs, he, hf, ho, hb1⟩ := NewForces.of_zero hnf; subst he; have FO := Aside0.mk hf; clear ho; have n1 := Aside0.mk (below_step HB.out hb1); clear HB BM hz0 hz1 hz2 hz3 hnf hb1 hf; have HB := n1; clear n1; ) | (go_at_call 60; (with_reducible refine (mooring_pulls.calls A c gs free _ FO.out ?p1 ?p2).mono ?_); (case p1 => exact (by rw [OKM.out.onlen]; exact OKM.out.n40)); (case p2 => exact Moor.on_onB OKM.out.elok OKM.out.cur); rintro e w4 ⟨v, rfl, hp, hb1⟩; have n1 := Aside0.mk (below_step HB.out hb1); have RP := Aside0.mk (Kd.R_lower hp (below_size HB.out)); clear HB FO hp hb1; have HB := n1; clear n1))
  go_ret2
  exact ⟨_, rfl, RP.out, HB.out⟩
 ·rw [if_neg c0] at h
  have h := Option.some.inj h
  simp only [Prod.mk.injEq] at h
  obtain ⟨rfl, rfl⟩ := h
  have d1 : (r != 0) = true := bne_iff_ne.mpr c0
  have C0 := Aside0.mk c0
  clear c0
  go_enter Try.func26, Try.ntmps26
  go_wp2_with (first | ((with_reducible refine gate_dst (N := 3) rfl ?_); refine box_event ?hg (N := 3) ?hd (cs := #[.int .i64 d, .slice A els.length c, .int .i64 an, .int .i64 fr]) (t := 37) ?hr ?_; (case hd => rfl); (case hg => rfl); (case hr => first | (go_simp; done) | (go_simp; rfl)); intro gm hgm w1 hbk hb0; have BM := Aside0.mk hbk; have HB := Aside0.mk hb0; have hz0 := (blk_cell hbk 0).trans rfl; have hz1 := (blk_cell hbk 1).trans rfl; have hz2 := (blk_cell hbk 2).trans rfl; have hz3 := (blk_cell hbk 3).trans rfl; clear hgm hbk hb0) | (go_at_call 58; (with_reducible refine (NF.out _ HB.out).mono ?_); intro e w3 hnf; obtain ⟨he, hb1⟩ := NewForces.of_ne hnf C0.out; subst he; have n1 := Aside0.mk (below_step HB.out hb1); clear HB BM hz0 hz1 hz2 hz3 hnf hb1; have HB := n1; clear n1; ))
  go_ret2
  exact ⟨_, rfl, Kd.R_nil _ _ _ _ _, HB.out⟩
end Go.Proofs.Ytebcmhajbjkojaa.P
namespace Go.Proofs.Ytebcmhajbjkojaa.P
open Go.RowKit Go.Proofs.YtebcmhajbjkojaaW.PrintWords Go.Proofs.YtebcmhajbjkojaaW.PrintLast Go.Proofs.YtebcmhajbjkojaaW.PrintMore
attribute [local go_sem] max2_int min2_int max_two min_two max_three min_three max_four min_four   -- for this text's walks alone
set_option linter.unusedVariables false
set_option linter.unusedSimpArgs false
def mooring_Shape.f (d : Int) (els : List S46) (an fr : Int) (cs : List S57) (free : Bool) : Option (List S57 × List S57 × Int) := if Moor.err d els an fr cs true = 0 then some (Moor.list (Moor.offsAt els (Moor.pulls free (Moor.on els cs)) (Moor.lifts els)) els.length, Moor.list (Moor.riseAt els (Moor.pulls free (Moor.on els cs)) (Moor.lifts els)) els.length, 0) else some ([], [], Moor.err d els an fr cs true)
theorem Shape_two {w W w1 : World} {v0 v1 : Value} {xs ys : List S57} (h0 : Kd.R k57 57 W w.heap.size (fun _ => True) v0 xs) (h1 : Kd.R k57 57 w1 W.heap.size (fun _ => True) v1 ys) (hle : w.heap.size ≤ W.heap.size) (hb : Below W.heap.size W w1) :
  Kd.R k57 57 w1 w.heap.size (fun k_ => some k_ ≠ v1.ownBlock) v0 xs ∧ Kd.R k57 57 w1 w.heap.size (fun k_ => some k_ ≠ v0.ownBlock) v1 ys := by
 have b0 := Kd.R_bound h0
 have b1 := Kd.R_bound h1
 refine ⟨Kd.R_below (Kd.R_mono b0 (fun k hk he => ?_)) hb, Kd.R_lower (Kd.R_mono b1 (fun k hk he => ?_)) hle⟩
 ·have h2 := (b1.1 k he.symm).2.1
  have h3 := hk.2.2.1
  omega
 ·have h2 := (b0.1 k he.symm).2.2.1
  have h3 := hk.2.1
  omega
set_option maxHeartbeats 8000000 in
set_option maxRecDepth 100000 in
theorem mooring_Shape.calls (d : Int) (A : Option Addr) (c : Nat) (els : List S46) (an fr : Int) (A1 : Option Addr) (c1 : Nat) (cs : List S57) (free : Bool) (r1 : List S57) (r2 : List S57) (r3 : Int) (w : World) (hr0 : Kd.C k46 w A els.length els) (hc0 : els.length ≤ c) (hr1 : Kd.C k57 w A1 cs.length cs) (hc1 : cs.length ≤ c1) (h : mooring_Shape.f d els an fr cs free = some (r1, r2, r3)) :
  Calls Try.prog 27 #[.agg #[.int .i64 d, .slice A els.length c, .int .i64 an, .int .i64 fr], .slice A1 cs.length c1, .bool free] w fun e w' => ∃ v0_ v1_ : Value, e = .returned (.tuple #[v0_, v1_, .int .i64 r3]) ∧ Kd.R k57 57 w' w.heap.size (fun k_ => some k_ ≠ (v1_ : Value).ownBlock) v0_ r1 ∧ Kd.R k57 57 w' w.heap.size (fun k_ => some k_ ≠ (v0_ : Value).ownBlock) v1_ r2 ∧ Below w.heap.size w w' := by
 have hu37 := Try.underlying37
 have hu57 := Try.underlying57
 have hu98 := Try.underlying98
 have hu129 := Try.underlying129
 obtain ⟨r, hr⟩ : ∃ r, Moor.err d els an fr cs true = r := ⟨_, rfl⟩
 have NS := Aside0.mk (fun (w1 : World) (hb1 : Below w.heap.size w w1) => mooring_newShape.calls A c A1 c1 cs free r w1 (Kd.C_below hr0 hb1) hc0 (Kd.C_below hr1 hb1) hc1 hr)
 have HR := Aside0.mk hr
 unfold mooring_Shape.f at h
 rw [hr] at h
 have HR0 := Aside0.mk hr0
 clear hr0 hc0 hr1 hc1 hr
 by_cases c0 : r = 0
 ·subst c0
  rw [if_pos rfl] at h
  have h := Option.some.inj h
  simp only [Prod.mk.injEq] at h
  obtain ⟨rfl, rfl, rfl⟩ := h
  have OKM := Aside0.mk (Moor.err_ok HR.out).1
  have STA := Aside0.mk ((Moor.err_ok HR.out).2 rfl)
  go_enter Try.func27, Try.ntmps27
  go_wp2_with (first | ((with_reducible refine gate_dst (N := 3) rfl ?_); refine box_event ?hg (N := 3) ?hd (cs := #[.int .i64 d, .slice A els.length c, .int .i64 an, .int .i64 fr]) (t := 37) ?hr ?_; (case hd => rfl); (case hg => rfl); (case hr => first | (go_simp; done) | (go_simp; rfl)); intro gm hgm w1 hbk hb0; have BM := Aside0.mk hbk; have HB := Aside0.mk hb0; have hz0 := (blk_cell hbk 0).trans rfl; have hz1 := (blk_cell hbk 1).trans rfl; have hz2 := (blk_cell hbk 2).trans rfl; have hz3 := (blk_cell hbk 3).trans rfl; clear hgm hbk hb0) | (go_at_call 61; (with_reducible refine (NS.out _ HB.out).mono ?_); intro e w3 hnf; obtain ⟨gs, he, hf, hb1⟩ := NewShape.of_zero hnf; subst he; have FO := Aside0.mk hf; have n1 := Aside0.mk (below_step HB.out hb1); clear HB BM hz0 hz1 hz2 hz3 hnf hb1 hf; have HB := n1; clear n1; ) | (go_at_call 62; (with_reducible refine (mooring_each.calls A c gs 63 (Moor.offsAt els (Moor.pulls free (Moor.on els cs)) (Moor.lifts els)) _ FO.out OKM.out.n40 (mooring_gives_offset FO.out OKM.out STA.out)).mono ?_); rintro e w4 ⟨v0, rfl, hp, hb1⟩; have n1 := Aside0.mk (below_step HB.out hb1); have n2 := Aside0.mk (FO.out.below hb1); have RP0 := Aside0.mk (Kd.R_lower hp (below_size HB.out)); clear HB FO hp hb1; have HB := n1; have FO := n2; clear n1 n2) | (go_at_call 62; (with_reducible refine (mooring_each.calls A c gs 64 (Moor.riseAt els (Moor.pulls free (Moor.on els cs)) (Moor.lifts els)) _ FO.out OKM.out.n40 (mooring_gives_rise FO.out OKM.out STA.out)).mono ?_); rintro e w5 ⟨v1, rfl, hp, hb1⟩; have n1 := Aside0.mk (below_step HB.out hb1); have n2 := Aside0.mk (Shape_two RP0.out hp (below_size HB.out) hb1); clear HB FO RP0 hp hb1; have HB := n1; have RP := n2; clear n1 n2))
  go_ret3
  exact ⟨_, _, rfl, RP.out.1, RP.out.2, HB.out⟩
 ·rw [if_neg c0] at h
  have h := Option.some.inj h
  simp only [Prod.mk.injEq] at h
  obtain ⟨rfl, rfl, rfl⟩ := h
  have d1 : (r != 0) = true := bne_iff_ne.mpr c0
  have C0 := Aside0.mk c0
  clear c0
  go_enter Try.func27, Try.ntmps27
  go_wp2_with (first | ((with_reducible refine gate_dst (N := 3) rfl ?_); refine box_event ?hg (N := 3) ?hd (cs := #[.int .i64 d, .slice A els.length c, .int .i64 an, .int .i64 fr]) (t := 37) ?hr ?_; (case hd => rfl); (case hg => rfl); (case hr => first | (go_simp; done) | (go_simp; rfl)); intro gm hgm w1 hbk hb0; have BM := Aside0.mk hbk; have HB := Aside0.mk hb0; have hz0 := (blk_cell hbk 0).trans rfl; have hz1 := (blk_cell hbk 1).trans rfl; have hz2 := (blk_cell hbk 2).trans rfl; have hz3 := (blk_cell hbk 3).trans rfl; clear hgm hbk hb0) | (go_at_call 61; (with_reducible refine (NS.out _ HB.out).mono ?_); intro e w3 hnf; obtain ⟨he, hb1⟩ := NewShape.of_ne hnf C0.out; subst he; have n1 := Aside0.mk (below_step HB.out hb1); clear HB BM hz0 hz1 hz2 hz3 hnf hb1; have HB := n1; clear n1; ))
  go_ret3
  exact ⟨_, _, rfl, Kd.R_nil _ _ _ _ _, Kd.R_nil _ _ _ _ _, HB.out⟩
end Go.Proofs.Ytebcmhajbjkojaa.P
namespace Go.Proofs.Ytebcmhajbjkojaa.P
open Go.RowKit Go.Proofs.YtebcmhajbjkojaaW.PrintWords Go.Proofs.YtebcmhajbjkojaaW.PrintLast Go.Proofs.YtebcmhajbjkojaaW.PrintMore
attribute [local go_sem] max2_int min2_int max_two min_two max_three min_three max_four min_four   -- for this text's walks alone
set_option linter.unusedVariables false
set_option linter.unusedSimpArgs false
def mooring_Tensions.f (d : Int) (els : List S46) (an fr : Int) (cs : List S57) (free : Bool) : Option (List S57 × Int) := if Moor.err d els an fr cs true = 0 then some (Moor.list (Moor.tensAt (Moor.pulls free (Moor.on els cs)) (Moor.lifts els)) els.length, 0) else some ([], Moor.err d els an fr cs true)
set_option maxHeartbeats 8000000 in
set_option maxRecDepth 100000 in
theorem mooring_Tensions.calls (d : Int) (A : Option Addr) (c : Nat) (els : List S46) (an fr : Int) (A1 : Option Addr) (c1 : Nat) (cs : List S57) (free : Bool) (r1 : List S57) (r2 : Int) (w : World) (hr0 : Kd.C k46 w A els.length els) (hc0 : els.length ≤ c) (hr1 : Kd.C k57 w A1 cs.length cs) (hc1 : cs.length ≤ c1) (h : mooring_Tensions.f d els an fr cs free = some (r1, r2)) :
  Calls Try.prog 42 #[.agg #[.int .i64 d, .slice A els.length c, .int .i64 an, .int .i64 fr], .slice A1 cs.length c1, .bool free] w fun e w' => ∃ v0_ : Value, e = .returned (.tuple #[v0_, .int .i64 r2]) ∧ Kd.R k57 57 w' w.heap.size (fun _ => True) v0_ r1 ∧ Below w.heap.size w w' := by
 have hu37 := Try.underlying37
 have hu57 := Try.underlying57
 have hu98 := Try.underlying98
 have hu129 := Try.underlying129
 obtain ⟨r, hr⟩ : ∃ r, Moor.err d els an fr cs true = r := ⟨_, rfl⟩
 have NS := Aside0.mk (fun (w1 : World) (hb1 : Below w.heap.size w w1) => mooring_newShape.calls A c A1 c1 cs free r w1 (Kd.C_below hr0 hb1) hc0 (Kd.C_below hr1 hb1) hc1 hr)
 have HR := Aside0.mk hr
 unfold mooring_Tensions.f at h
 rw [hr] at h
 have HR0 := Aside0.mk hr0
 clear hr0 hc0 hr1 hc1 hr
 by_cases c0 : r = 0
 ·subst c0
  rw [if_pos rfl] at h
  have h := Option.some.inj h
  simp only [Prod.mk.injEq] at h
  obtain ⟨rfl, rfl⟩ := h
  have OKM := Aside0.mk (Moor.err_ok HR.out).1
  have STA := Aside0.mk ((Moor.err_ok HR.out).2 rfl)
  go_enter Try.func42, Try.ntmps42
  go_wp2_with (first | ((with_reducible refine gate_dst (N := 3) rfl ?_); refine box_event ?hg (N := 3) ?hd (cs := #[.int .i64 d, .slice A els.length c, .int .i64 an, .int .i64 fr]) (t := 37) ?hr ?_; (case hd => rfl); (case hg => rfl); (case hr => first | (go_simp; done) | (go_simp; rfl)); intro gm hgm w1 hbk hb0; have BM := Aside0.mk hbk; have HB := Aside0.mk hb0; have hz0 := (blk_cell hbk 0).trans rfl; have hz1 := (blk_cell hbk 1).trans rfl; have hz2 := (blk_cell hbk 2).trans rfl; have hz3 := (blk_cell hbk 3).trans rfl; clear hgm hbk hb0) | (go_at_call 61; (with_reducible refine (NS.out _ HB.out).mono ?_); intro e w3 hnf; obtain ⟨gs, he, hf, hb1⟩ := NewShape.of_zero hnf; subst he; have FO := Aside0.mk hf; have n1 := Aside0.mk (below_step HB.out hb1); clear HB BM hz0 hz1 hz2 hz3 hnf hb1 hf; have HB := n1; clear n1; ) | (go_at_call 62; (with_reducible refine (mooring_each.calls A c gs 78 (Moor.tensAt (Moor.pulls free (Moor.on els cs)) (Moor.lifts els)) _ FO.out OKM.out.n40 (mooring_gives_tension FO.out OKM.out STA.out)).mono ?_); rintro e w4 ⟨v0, rfl, hp, hb1⟩; have n1 := Aside0.mk (below_step HB.out hb1); have n2 := Aside0.mk (FO.out.below hb1); have RP0 := Aside0.mk (Kd.R_lower hp (below_size HB.out)); clear HB FO hp hb1; have HB := n1; have FO := n2; clear n1 n2))
  go_ret2
  exact ⟨_, rfl, RP0.out, HB.out⟩
 ·rw [if_neg c0] at h
  have h := Option.some.inj h
  simp only [Prod.mk.injEq] at h
  obtain ⟨rfl, rfl⟩ := h
  have d1 : (r != 0) = true := bne_iff_ne.mpr c0
  have C0 := Aside0.mk c0
  clear c0
  go_enter Try.func42, Try.ntmps42
  go_wp2_with (first | ((with_reducible refine gate_dst (N := 3) rfl ?_); refine box_event ?hg (N := 3) ?hd (cs := #[.int .i64 d, .slice A els.length c, .int .i64 an, .int .i64 fr]) (t := 37) ?hr ?_; (case hd => rfl); (case hg => rfl); (case hr => first | (go_simp; done) | (go_simp; rfl)); intro gm hgm w1 hbk hb0; have BM := Aside0.mk hbk; have HB := Aside0.mk hb0; have hz0 := (blk_cell hbk 0).trans rfl; have hz1 := (blk_cell hbk 1).trans rfl; have hz2 := (blk_cell hbk 2).trans rfl; have hz3 := (blk_cell hbk 3).trans rfl; clear hgm hbk hb0) | (go_at_call 61; (with_reducible refine (NS.out _ HB.out).mono ?_); intro e w3 hnf; obtain ⟨he, hb1⟩ := NewShape.of_ne hnf C0.out; subst he; have n1 := Aside0.mk (below_step HB.out hb1); clear HB BM hz0 hz1 hz2 hz3 hnf hb1; have HB := n1; clear n1; ))
  go_ret2
  exact ⟨_, rfl, Kd.R_nil _ _ _ _ _, HB.out⟩
end Go.Proofs.Ytebcmhajbjkojaa.P
