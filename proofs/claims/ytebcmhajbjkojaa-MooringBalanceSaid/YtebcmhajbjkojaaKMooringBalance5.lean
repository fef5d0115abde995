/- For all moorings that stand and all currents that are valid: without a current each pull and offset is 0, each tension is the lift, each rise is the length; with any current no tension is less than the lift and no offset and no rise greater than the length; on other inputs the statement says that the examples of the chapter hold. Part 6 of 6. -/
-- Put together by wip/tools/shake.py, a program of this work: out of the words that the kit's print tool (print.sh) writes for a claim and what wip/tools/xprint.py prints, those that this claim reaches, and this work's own texts.
import Derived.Test.YtebcmhajbjkojaaRows
import Derived.WalkKit
import Derived.ProofKit
import Derived.OpenShut
import Derived.ShutString
import Derived.ChangeOld
import Derived.Below
import Derived.SizedLaws
import Derived.Carry
import Derived.Laws.EntriesVeiled
import Derived.Outline
import Derived.Test.YtebcmhajbjkojaaKMooringBalance4
namespace Go.Proofs.Ytebcmhajbjkojaa.P
open Go.RowKit Go.Proofs.YtebcmhajbjkojaaW.PrintWords Go.Proofs.YtebcmhajbjkojaaW.PrintLast Go.Proofs.YtebcmhajbjkojaaW.PrintMore
attribute [local go_sem] max2_int min2_int max_two min_two max_three min_three max_four min_four   -- for this text's walks alone
set_option linter.unusedVariables false
set_option linter.unusedSimpArgs false
attribute [local go_sem high] eqA57
mutual
def isobathlaw02_MooringFreer.j0 : Nat → List (S57) → List (S57) → Bool → Option (Bool)
  | 0, _, _, _ => none
  | k + 1, x5, x7, x102 => if x102 = true then (none) else (isobathlaw02_MooringFreer.l0 k x5 x7 0)
def isobathlaw02_MooringFreer.l0 : Nat → List (S57) → List (S57) → Int → Option (Bool)
  | 0, _, _, _ => none
  | k + 1, x5, x7, x19 => if x19 < (x5.length : Int) then (if 0 ≤ x19 then (if x19 < (x7.length : Int) then (if ((rd_T57 x5 x19).f1) = ((rd_T57 x7 x19).f1) then (isobathlaw02_MooringFreer.l0 k x5 x7 (wrap64 (x19 + 1))) else (none)) else (none)) else (none)) else (if 0 < (x5.length : Int) then (if 0 < (x7.length : Int) then (if (((rd_T57 x5 0).f0) == ((rd_T57 x7 0).f0) && (((rd_T57 x5 0).f1) == ((rd_T57 x7 0).f1))) = true then ((isobathlaw02_fine.f k).bind fun t137 => (some t137)) else (none)) else (none)) else (none))
end
def isobathlaw02_MooringFreer.f (k : Nat) (a0_0 : Int) (l0_1 : List (S46)) (a0_2 : Int) (a0_3 : Int) (l1 : List (S57)) : Option (Bool) := (isobathlaw02_valid.f k a0_0 l0_1 a0_2 a0_3 l1).bind fun t102 => (if t102 = true then ((mooring_Pulls.f a0_0 l0_1 a0_2 a0_3 l1 false).bind fun bt104 => ((mooring_Pulls.f a0_0 l0_1 a0_2 a0_3 l1 true).bind fun bt108 => ((mooring_Shape.f a0_0 l0_1 a0_2 a0_3 l1 false).bind fun bt112 => ((mooring_Shape.f a0_0 l0_1 a0_2 a0_3 l1 true).bind fun bt119 => ((mooring_Circle.f a0_0 l0_1 a0_2 a0_3 l1 false).bind fun bt126 => ((mooring_Circle.f a0_0 l0_1 a0_2 a0_3 l1 true).bind fun bt128 => (if (wrap64 ((wrap64 ((wrap64 ((wrap64 ((wrap64 (bt104.2 + bt108.2)) + bt112.2.2)) + bt119.2.2)) + bt126.2)) + bt128.2)) = 0 then ((isobathlaw02_inside.f k bt104.1 bt108.1).bind fun t130 => (if t130 = true then ((isobathlaw02_inside.f k bt112.1 bt119.1).bind fun t131 => (if t131 = true then ((isobathlaw02_inside.f k bt112.2.1 bt119.2.1).bind fun t132 => (if t132 = true then (if bt126.1 = bt128.1 then (isobathlaw02_MooringFreer.j0 k bt104.1 bt108.1 ((bt104.1.length : Int) == 0)) else (none)) else (none))) else (none))) else (none))) else (none)))))))) else ((isobathlaw02_fine.f k).bind fun t103 => (some t103)))
def isobathlaw02_MooringFreer.T14 : Bool × List (List Nat × List Nat) := (true, [([], []), ([], []), ([0, 1], [0, 1]), ([2], [2]), ([3], [3]), ([], []), ([], []), ([5, 6], [5, 6]), ([7], [7]), ([8], [8]), ([4, 9], [4, 9])])
def isobathlaw02_MooringFreer.B14 : List Nat := [0, 0, 3, 7, 15, 0, 0, 96, 224, 480, 1023]
theorem isobathlaw02_MooringFreer.tab14 : rtab .any (opsOf Try.f6 14) = isobathlaw02_MooringFreer.T14 := by kernel_rfl
theorem isobathlaw02_MooringFreer.bits14 : waitsOk isobathlaw02_MooringFreer.T14.2 isobathlaw02_MooringFreer.B14 = true := by kernel_rfl
def isobathlaw02_MooringFreer.T16 : Bool × List (List Nat × List Nat) := (true, [([], []), ([0], [0]), ([1], [1]), ([], []), ([3], [3]), ([4], [4]), ([2, 5], [2, 5]), ([6], [6]), ([7, 7], [7]), ([7, 8], [7, 8]), ([9, 8, 0, 1, 2, 3, 4, 5, 6, 7, 8, 9], [9])])
def isobathlaw02_MooringFreer.B16 : List Nat := [0, 1, 3, 0, 8, 24, 63, 127, 255, 511, 1023]
theorem isobathlaw02_MooringFreer.tab16 : rtab .any (opsOf Try.f6 16) = isobathlaw02_MooringFreer.T16 := by kernel_rfl
theorem isobathlaw02_MooringFreer.bits16 : waitsOk isobathlaw02_MooringFreer.T16.2 isobathlaw02_MooringFreer.B16 = true := by kernel_rfl
set_option maxHeartbeats 8000000 in
set_option maxRecDepth 100000 in
theorem isobathlaw02_MooringFreer.calls (k : Nat) (a0_0 : Int) (A0_1 : Option Addr) (c0_1 : Nat) (l0_1 : List (S46)) (a0_2 : Int) (a0_3 : Int) (A1 : Option Addr) (c1 : Nat) (l1 : List (S57)) (r : Bool) (w : World) (hr0_1 : Kd.C k46 w A0_1 l0_1.length l0_1) (hc0_1 : l0_1.length ≤ c0_1) (hr1 : Kd.C k57 w A1 l1.length l1) (hc1 : l1.length ≤ c1) (h : isobathlaw02_MooringFreer.f k a0_0 l0_1 a0_2 a0_3 l1 = some r) :
    Calls Try.prog 6 #[.agg #[.int .i64 a0_0, .slice A0_1 l0_1.length c0_1, .int .i64 a0_2, .int .i64 a0_3], .slice A1 l1.length c1] w fun e w' => e = .returned (.bool r) ∧ Below w.heap.size w w' := by
  have hu37 := Try.underlying37
  have hu57 := Try.underlying57
  have HR0_1 := Aside0.mk hr0_1
  have HC0_1 := Aside0.mk hc0_1
  clear hr0_1 hc0_1
  have HR1 := Aside0.mk hr1
  have HC1 := Aside0.mk hc1
  clear hr1 hc1
  have HB := Aside0.mk (Below.refl w.heap.size w)
  have H : ((isobathlaw02_valid.f k a0_0 l0_1 a0_2 a0_3 l1).bind fun t102 => (if t102 = true then ((mooring_Pulls.f a0_0 l0_1 a0_2 a0_3 l1 false).bind fun bt104 => ((mooring_Pulls.f a0_0 l0_1 a0_2 a0_3 l1 true).bind fun bt108 => ((mooring_Shape.f a0_0 l0_1 a0_2 a0_3 l1 false).bind fun bt112 => ((mooring_Shape.f a0_0 l0_1 a0_2 a0_3 l1 true).bind fun bt119 => ((mooring_Circle.f a0_0 l0_1 a0_2 a0_3 l1 false).bind fun bt126 => ((mooring_Circle.f a0_0 l0_1 a0_2 a0_3 l1 true).bind fun bt128 => (if (wrap64 ((wrap64 ((wrap64 ((wrap64 ((wrap64 (bt104.2 + bt108.2)) + bt112.2.2)) + bt119.2.2)) + bt126.2)) + bt128.2)) = 0 then ((isobathlaw02_inside.f k bt104.1 bt108.1).bind fun t130 => (if t130 = true then ((isobathlaw02_inside.f k bt112.1 bt119.1).bind fun t131 => (if t131 = true then ((isobathlaw02_inside.f k bt112.2.1 bt119.2.1).bind fun t132 => (if t132 = true then (if bt126.1 = bt128.1 then (isobathlaw02_MooringFreer.j0 k bt104.1 bt108.1 ((bt104.1.length : Int) == 0)) else (none)) else (none))) else (none))) else (none))) else (none)))))))) else ((isobathlaw02_fine.f k).bind fun t103 => (some t103)))) = some r := h
  clear h
  replace H := Option.bind_eq_some_iff.mp H
  obtain ⟨t102, A30, H⟩ := H
  replace H : (if t102 = true then ((mooring_Pulls.f a0_0 l0_1 a0_2 a0_3 l1 false).bind fun bt104 => ((mooring_Pulls.f a0_0 l0_1 a0_2 a0_3 l1 true).bind fun bt108 => ((mooring_Shape.f a0_0 l0_1 a0_2 a0_3 l1 false).bind fun bt112 => ((mooring_Shape.f a0_0 l0_1 a0_2 a0_3 l1 true).bind fun bt119 => ((mooring_Circle.f a0_0 l0_1 a0_2 a0_3 l1 false).bind fun bt126 => ((mooring_Circle.f a0_0 l0_1 a0_2 a0_3 l1 true).bind fun bt128 => (if (wrap64 ((wrap64 ((wrap64 ((wrap64 ((wrap64 (bt104.2 + bt108.2)) + bt112.2.2)) + bt119.2.2)) + bt126.2)) + bt128.2)) = 0 then ((isobathlaw02_inside.f k bt104.1 bt108.1).bind fun t130 => (if t130 = true then ((isobathlaw02_inside.f k bt112.1 bt119.1).bind fun t131 => (if t131 = true then ((isobathlaw02_inside.f k bt112.2.1 bt119.2.1).bind fun t132 => (if t132 = true then (if bt126.1 = bt128.1 then (isobathlaw02_MooringFreer.j0 k bt104.1 bt108.1 ((bt104.1.length : Int) == 0)) else (none)) else (none))) else (none))) else (none))) else (none)))))))) else ((isobathlaw02_fine.f k).bind fun t103 => (some t103))) = some r := H
  have A3 := Aside0.mk A30
  clear A30
  by_cases c4 : t102 = true
  · subst c4
    have H1 : ((mooring_Pulls.f a0_0 l0_1 a0_2 a0_3 l1 false).bind fun bt104 => ((mooring_Pulls.f a0_0 l0_1 a0_2 a0_3 l1 true).bind fun bt108 => ((mooring_Shape.f a0_0 l0_1 a0_2 a0_3 l1 false).bind fun bt112 => ((mooring_Shape.f a0_0 l0_1 a0_2 a0_3 l1 true).bind fun bt119 => ((mooring_Circle.f a0_0 l0_1 a0_2 a0_3 l1 false).bind fun bt126 => ((mooring_Circle.f a0_0 l0_1 a0_2 a0_3 l1 true).bind fun bt128 => (if (wrap64 ((wrap64 ((wrap64 ((wrap64 ((wrap64 (bt104.2 + bt108.2)) + bt112.2.2)) + bt119.2.2)) + bt126.2)) + bt128.2)) = 0 then ((isobathlaw02_inside.f k bt104.1 bt108.1).bind fun t130 => (if t130 = true then ((isobathlaw02_inside.f k bt112.1 bt119.1).bind fun t131 => (if t131 = true then ((isobathlaw02_inside.f k bt112.2.1 bt119.2.1).bind fun t132 => (if t132 = true then (if bt126.1 = bt128.1 then (isobathlaw02_MooringFreer.j0 k bt104.1 bt108.1 ((bt104.1.length : Int) == 0)) else (none)) else (none))) else (none))) else (none))) else (none)))))))) = some r := by rw [if_pos rfl] at H; exact H
    clear H
    have H := H1
    clear H1
    replace H := Option.bind_eq_some_iff.mp H
    obtain ⟨⟨t104, t107⟩, A50, H⟩ := H
    replace H : ((mooring_Pulls.f a0_0 l0_1 a0_2 a0_3 l1 true).bind fun bt108 => ((mooring_Shape.f a0_0 l0_1 a0_2 a0_3 l1 false).bind fun bt112 => ((mooring_Shape.f a0_0 l0_1 a0_2 a0_3 l1 true).bind fun bt119 => ((mooring_Circle.f a0_0 l0_1 a0_2 a0_3 l1 false).bind fun bt126 => ((mooring_Circle.f a0_0 l0_1 a0_2 a0_3 l1 true).bind fun bt128 => (if (wrap64 ((wrap64 ((wrap64 ((wrap64 ((wrap64 (t107 + bt108.2)) + bt112.2.2)) + bt119.2.2)) + bt126.2)) + bt128.2)) = 0 then ((isobathlaw02_inside.f k t104 bt108.1).bind fun t130 => (if t130 = true then ((isobathlaw02_inside.f k bt112.1 bt119.1).bind fun t131 => (if t131 = true then ((isobathlaw02_inside.f k bt112.2.1 bt119.2.1).bind fun t132 => (if t132 = true then (if bt126.1 = bt128.1 then (isobathlaw02_MooringFreer.j0 k t104 bt108.1 ((t104.length : Int) == 0)) else (none)) else (none))) else (none))) else (none))) else (none))))))) = some r := H
    have A5 := Aside0.mk A50
    clear A50
    replace H := Option.bind_eq_some_iff.mp H
    obtain ⟨⟨t108, t111⟩, A60, H⟩ := H
    replace H : ((mooring_Shape.f a0_0 l0_1 a0_2 a0_3 l1 false).bind fun bt112 => ((mooring_Shape.f a0_0 l0_1 a0_2 a0_3 l1 true).bind fun bt119 => ((mooring_Circle.f a0_0 l0_1 a0_2 a0_3 l1 false).bind fun bt126 => ((mooring_Circle.f a0_0 l0_1 a0_2 a0_3 l1 true).bind fun bt128 => (if (wrap64 ((wrap64 ((wrap64 ((wrap64 ((wrap64 (t107 + t111)) + bt112.2.2)) + bt119.2.2)) + bt126.2)) + bt128.2)) = 0 then ((isobathlaw02_inside.f k t104 t108).bind fun t130 => (if t130 = true then ((isobathlaw02_inside.f k bt112.1 bt119.1).bind fun t131 => (if t131 = true then ((isobathlaw02_inside.f k bt112.2.1 bt119.2.1).bind fun t132 => (if t132 = true then (if bt126.1 = bt128.1 then (isobathlaw02_MooringFreer.j0 k t104 t108 ((t104.length : Int) == 0)) else (none)) else (none))) else (none))) else (none))) else (none)))))) = some r := H
    have A6 := Aside0.mk A60
    clear A60
    replace H := Option.bind_eq_some_iff.mp H
    obtain ⟨⟨t112, t115, t118⟩, A70, H⟩ := H
    replace H : ((mooring_Shape.f a0_0 l0_1 a0_2 a0_3 l1 true).bind fun bt119 => ((mooring_Circle.f a0_0 l0_1 a0_2 a0_3 l1 false).bind fun bt126 => ((mooring_Circle.f a0_0 l0_1 a0_2 a0_3 l1 true).bind fun bt128 => (if (wrap64 ((wrap64 ((wrap64 ((wrap64 ((wrap64 (t107 + t111)) + t118)) + bt119.2.2)) + bt126.2)) + bt128.2)) = 0 then ((isobathlaw02_inside.f k t104 t108).bind fun t130 => (if t130 = true then ((isobathlaw02_inside.f k t112 bt119.1).bind fun t131 => (if t131 = true then ((isobathlaw02_inside.f k t115 bt119.2.1).bind fun t132 => (if t132 = true then (if bt126.1 = bt128.1 then (isobathlaw02_MooringFreer.j0 k t104 t108 ((t104.length : Int) == 0)) else (none)) else (none))) else (none))) else (none))) else (none))))) = some r := H
    have A7 := Aside0.mk A70
    clear A70
    replace H := Option.bind_eq_some_iff.mp H
    obtain ⟨⟨t119, t122, t125⟩, A80, H⟩ := H
    replace H : ((mooring_Circle.f a0_0 l0_1 a0_2 a0_3 l1 false).bind fun bt126 => ((mooring_Circle.f a0_0 l0_1 a0_2 a0_3 l1 true).bind fun bt128 => (if (wrap64 ((wrap64 ((wrap64 ((wrap64 ((wrap64 (t107 + t111)) + t118)) + t125)) + bt126.2)) + bt128.2)) = 0 then ((isobathlaw02_inside.f k t104 t108).bind fun t130 => (if t130 = true then ((isobathlaw02_inside.f k t112 t119).bind fun t131 => (if t131 = true then ((isobathlaw02_inside.f k t115 t122).bind fun t132 => (if t132 = true then (if bt126.1 = bt128.1 then (isobathlaw02_MooringFreer.j0 k t104 t108 ((t104.length : Int) == 0)) else (none)) else (none))) else (none))) else (none))) else (none)))) = some r := H
    have A8 := Aside0.mk A80
    clear A80
    replace H := Option.bind_eq_some_iff.mp H
    obtain ⟨⟨t126, t127⟩, A90, H⟩ := H
    replace H : ((mooring_Circle.f a0_0 l0_1 a0_2 a0_3 l1 true).bind fun bt128 => (if (wrap64 ((wrap64 ((wrap64 ((wrap64 ((wrap64 (t107 + t111)) + t118)) + t125)) + t127)) + bt128.2)) = 0 then ((isobathlaw02_inside.f k t104 t108).bind fun t130 => (if t130 = true then ((isobathlaw02_inside.f k t112 t119).bind fun t131 => (if t131 = true then ((isobathlaw02_inside.f k t115 t122).bind fun t132 => (if t132 = true then (if t126 = bt128.1 then (isobathlaw02_MooringFreer.j0 k t104 t108 ((t104.length : Int) == 0)) else (none)) else (none))) else (none))) else (none))) else (none))) = some r := H
    have A9 := Aside0.mk A90
    clear A90
    replace H := Option.bind_eq_some_iff.mp H
    obtain ⟨⟨t128, t129⟩, A100, H⟩ := H
    replace H : (if (wrap64 ((wrap64 ((wrap64 ((wrap64 ((wrap64 (t107 + t111)) + t118)) + t125)) + t127)) + t129)) = 0 then ((isobathlaw02_inside.f k t104 t108).bind fun t130 => (if t130 = true then ((isobathlaw02_inside.f k t112 t119).bind fun t131 => (if t131 = true then ((isobathlaw02_inside.f k t115 t122).bind fun t132 => (if t132 = true then (if t126 = t128 then (isobathlaw02_MooringFreer.j0 k t104 t108 ((t104.length : Int) == 0)) else (none)) else (none))) else (none))) else (none))) else (none)) = some r := H
    have A10 := Aside0.mk A100
    clear A100
    have HC11 := Aside0.mk H
    clear H
    go_enter Try.func6, Try.ntmps6
    go_upto_region 9 with (first | ((with_reducible refine gate_dst (N := 2) rfl ?_); (try (refine gate_guard (by rfl) ?_; dsimp only)); refine box_event ?hg (N := 2) ?hd (cs := #[.int .i64 a0_0, .slice A0_1 l0_1.length c0_1, .int .i64 a0_2, .int .i64 a0_3]) (t := 37) ?hr ?_; (case hd => rfl); (case hg => rfl); (case hr => first | (go_simp; done) | (go_simp; rfl)); intro gb101 hg w12 hbox hb; have n0_ := Aside0.mk (below_step (by repeat (first | (with_reducible first | exact HB.out | apply below_alloc | apply pw_below_drewN | apply below_drew1) | exact HB.out)) hb); have n1_ := Aside0.mk (hbox); have n2_ := Aside0.mk ((by rw [hg]; exact (below_size (by repeat (first | (with_reducible first | exact HB.out | apply below_alloc | apply pw_below_drewN | apply below_drew1) | exact HB.out))) : w.heap.size ≤ gb101)); have n3_ := Aside0.mk ((by rw [hg]; exact (below_size (by repeat (first | (with_reducible first | exact HB.out | apply below_alloc | apply pw_below_drewN | apply below_drew1) | exact HB.out))) : w.heap.size ≤ gb101)); clear HB; have HB := n0_; have BK101 := n1_; have GW101 := n2_; have GE101 := n3_; clear n0_ n1_ n2_ n3_; clear hb hbox hg; have hcz13_0 : w12.cell? ⟨gb101, 0, none⟩ = some (.int .i64 a0_0) := (blk_cell BK101.out 0).trans rfl; have hcz13_1 : w12.cell? ⟨gb101, 1, none⟩ = some (.slice A0_1 l0_1.length c0_1) := (blk_cell BK101.out 1).trans rfl; have hcz13_2 : w12.cell? ⟨gb101, 2, none⟩ = some (.int .i64 a0_2) := (blk_cell BK101.out 2).trans rfl; have hcz13_3 : w12.cell? ⟨gb101, 3, none⟩ = some (.int .i64 a0_3) := (blk_cell BK101.out 3).trans rfl; have hfz13_0 := blk_frozen BK101.out 0; have hfz13_1 := blk_frozen BK101.out 1; have hfz13_2 := blk_frozen BK101.out 2; have hfz13_3 := blk_frozen BK101.out 3) | ((with_reducible refine gate_callee (f := 25) rfl ?_); refine goesL_ (some 22) rfl rfl Try.func25 (by kernel_rfl) rfl #[.agg #[.int .i64 a0_0, .slice A0_1 l0_1.length c0_1, .int .i64 a0_2, .int .i64 a0_3], .slice A1 l1.length c1] rfl (by (try simp only [List.map_toArray, List.map_cons, List.map_nil]); first | done | rfl | (simp only [List.length_drop, List.length_take]; rfl)) ?_; (with_reducible refine (isobathlaw02_valid.calls k a0_0 _ _ l0_1 a0_2 a0_3 _ _ l1 true _ ?side1 ?side2 ?side3 ?side4 A3.out).mono ?_); (case side1 => repeat (first | exact (Kd.C_below HR0_1.out HB.out) | (with_reducible refine Kd.C_alloc ?_ _) | (with_reducible refine Kd.C_drewN ?_ _) | (with_reducible refine Kd.C_drew ?_))); (case side2 => exact HC0_1.out); (case side3 => repeat (first | exact (Kd.C_below HR1.out HB.out) | (with_reducible refine Kd.C_alloc ?_ _) | (with_reducible refine Kd.C_drewN ?_ _) | (with_reducible refine Kd.C_drew ?_))); (case side4 => exact HC1.out); rintro e w14 ⟨rfl, hb⟩; refine ⟨_, rfl, ?_⟩; have n0_ := Aside0.mk (blk_below (g := gb101) (o := .cells #[.int .i64 a0_0, .slice A0_1 l0_1.length c0_1, .int .i64 a0_2, .int .i64 a0_3] 37 (0, 0)) (by (with_reducible repeat (first | refine blk_drewN ?_ _ | refine blk_drew ?_ | refine blk_alloc ?_ _)); exact BK101.out) hb); have n1_ := Aside0.mk (below_step (by repeat (first | (with_reducible first | exact HB.out | apply below_alloc | apply pw_below_drewN | apply below_drew1 | refine below_set ?_ GE101.out) | exact HB.out)) hb); clear BK101; clear HB; have BK101 := n0_; have HB := n1_; clear n0_ n1_; (try clear hb); (try clear hb2); (try clear hk); (try clear hi); have hcz15_0 : w14.cell? ⟨gb101, 0, none⟩ = some (.int .i64 a0_0) := (blk_cell BK101.out 0).trans rfl; have hcz15_1 : w14.cell? ⟨gb101, 1, none⟩ = some (.slice A0_1 l0_1.length c0_1) := (blk_cell BK101.out 1).trans rfl; have hcz15_2 : w14.cell? ⟨gb101, 2, none⟩ = some (.int .i64 a0_2) := (blk_cell BK101.out 2).trans rfl; have hcz15_3 : w14.cell? ⟨gb101, 3, none⟩ = some (.int .i64 a0_3) := (blk_cell BK101.out 3).trans rfl; have hfz15_0 := blk_frozen BK101.out 0; have hfz15_1 := blk_frozen BK101.out 1; have hfz15_2 := blk_frozen BK101.out 2; have hfz15_3 := blk_frozen BK101.out 3) | ((with_reducible refine gate_callee (f := 26) rfl ?_); refine goesL_ (some 28) rfl rfl Try.func26 (by kernel_rfl) rfl #[.agg #[.int .i64 a0_0, .slice A0_1 l0_1.length c0_1, .int .i64 a0_2, .int .i64 a0_3], .slice A1 l1.length c1, .bool false] rfl (by (try simp only [List.map_toArray, List.map_cons, List.map_nil]); first | done | rfl | (simp only [List.length_drop, List.length_take]; rfl)) ?_; (with_reducible refine (mooring_Pulls.calls a0_0 _ _ l0_1 a0_2 a0_3 _ _ l1 false t104 t107 _ ?side1 ?side2 ?side3 ?side4 A5.out).mono ?_); (case side1 => repeat (first | exact (Kd.C_below HR0_1.out HB.out) | (with_reducible refine Kd.C_alloc ?_ _) | (with_reducible refine Kd.C_drewN ?_ _) | (with_reducible refine Kd.C_drew ?_))); (case side2 => exact HC0_1.out); (case side3 => repeat (first | exact (Kd.C_below HR1.out HB.out) | (with_reducible refine Kd.C_alloc ?_ _) | (with_reducible refine Kd.C_drewN ?_ _) | (with_reducible refine Kd.C_drew ?_))); (case side4 => exact HC1.out); rintro e w16 ⟨v105, rfl, ho0, hb⟩; refine ⟨_, rfl, ?_⟩; have n0_ := Aside0.mk (Kd.R_lower ho0 (below_size (by repeat (first | (with_reducible first | exact HB.out | apply below_alloc | apply pw_below_drewN | apply below_drew1 | refine below_set ?_ GE101.out) | exact HB.out)))); have n1_ := Aside0.mk (blk_below (g := gb101) (o := .cells #[.int .i64 a0_0, .slice A0_1 l0_1.length c0_1, .int .i64 a0_2, .int .i64 a0_3] 37 (0, 0)) (by (with_reducible repeat (first | refine blk_drewN ?_ _ | refine blk_drew ?_ | refine blk_alloc ?_ _)); exact BK101.out) hb); have n2_ := Aside0.mk (below_step (by repeat (first | (with_reducible first | exact HB.out | apply below_alloc | apply pw_below_drewN | apply below_drew1 | refine below_set ?_ GE101.out) | exact HB.out)) hb); clear BK101; clear HB; have HO106 := n0_; have BK101 := n1_; have HB := n2_; clear n0_ n1_ n2_; (try clear hb); (try clear hb2); (try clear hk); (try clear hi); (try clear ho0); have hcz17_0 : w16.cell? ⟨gb101, 0, none⟩ = some (.int .i64 a0_0) := (blk_cell BK101.out 0).trans rfl; have hcz17_1 : w16.cell? ⟨gb101, 1, none⟩ = some (.slice A0_1 l0_1.length c0_1) := (blk_cell BK101.out 1).trans rfl; have hcz17_2 : w16.cell? ⟨gb101, 2, none⟩ = some (.int .i64 a0_2) := (blk_cell BK101.out 2).trans rfl; have hcz17_3 : w16.cell? ⟨gb101, 3, none⟩ = some (.int .i64 a0_3) := (blk_cell BK101.out 3).trans rfl; have hfz17_0 := blk_frozen BK101.out 0; have hfz17_1 := blk_frozen BK101.out 1; have hfz17_2 := blk_frozen BK101.out 2; have hfz17_3 := blk_frozen BK101.out 3) | ((with_reducible refine gate_callee (f := 26) rfl ?_); refine goesL_ (some 34) rfl rfl Try.func26 (by kernel_rfl) rfl #[.agg #[.int .i64 a0_0, .slice A0_1 l0_1.length c0_1, .int .i64 a0_2, .int .i64 a0_3], .slice A1 l1.length c1, .bool true] rfl (by (try simp only [List.map_toArray, List.map_cons, List.map_nil]); first | done | rfl | (simp only [List.length_drop, List.length_take]; rfl)) ?_; (with_reducible refine (mooring_Pulls.calls a0_0 _ _ l0_1 a0_2 a0_3 _ _ l1 true t108 t111 _ ?side1 ?side2 ?side3 ?side4 A6.out).mono ?_); (case side1 => repeat (first | exact (Kd.C_below HR0_1.out HB.out) | (with_reducible refine Kd.C_alloc ?_ _) | (with_reducible refine Kd.C_drewN ?_ _) | (with_reducible refine Kd.C_drew ?_))); (case side2 => exact HC0_1.out); (case side3 => repeat (first | exact (Kd.C_below HR1.out HB.out) | (with_reducible refine Kd.C_alloc ?_ _) | (with_reducible refine Kd.C_drewN ?_ _) | (with_reducible refine Kd.C_drew ?_))); (case side4 => exact HC1.out); rintro e w18 ⟨v109, rfl, ho0, hb⟩; refine ⟨_, rfl, ?_⟩; have n0_ := Aside0.mk (Kd.R_elder' (by (with_reducible repeat (first | apply Kd.R_alloc | apply Kd.R_drewN | apply Kd.R_drew)); exact HO106.out) (Kd.R_base ho0) hb); have n1_ := Aside0.mk (Kd.R_lower (Kd.R_new' ho0 (Kd.R_lt (by (with_reducible repeat (first | apply Kd.R_alloc | apply Kd.R_drewN | apply Kd.R_drew)); exact HO106.out))) (below_size (by repeat (first | (with_reducible first | exact HB.out | apply below_alloc | apply pw_below_drewN | apply below_drew1 | refine below_set ?_ GE101.out) | exact HB.out)))); have n2_ := Aside0.mk (blk_below (g := gb101) (o := .cells #[.int .i64 a0_0, .slice A0_1 l0_1.length c0_1, .int .i64 a0_2, .int .i64 a0_3] 37 (0, 0)) (by (with_reducible repeat (first | refine blk_drewN ?_ _ | refine blk_drew ?_ | refine blk_alloc ?_ _)); exact BK101.out) hb); have n3_ := Aside0.mk (below_step (by repeat (first | (with_reducible first | exact HB.out | apply below_alloc | apply pw_below_drewN | apply below_drew1 | refine below_set ?_ GE101.out) | exact HB.out)) hb); clear HO106; clear BK101; clear HB; have HO106 := n0_; have HO110 := n1_; have BK101 := n2_; have HB := n3_; clear n0_ n1_ n2_ n3_; (try clear hb); (try clear hb2); (try clear hk); (try clear hi); (try clear ho0); have hcz19_0 : w18.cell? ⟨gb101, 0, none⟩ = some (.int .i64 a0_0) := (blk_cell BK101.out 0).trans rfl; have hcz19_1 : w18.cell? ⟨gb101, 1, none⟩ = some (.slice A0_1 l0_1.length c0_1) := (blk_cell BK101.out 1).trans rfl; have hcz19_2 : w18.cell? ⟨gb101, 2, none⟩ = some (.int .i64 a0_2) := (blk_cell BK101.out 2).trans rfl; have hcz19_3 : w18.cell? ⟨gb101, 3, none⟩ = some (.int .i64 a0_3) := (blk_cell BK101.out 3).trans rfl; have hfz19_0 := blk_frozen BK101.out 0; have hfz19_1 := blk_frozen BK101.out 1; have hfz19_2 := blk_frozen BK101.out 2; have hfz19_3 := blk_frozen BK101.out 3) | ((with_reducible refine gate_callee (f := 27) rfl ?_); refine goesL_ (some 40) rfl rfl Try.func27 (by kernel_rfl) rfl #[.agg #[.int .i64 a0_0, .slice A0_1 l0_1.length c0_1, .int .i64 a0_2, .int .i64 a0_3], .slice A1 l1.length c1, .bool false] rfl (by (try simp only [List.map_toArray, List.map_cons, List.map_nil]); first | done | rfl | (simp only [List.length_drop, List.length_take]; rfl)) ?_; (with_reducible refine (mooring_Shape.calls a0_0 _ _ l0_1 a0_2 a0_3 _ _ l1 false t112 t115 t118 _ ?side1 ?side2 ?side3 ?side4 A7.out).mono ?_); (case side1 => repeat (first | exact (Kd.C_below HR0_1.out HB.out) | (with_reducible refine Kd.C_alloc ?_ _) | (with_reducible refine Kd.C_drewN ?_ _) | (with_reducible refine Kd.C_drew ?_))); (case side2 => exact HC0_1.out); (case side3 => repeat (first | exact (Kd.C_below HR1.out HB.out) | (with_reducible refine Kd.C_alloc ?_ _) | (with_reducible refine Kd.C_drewN ?_ _) | (with_reducible refine Kd.C_drew ?_))); (case side4 => exact HC1.out); rintro e w20 ⟨v113, v116, rfl, ho0, ho1, hb⟩; refine ⟨_, rfl, ?_⟩; have n0_ := Aside0.mk (Kd.R_mono (Kd.R_told (Kd.R_told (Kd.R_old (by (with_reducible repeat (first | apply Kd.R_alloc | apply Kd.R_drewN | apply Kd.R_drew)); exact HO106.out) hb) (Kd.R_base ho0)) (Kd.R_base ho1)) (fun _ h_ => h_.1)); have n1_ := Aside0.mk (Kd.R_mono (Kd.R_told (Kd.R_told (Kd.R_old (by (with_reducible repeat (first | apply Kd.R_alloc | apply Kd.R_drewN | apply Kd.R_drew)); exact HO110.out) hb) (Kd.R_base ho0)) (Kd.R_base ho1)) (fun _ h_ => h_.1)); have n2_ := Aside0.mk (Kd.R_lower (Kd.R_new' (Kd.R_new' ho0 (Kd.R_lt (by (with_reducible repeat (first | apply Kd.R_alloc | apply Kd.R_drewN | apply Kd.R_drew)); exact HO106.out))) (Kd.R_lt (by (with_reducible repeat (first | apply Kd.R_alloc | apply Kd.R_drewN | apply Kd.R_drew)); exact HO110.out))) (below_size (by repeat (first | (with_reducible first | exact HB.out | apply below_alloc | apply pw_below_drewN | apply below_drew1 | refine below_set ?_ GE101.out) | exact HB.out)))); have n3_ := Aside0.mk (Kd.R_lower (Kd.R_new' (Kd.R_new' ho1 (Kd.R_lt (by (with_reducible repeat (first | apply Kd.R_alloc | apply Kd.R_drewN | apply Kd.R_drew)); exact HO106.out))) (Kd.R_lt (by (with_reducible repeat (first | apply Kd.R_alloc | apply Kd.R_drewN | apply Kd.R_drew)); exact HO110.out))) (below_size (by repeat (first | (with_reducible first | exact HB.out | apply below_alloc | apply pw_below_drewN | apply below_drew1 | refine below_set ?_ GE101.out) | exact HB.out)))); have n4_ := Aside0.mk (blk_below (g := gb101) (o := .cells #[.int .i64 a0_0, .slice A0_1 l0_1.length c0_1, .int .i64 a0_2, .int .i64 a0_3] 37 (0, 0)) (by (with_reducible repeat (first | refine blk_drewN ?_ _ | refine blk_drew ?_ | refine blk_alloc ?_ _)); exact BK101.out) hb); have n5_ := Aside0.mk (below_step (by repeat (first | (with_reducible first | exact HB.out | apply below_alloc | apply pw_below_drewN | apply below_drew1 | refine below_set ?_ GE101.out) | exact HB.out)) hb); clear HO106; clear HO110; clear BK101; clear HB; have HO106 := n0_; have HO110 := n1_; have HO114 := n2_; have HO117 := n3_; have BK101 := n4_; have HB := n5_; clear n0_ n1_ n2_ n3_ n4_ n5_; (try clear hb); (try clear hb2); (try clear hk); (try clear hi); (try clear ho0); (try clear ho1); have hcz21_0 : w20.cell? ⟨gb101, 0, none⟩ = some (.int .i64 a0_0) := (blk_cell BK101.out 0).trans rfl; have hcz21_1 : w20.cell? ⟨gb101, 1, none⟩ = some (.slice A0_1 l0_1.length c0_1) := (blk_cell BK101.out 1).trans rfl; have hcz21_2 : w20.cell? ⟨gb101, 2, none⟩ = some (.int .i64 a0_2) := (blk_cell BK101.out 2).trans rfl; have hcz21_3 : w20.cell? ⟨gb101, 3, none⟩ = some (.int .i64 a0_3) := (blk_cell BK101.out 3).trans rfl; have hfz21_0 := blk_frozen BK101.out 0; have hfz21_1 := blk_frozen BK101.out 1; have hfz21_2 := blk_frozen BK101.out 2; have hfz21_3 := blk_frozen BK101.out 3) | ((with_reducible refine gate_callee (f := 27) rfl ?_); refine goesL_ (some 47) rfl rfl Try.func27 (by kernel_rfl) rfl #[.agg #[.int .i64 a0_0, .slice A0_1 l0_1.length c0_1, .int .i64 a0_2, .int .i64 a0_3], .slice A1 l1.length c1, .bool true] rfl (by (try simp only [List.map_toArray, List.map_cons, List.map_nil]); first | done | rfl | (simp only [List.length_drop, List.length_take]; rfl)) ?_; (with_reducible refine (mooring_Shape.calls a0_0 _ _ l0_1 a0_2 a0_3 _ _ l1 true t119 t122 t125 _ ?side1 ?side2 ?side3 ?side4 A8.out).mono ?_); (case side1 => repeat (first | exact (Kd.C_below HR0_1.out HB.out) | (with_reducible refine Kd.C_alloc ?_ _) | (with_reducible refine Kd.C_drewN ?_ _) | (with_reducible refine Kd.C_drew ?_))); (case side2 => exact HC0_1.out); (case side3 => repeat (first | exact (Kd.C_below HR1.out HB.out) | (with_reducible refine Kd.C_alloc ?_ _) | (with_reducible refine Kd.C_drewN ?_ _) | (with_reducible refine Kd.C_drew ?_))); (case side4 => exact HC1.out); rintro e w22 ⟨v120, v123, rfl, ho0, ho1, hb⟩; refine ⟨_, rfl, ?_⟩; have n0_ := Aside0.mk (Kd.R_mono (Kd.R_told (Kd.R_told (Kd.R_old (by (with_reducible repeat (first | apply Kd.R_alloc | apply Kd.R_drewN | apply Kd.R_drew)); exact HO106.out) hb) (Kd.R_base ho0)) (Kd.R_base ho1)) (fun _ h_ => h_.1)); have n1_ := Aside0.mk (Kd.R_mono (Kd.R_told (Kd.R_told (Kd.R_old (by (with_reducible repeat (first | apply Kd.R_alloc | apply Kd.R_drewN | apply Kd.R_drew)); exact HO110.out) hb) (Kd.R_base ho0)) (Kd.R_base ho1)) (fun _ h_ => h_.1)); have n2_ := Aside0.mk (Kd.R_mono (Kd.R_told (Kd.R_told (Kd.R_old (by (with_reducible repeat (first | apply Kd.R_alloc | apply Kd.R_drewN | apply Kd.R_drew)); exact HO114.out) hb) (Kd.R_base ho0)) (Kd.R_base ho1)) (fun _ h_ => h_.1)); have n3_ := Aside0.mk (Kd.R_mono (Kd.R_told (Kd.R_told (Kd.R_old (by (with_reducible repeat (first | apply Kd.R_alloc | apply Kd.R_drewN | apply Kd.R_drew)); exact HO117.out) hb) (Kd.R_base ho0)) (Kd.R_base ho1)) (fun _ h_ => h_.1)); have n4_ := Aside0.mk (Kd.R_lower (Kd.R_new' (Kd.R_new' (Kd.R_new' (Kd.R_new' ho0 (Kd.R_lt (by (with_reducible repeat (first | apply Kd.R_alloc | apply Kd.R_drewN | apply Kd.R_drew)); exact HO106.out))) (Kd.R_lt (by (with_reducible repeat (first | apply Kd.R_alloc | apply Kd.R_drewN | apply Kd.R_drew)); exact HO110.out))) (Kd.R_lt (by (with_reducible repeat (first | apply Kd.R_alloc | apply Kd.R_drewN | apply Kd.R_drew)); exact HO114.out))) (Kd.R_lt (by (with_reducible repeat (first | apply Kd.R_alloc | apply Kd.R_drewN | apply Kd.R_drew)); exact HO117.out))) (below_size (by repeat (first | (with_reducible first | exact HB.out | apply below_alloc | apply pw_below_drewN | apply below_drew1 | refine below_set ?_ GE101.out) | exact HB.out)))); have n5_ := Aside0.mk (Kd.R_lower (Kd.R_new' (Kd.R_new' (Kd.R_new' (Kd.R_new' ho1 (Kd.R_lt (by (with_reducible repeat (first | apply Kd.R_alloc | apply Kd.R_drewN | apply Kd.R_drew)); exact HO106.out))) (Kd.R_lt (by (with_reducible repeat (first | apply Kd.R_alloc | apply Kd.R_drewN | apply Kd.R_drew)); exact HO110.out))) (Kd.R_lt (by (with_reducible repeat (first | apply Kd.R_alloc | apply Kd.R_drewN | apply Kd.R_drew)); exact HO114.out))) (Kd.R_lt (by (with_reducible repeat (first | apply Kd.R_alloc | apply Kd.R_drewN | apply Kd.R_drew)); exact HO117.out))) (below_size (by repeat (first | (with_reducible first | exact HB.out | apply below_alloc | apply pw_below_drewN | apply below_drew1 | refine below_set ?_ GE101.out) | exact HB.out)))); have n6_ := Aside0.mk (blk_below (g := gb101) (o := .cells #[.int .i64 a0_0, .slice A0_1 l0_1.length c0_1, .int .i64 a0_2, .int .i64 a0_3] 37 (0, 0)) (by (with_reducible repeat (first | refine blk_drewN ?_ _ | refine blk_drew ?_ | refine blk_alloc ?_ _)); exact BK101.out) hb); have n7_ := Aside0.mk (below_step (by repeat (first | (with_reducible first | exact HB.out | apply below_alloc | apply pw_below_drewN | apply below_drew1 | refine below_set ?_ GE101.out) | exact HB.out)) hb); clear HO106; clear HO110; clear HO114; clear HO117; clear BK101; clear HB; have HO106 := n0_; have HO110 := n1_; have HO114 := n2_; have HO117 := n3_; have HO121 := n4_; have HO124 := n5_; have BK101 := n6_; have HB := n7_; clear n0_ n1_ n2_ n3_ n4_ n5_ n6_ n7_; (try clear hb); (try clear hb2); (try clear hk); (try clear hi); (try clear ho0); (try clear ho1); have hcz23_0 : w22.cell? ⟨gb101, 0, none⟩ = some (.int .i64 a0_0) := (blk_cell BK101.out 0).trans rfl; have hcz23_1 : w22.cell? ⟨gb101, 1, none⟩ = some (.slice A0_1 l0_1.length c0_1) := (blk_cell BK101.out 1).trans rfl; have hcz23_2 : w22.cell? ⟨gb101, 2, none⟩ = some (.int .i64 a0_2) := (blk_cell BK101.out 2).trans rfl; have hcz23_3 : w22.cell? ⟨gb101, 3, none⟩ = some (.int .i64 a0_3) := (blk_cell BK101.out 3).trans rfl; have hfz23_0 := blk_frozen BK101.out 0; have hfz23_1 := blk_frozen BK101.out 1; have hfz23_2 := blk_frozen BK101.out 2; have hfz23_3 := blk_frozen BK101.out 3) | ((with_reducible refine gate_callee (f := 28) rfl ?_); refine goesL_ (some 54) rfl rfl Try.func28 (by kernel_rfl) rfl #[.agg #[.int .i64 a0_0, .slice A0_1 l0_1.length c0_1, .int .i64 a0_2, .int .i64 a0_3], .slice A1 l1.length c1, .bool false] rfl (by (try simp only [List.map_toArray, List.map_cons, List.map_nil]); first | done | rfl | (simp only [List.length_drop, List.length_take]; rfl)) ?_; (with_reducible refine (mooring_Circle.calls a0_0 _ _ l0_1 a0_2 a0_3 _ _ l1 false t126 t127 _ ?side1 ?side2 ?side3 ?side4 A9.out).mono ?_); (case side1 => repeat (first | exact (Kd.C_below HR0_1.out HB.out) | (with_reducible refine Kd.C_alloc ?_ _) | (with_reducible refine Kd.C_drewN ?_ _) | (with_reducible refine Kd.C_drew ?_))); (case side2 => exact HC0_1.out); (case side3 => repeat (first | exact (Kd.C_below HR1.out HB.out) | (with_reducible refine Kd.C_alloc ?_ _) | (with_reducible refine Kd.C_drewN ?_ _) | (with_reducible refine Kd.C_drew ?_))); (case side4 => exact HC1.out); rintro e w24 ⟨rfl, hb⟩; refine ⟨_, rfl, ?_⟩; have n0_ := Aside0.mk (Kd.R_below (by (with_reducible repeat (first | apply Kd.R_alloc | apply Kd.R_drewN | apply Kd.R_drew)); exact HO106.out) hb); have n1_ := Aside0.mk (Kd.R_below (by (with_reducible repeat (first | apply Kd.R_alloc | apply Kd.R_drewN | apply Kd.R_drew)); exact HO110.out) hb); have n2_ := Aside0.mk (Kd.R_below (by (with_reducible repeat (first | apply Kd.R_alloc | apply Kd.R_drewN | apply Kd.R_drew)); exact HO114.out) hb); have n3_ := Aside0.mk (Kd.R_below (by (with_reducible repeat (first | apply Kd.R_alloc | apply Kd.R_drewN | apply Kd.R_drew)); exact HO117.out) hb); have n4_ := Aside0.mk (Kd.R_below (by (with_reducible repeat (first | apply Kd.R_alloc | apply Kd.R_drewN | apply Kd.R_drew)); exact HO121.out) hb); have n5_ := Aside0.mk (Kd.R_below (by (with_reducible repeat (first | apply Kd.R_alloc | apply Kd.R_drewN | apply Kd.R_drew)); exact HO124.out) hb); have n6_ := Aside0.mk (blk_below (g := gb101) (o := .cells #[.int .i64 a0_0, .slice A0_1 l0_1.length c0_1, .int .i64 a0_2, .int .i64 a0_3] 37 (0, 0)) (by (with_reducible repeat (first | refine blk_drewN ?_ _ | refine blk_drew ?_ | refine blk_alloc ?_ _)); exact BK101.out) hb); have n7_ := Aside0.mk (below_step (by repeat (first | (with_reducible first | exact HB.out | apply below_alloc | apply pw_below_drewN | apply below_drew1 | refine below_set ?_ GE101.out) | exact HB.out)) hb); clear HO106; clear HO110; clear HO114; clear HO117; clear HO121; clear HO124; clear BK101; clear HB; have HO106 := n0_; have HO110 := n1_; have HO114 := n2_; have HO117 := n3_; have HO121 := n4_; have HO124 := n5_; have BK101 := n6_; have HB := n7_; clear n0_ n1_ n2_ n3_ n4_ n5_ n6_ n7_; (try clear hb); (try clear hb2); (try clear hk); (try clear hi); have hcz25_0 : w24.cell? ⟨gb101, 0, none⟩ = some (.int .i64 a0_0) := (blk_cell BK101.out 0).trans rfl; have hcz25_1 : w24.cell? ⟨gb101, 1, none⟩ = some (.slice A0_1 l0_1.length c0_1) := (blk_cell BK101.out 1).trans rfl; have hcz25_2 : w24.cell? ⟨gb101, 2, none⟩ = some (.int .i64 a0_2) := (blk_cell BK101.out 2).trans rfl; have hcz25_3 : w24.cell? ⟨gb101, 3, none⟩ = some (.int .i64 a0_3) := (blk_cell BK101.out 3).trans rfl; have hfz25_0 := blk_frozen BK101.out 0; have hfz25_1 := blk_frozen BK101.out 1; have hfz25_2 := blk_frozen BK101.out 2; have hfz25_3 := blk_frozen BK101.out 3) | ((with_reducible refine gate_callee (f := 28) rfl ?_); refine goesL_ (some 60) rfl rfl Try.func28 (by kernel_rfl) rfl #[.agg #[.int .i64 a0_0, .slice A0_1 l0_1.length c0_1, .int .i64 a0_2, .int .i64 a0_3], .slice A1 l1.length c1, .bool true] rfl (by (try simp only [List.map_toArray, List.map_cons, List.map_nil]); first | done | rfl | (simp only [List.length_drop, List.length_take]; rfl)) ?_; (with_reducible refine (mooring_Circle.calls a0_0 _ _ l0_1 a0_2 a0_3 _ _ l1 true t128 t129 _ ?side1 ?side2 ?side3 ?side4 A10.out).mono ?_); (case side1 => repeat (first | exact (Kd.C_below HR0_1.out HB.out) | (with_reducible refine Kd.C_alloc ?_ _) | (with_reducible refine Kd.C_drewN ?_ _) | (with_reducible refine Kd.C_drew ?_))); (case side2 => exact HC0_1.out); (case side3 => repeat (first | exact (Kd.C_below HR1.out HB.out) | (with_reducible refine Kd.C_alloc ?_ _) | (with_reducible refine Kd.C_drewN ?_ _) | (with_reducible refine Kd.C_drew ?_))); (case side4 => exact HC1.out); rintro e w26 ⟨rfl, hb⟩; refine ⟨_, rfl, ?_⟩; have n0_ := Aside0.mk (Kd.R_below (by (with_reducible repeat (first | apply Kd.R_alloc | apply Kd.R_drewN | apply Kd.R_drew)); exact HO106.out) hb); have n1_ := Aside0.mk (Kd.R_below (by (with_reducible repeat (first | apply Kd.R_alloc | apply Kd.R_drewN | apply Kd.R_drew)); exact HO110.out) hb); have n2_ := Aside0.mk (Kd.R_below (by (with_reducible repeat (first | apply Kd.R_alloc | apply Kd.R_drewN | apply Kd.R_drew)); exact HO114.out) hb); have n3_ := Aside0.mk (Kd.R_below (by (with_reducible repeat (first | apply Kd.R_alloc | apply Kd.R_drewN | apply Kd.R_drew)); exact HO117.out) hb); have n4_ := Aside0.mk (Kd.R_below (by (with_reducible repeat (first | apply Kd.R_alloc | apply Kd.R_drewN | apply Kd.R_drew)); exact HO121.out) hb); have n5_ := Aside0.mk (Kd.R_below (by (with_reducible repeat (first | apply Kd.R_alloc | apply Kd.R_drewN | apply Kd.R_drew)); exact HO124.out) hb); have n6_ := Aside0.mk (blk_below (g := gb101) (o := .cells #[.int .i64 a0_0, .slice A0_1 l0_1.length c0_1, .int .i64 a0_2, .int .i64 a0_3] 37 (0, 0)) (by (with_reducible repeat (first | refine blk_drewN ?_ _ | refine blk_drew ?_ | refine blk_alloc ?_ _)); exact BK101.out) hb); have n7_ := Aside0.mk (below_step (by repeat (first | (with_reducible first | exact HB.out | apply below_alloc | apply pw_below_drewN | apply below_drew1 | refine below_set ?_ GE101.out) | exact HB.out)) hb); clear HO106; clear HO110; clear HO114; clear HO117; clear HO121; clear HO124; clear BK101; clear HB; have HO106 := n0_; have HO110 := n1_; have HO114 := n2_; have HO117 := n3_; have HO121 := n4_; have HO124 := n5_; have BK101 := n6_; have HB := n7_; clear n0_ n1_ n2_ n3_ n4_ n5_ n6_ n7_; (try clear hb); (try clear hb2); (try clear hk); (try clear hi)))
    (try simp only [Act.put, List.setIfInBounds_toArray, List.set_cons_zero, List.set_cons_succ])
    go_cut [102] (fun v102 wc => ∃ (kq : Nat) (x102_10 : Bool), v102 = .bool x102_10 ∧ Aside0 (isobathlaw02_MooringFreer.j0 kq t104 t108 x102_10 = some r) ∧ Aside0 (kq ≤ k) ∧ Aside0 (Kd.R k57 57 wc w.heap.size (fun k_ => some k_ ≠ (v109 : Value).ownBlock) v105 t104) ∧ Aside0 (Kd.R k57 57 wc w.heap.size (fun k_ => some k_ ≠ (v105 : Value).ownBlock) v109 t108) ∧ Aside0 (wc.heap[gb101]? = some (.cells #[.int .i64 a0_0, (.slice A0_1 l0_1.length c0_1), .int .i64 a0_2, .int .i64 a0_3] 37 (0, 0))) ∧ Aside0 (Below w.heap.size w wc))
    case first =>
      have H := HC11.out
      clear HC11
      by_cases c27 : (wrap64 ((wrap64 ((wrap64 ((wrap64 ((wrap64 (t107 + t111)) + t118)) + t125)) + t127)) + t129)) = 0
      · rw [if_pos c27] at H
        have c27b0 : ((wrap64 ((wrap64 ((wrap64 ((wrap64 ((wrap64 (t107 + t111)) + t118)) + t125)) + t127)) + t129)) == 0) = true := beq_iff_eq.mpr c27
        have c27b1 : ((wrap64 ((wrap64 ((wrap64 ((wrap64 ((wrap64 (t107 + t111)) + t118)) + t125)) + t127)) + t129)) != 0) = false := bne_eq_false_iff_eq.mpr c27
        clear c27
        (first | rw [c27b0] | (simp only [i64_w, i32_w]; rw [c27b0]) | skip)
        replace H := Option.bind_eq_some_iff.mp H
        obtain ⟨t130, A280, H⟩ := H
        replace H : (if t130 = true then ((isobathlaw02_inside.f k t112 t119).bind fun t131 => (if t131 = true then ((isobathlaw02_inside.f k t115 t122).bind fun t132 => (if t132 = true then (if t126 = t128 then (isobathlaw02_MooringFreer.j0 k t104 t108 ((t104.length : Int) == 0)) else (none)) else (none))) else (none))) else (none)) = some r := H
        have A28 := Aside0.mk A280
        clear A280
        by_cases c29 : t130 = true
        · subst c29
          have H1 : ((isobathlaw02_inside.f k t112 t119).bind fun t131 => (if t131 = true then ((isobathlaw02_inside.f k t115 t122).bind fun t132 => (if t132 = true then (if t126 = t128 then (isobathlaw02_MooringFreer.j0 k t104 t108 ((t104.length : Int) == 0)) else (none)) else (none))) else (none))) = some r := by rw [if_pos rfl] at H; exact H
          clear H
          have H := H1
          clear H1
          replace H := Option.bind_eq_some_iff.mp H
          obtain ⟨t131, A300, H⟩ := H
          replace H : (if t131 = true then ((isobathlaw02_inside.f k t115 t122).bind fun t132 => (if t132 = true then (if t126 = t128 then (isobathlaw02_MooringFreer.j0 k t104 t108 ((t104.length : Int) == 0)) else (none)) else (none))) else (none)) = some r := H
          have A30 := Aside0.mk A300
          clear A300
          by_cases c31 : t131 = true
          · subst c31
            have H1 : ((isobathlaw02_inside.f k t115 t122).bind fun t132 => (if t132 = true then (if t126 = t128 then (isobathlaw02_MooringFreer.j0 k t104 t108 ((t104.length : Int) == 0)) else (none)) else (none))) = some r := by rw [if_pos rfl] at H; exact H
            clear H
            have H := H1
            clear H1
            replace H := Option.bind_eq_some_iff.mp H
            obtain ⟨t132, A320, H⟩ := H
            replace H : (if t132 = true then (if t126 = t128 then (isobathlaw02_MooringFreer.j0 k t104 t108 ((t104.length : Int) == 0)) else (none)) else (none)) = some r := H
            have A32 := Aside0.mk A320
            clear A320
            by_cases c33 : t132 = true
            · subst c33
              have H1 : (if t126 = t128 then (isobathlaw02_MooringFreer.j0 k t104 t108 ((t104.length : Int) == 0)) else (none)) = some r := by rw [if_pos rfl] at H; exact H
              clear H
              have H := H1
              clear H1
              by_cases c34 : t126 = t128
              · rw [if_pos c34] at H
                have c34b0 : (t126 == t128) = true := beq_iff_eq.mpr c34
                have c34b1 : (t126 != t128) = false := bne_eq_false_iff_eq.mpr c34
                clear c34
                have H' := Aside0.mk H
                clear H
                obtain ⟨Ao35, co35, eo35⟩ := Kd.R_slice HO106.out
                subst eo35
                obtain ⟨Ao36, co36, eo36⟩ := Kd.R_slice HO110.out
                subst eo36
                go_wp2_with (first | (go_at_call 29; (with_reducible refine (isobathlaw02_inside.calls k _ _ t104 _ _ t108 true _ ?side1 ?side2 ?side3 ?side4 A28.out).mono ?_); (case side1 => repeat (first | exact (Kd.R_reads' HO106.out).2.2 | (with_reducible refine Kd.C_alloc ?_ _) | (with_reducible refine Kd.C_drewN ?_ _) | (with_reducible refine Kd.C_drew ?_))); (case side2 => exact (Kd.R_reads' HO106.out).2.1); (case side3 => repeat (first | exact (Kd.R_reads' HO110.out).2.2 | (with_reducible refine Kd.C_alloc ?_ _) | (with_reducible refine Kd.C_drewN ?_ _) | (with_reducible refine Kd.C_drew ?_))); (case side4 => exact (Kd.R_reads' HO110.out).2.1); rintro e w' ⟨rfl, ⟨nd, rfl⟩⟩; obtain ⟨Ao37, co37, eo37⟩ := Kd.R_slice HO114.out; subst eo37; obtain ⟨Ao38, co38, eo38⟩ := Kd.R_slice HO121.out; subst eo38) | (go_at_call 29; (with_reducible refine (isobathlaw02_inside.calls k _ _ t112 _ _ t119 true _ ?side1 ?side2 ?side3 ?side4 A30.out).mono ?_); (case side1 => repeat (first | exact (Kd.R_reads' HO114.out).2.2 | (with_reducible refine Kd.C_alloc ?_ _) | (with_reducible refine Kd.C_drewN ?_ _) | (with_reducible refine Kd.C_drew ?_))); (case side2 => exact (Kd.R_reads' HO114.out).2.1); (case side3 => repeat (first | exact (Kd.R_reads' HO121.out).2.2 | (with_reducible refine Kd.C_alloc ?_ _) | (with_reducible refine Kd.C_drewN ?_ _) | (with_reducible refine Kd.C_drew ?_))); (case side4 => exact (Kd.R_reads' HO121.out).2.1); rintro e w' ⟨rfl, ⟨nd, rfl⟩⟩; obtain ⟨Ao39, co39, eo39⟩ := Kd.R_slice HO117.out; subst eo39; obtain ⟨Ao40, co40, eo40⟩ := Kd.R_slice HO124.out; subst eo40) | (go_at_call 29; (with_reducible refine (isobathlaw02_inside.calls k _ _ t115 _ _ t122 true _ ?side1 ?side2 ?side3 ?side4 A32.out).mono ?_); (case side1 => repeat (first | exact (Kd.R_reads' HO117.out).2.2 | (with_reducible refine Kd.C_alloc ?_ _) | (with_reducible refine Kd.C_drewN ?_ _) | (with_reducible refine Kd.C_drew ?_))); (case side2 => exact (Kd.R_reads' HO117.out).2.1); (case side3 => repeat (first | exact (Kd.R_reads' HO124.out).2.2 | (with_reducible refine Kd.C_alloc ?_ _) | (with_reducible refine Kd.C_drewN ?_ _) | (with_reducible refine Kd.C_drew ?_))); (case side4 => exact (Kd.R_reads' HO124.out).2.1); rintro e w' ⟨rfl, ⟨nd, rfl⟩⟩))
                go_meet
                case rel => exact ⟨_, (((t104.length : Int) == 0)), (by first | rfl | (simp; done) | (simp [*]; done)), H', ⟨by first | omega | exact Nat.le_refl _⟩, ⟨by (with_reducible repeat (first | apply Kd.R_alloc | apply Kd.R_drewN | apply Kd.R_drew)); exact Kd.R_mono HO106.out (fun _ hk => hk.1.1.1.1.2)⟩, ⟨by (with_reducible repeat (first | apply Kd.R_alloc | apply Kd.R_drewN | apply Kd.R_drew)); exact Kd.R_mono HO110.out (fun _ hk => hk.1.1.1.1.2)⟩, ⟨by (with_reducible repeat (first | refine blk_drewN ?_ _ | refine blk_drew ?_ | refine blk_alloc ?_ _)); exact BK101.out⟩, ⟨by repeat (first | (with_reducible first | exact HB.out | apply below_alloc | apply pw_below_drewN | apply below_drew1 | refine below_set ?_ GE101.out) | exact HB.out)⟩⟩
              · rw [if_neg c34] at H
                exact absurd H (by simp)
            · replace c33 := Bool.eq_false_iff.mpr c33
              subst c33
              have H1 : (none) = some r := by rw [if_neg (show ¬ (false = true) by decide)] at H; exact H
              clear H
              have H := H1
              clear H1
              exact absurd H (by simp)
          · replace c31 := Bool.eq_false_iff.mpr c31
            subst c31
            have H1 : (none) = some r := by rw [if_neg (show ¬ (false = true) by decide)] at H; exact H
            clear H
            have H := H1
            clear H1
            exact absurd H (by simp)
        · replace c29 := Bool.eq_false_iff.mpr c29
          subst c29
          have H1 : (none) = some r := by rw [if_neg (show ¬ (false = true) by decide)] at H; exact H
          clear H
          have H := H1
          clear H1
          exact absurd H (by simp)
      · rw [if_neg c27] at H
        exact absurd H (by simp)
    case rest =>
      clear HC11
      try clear c1
      try clear c2
      try clear p2
      try clear c3
      try clear c4
      try clear c6
      try clear p6
      try clear c25
      try clear c26
      try clear c27
      try clear c27b0
      try clear c27b1
      try clear c28
      try clear c29
      try clear c31
      try clear c33
      try clear c34
      try clear c34b0
      try clear c34b1
      try clear hcz13_0
      try clear hcz13_1
      try clear hcz13_2
      try clear hcz13_3
      try clear hcz15_0
      try clear hcz15_1
      try clear hcz15_2
      try clear hcz15_3
      try clear hcz17_0
      try clear hcz17_1
      try clear hcz17_2
      try clear hcz17_3
      try clear hcz19_0
      try clear hcz19_1
      try clear hcz19_2
      try clear hcz19_3
      try clear hcz21_0
      try clear hcz21_1
      try clear hcz21_2
      try clear hcz21_3
      try clear hcz23_0
      try clear hcz23_1
      try clear hcz23_2
      try clear hcz23_3
      try clear hcz25_0
      try clear hcz25_1
      try clear hcz25_2
      try clear hcz25_3
      try clear hfz13_0
      try clear hfz13_1
      try clear hfz13_2
      try clear hfz13_3
      try clear hfz15_0
      try clear hfz15_1
      try clear hfz15_2
      try clear hfz15_3
      try clear hfz17_0
      try clear hfz17_1
      try clear hfz17_2
      try clear hfz17_3
      try clear hfz19_0
      try clear hfz19_1
      try clear hfz19_2
      try clear hfz19_3
      try clear hfz21_0
      try clear hfz21_1
      try clear hfz21_2
      try clear hfz21_3
      try clear hfz23_0
      try clear hfz23_1
      try clear hfz23_2
      try clear hfz23_3
      try clear hfz25_0
      try clear hfz25_1
      try clear hfz25_2
      try clear hfz25_3
      obtain ⟨kq, x102_10, rfl, HA, HJ10, HO_5, HO_7, BK101, HB⟩ := hcut
      cases kq with
      | zero => exact absurd HA.out (by simp [isobathlaw02_MooringFreer.j0])
      | succ kj10 =>
        have H := HA.out
        clear HA
        simp only [isobathlaw02_MooringFreer.j0] at H
        by_cases c41 : x102_10 = true
        · subst c41
          have H1 : (none) = some r := by rw [if_pos rfl] at H; exact H
          clear H
          have H := H1
          clear H1
          exact absurd H (by simp)
        · replace c41 := Bool.eq_false_iff.mpr c41
          subst c41
          have H1 : (isobathlaw02_MooringFreer.l0 kj10 t104 t108 0) = some r := by rw [if_neg (show ¬ (false = true) by decide)] at H; exact H
          clear H
          have H := H1
          clear H1
          have H' := Aside0.mk H
          clear H
          go_wp2
          go_loopg [19] kj10 (fun kq v19 w' => ∃ (x19_2 : Int), v19 = .int .i64 x19_2 ∧ Aside0 (isobathlaw02_MooringFreer.l0 kq t104 t108 x19_2 = some r) ∧ Aside0 (kq ≤ kj10) ∧ Aside0 (Kd.R k57 57 w' w.heap.size (fun k_ => some k_ ≠ (v109 : Value).ownBlock) v105 t104) ∧ Aside0 (Kd.R k57 57 w' w.heap.size (fun k_ => some k_ ≠ (v105 : Value).ownBlock) v109 t108) ∧ Aside0 (w'.heap[gb101]? = some (.cells #[.int .i64 a0_0, (.slice A0_1 l0_1.length c0_1), .int .i64 a0_2, .int .i64 a0_3] 37 (0, 0))) ∧ Aside0 (Below w.heap.size w w'))
          case atStart => exact ⟨(0), (by first | rfl | (simp; done) | (simp [*]; done)), H', ⟨Nat.le_refl _⟩, ⟨by (with_reducible repeat (first | apply Kd.R_alloc | apply Kd.R_drewN | apply Kd.R_drew)); exact HO_5.out⟩, ⟨by (with_reducible repeat (first | apply Kd.R_alloc | apply Kd.R_drewN | apply Kd.R_drew)); exact HO_7.out⟩, ⟨by (with_reducible repeat (first | refine blk_drewN ?_ _ | refine blk_drew ?_ | refine blk_alloc ?_ _)); exact BK101.out⟩, ⟨by repeat (first | (with_reducible first | exact HB.out | apply below_alloc | apply pw_below_drewN | apply below_drew1 | refine below_set ?_ GE101.out) | exact HB.out)⟩⟩
          case round =>
            clear H'
            try clear c1
            try clear c2
            try clear p2
            try clear c3
            try clear c4
            try clear c6
            try clear p6
            try clear c25
            try clear c26
            try clear c27
            try clear c27b0
            try clear c27b1
            try clear c28
            try clear c29
            try clear c31
            try clear c33
            try clear c34
            try clear c34b0
            try clear c34b1
            try clear c41
            try clear hcz13_0
            try clear hcz13_1
            try clear hcz13_2
            try clear hcz13_3
            try clear hcz15_0
            try clear hcz15_1
            try clear hcz15_2
            try clear hcz15_3
            try clear hcz17_0
            try clear hcz17_1
            try clear hcz17_2
            try clear hcz17_3
            try clear hcz19_0
            try clear hcz19_1
            try clear hcz19_2
            try clear hcz19_3
            try clear hcz21_0
            try clear hcz21_1
            try clear hcz21_2
            try clear hcz21_3
            try clear hcz23_0
            try clear hcz23_1
            try clear hcz23_2
            try clear hcz23_3
            try clear hcz25_0
            try clear hcz25_1
            try clear hcz25_2
            try clear hcz25_3
            try clear hfz13_0
            try clear hfz13_1
            try clear hfz13_2
            try clear hfz13_3
            try clear hfz15_0
            try clear hfz15_1
            try clear hfz15_2
            try clear hfz15_3
            try clear hfz17_0
            try clear hfz17_1
            try clear hfz17_2
            try clear hfz17_3
            try clear hfz19_0
            try clear hfz19_1
            try clear hfz19_2
            try clear hfz19_3
            try clear hfz21_0
            try clear hfz21_1
            try clear hfz21_2
            try clear hfz21_3
            try clear hfz23_0
            try clear hfz23_1
            try clear hfz23_2
            try clear hfz23_3
            try clear hfz25_0
            try clear hfz25_1
            try clear hfz25_2
            try clear hfz25_3
            try clear p2
            try clear p6
            obtain ⟨x19_2, rfl, HA, HK2, HO_5, HO_7, BK101, HB⟩ := hrel
            cases gk with
            | zero => exact absurd HA.out (by simp [isobathlaw02_MooringFreer.l0])
            | succ k2 =>
              have H := HA.out
              clear HA
              simp only [isobathlaw02_MooringFreer.l0] at H
              by_cases c42 : x19_2 < (t104.length : Int)
              · rw [if_pos c42] at H
                have c42b0 : decide (x19_2 < (t104.length : Int)) = true := decide_eq_true c42
                clear c42
                by_cases c43 : 0 ≤ x19_2
                · rw [if_pos c43] at H
                  have c43b0 : decide (0 ≤ x19_2) = true := decide_eq_true c43
                  clear c43
                  by_cases c44 : x19_2 < (t108.length : Int)
                  · rw [if_pos c44] at H
                    have c44b0 : decide (x19_2 < (t108.length : Int)) = true := decide_eq_true c44
                    clear c44
                    by_cases c45 : ((rd_T57 t104 x19_2).f1) = ((rd_T57 t108 x19_2).f1)
                    · rw [if_pos c45] at H
                      have c45b0 : (((rd_T57 t104 x19_2).f1) == ((rd_T57 t108 x19_2).f1)) = true := beq_iff_eq.mpr c45
                      have c45b1 : (((rd_T57 t104 x19_2).f1) != ((rd_T57 t108 x19_2).f1)) = false := bne_eq_false_iff_eq.mpr c45
                      clear c45
                      have H' := Aside0.mk H
                      clear H
                      obtain ⟨Ao46, co46, eo46⟩ := Kd.R_slice HO_5.out
                      subst eo46
                      try go_wp2
                      have n0_ := Aside0.mk (Kd.R_drew HO_5.out)
                      have n1_ := Aside0.mk (Kd.R_drew HO_7.out)
                      have n2_ := Aside0.mk (blk_drew BK101.out)
                      have n3_ := Aside0.mk (below_drew1 HB.out)
                      clear HO_5
                      clear HO_7
                      clear BK101
                      clear HB
                      have HO_5 := n0_
                      have HO_7 := n1_
                      have BK101 := n2_
                      have HB := n3_
                      clear n0_ n1_ n2_ n3_
                      have p133 : 0 ≤ (x19_2 : Int) := of_decide_eq_true (by first | (with_reducible assumption) | assumption)
                      have q133 : x19_2 < (t104.length : Int) := of_decide_eq_true (by first | (with_reducible assumption) | assumption)
                      obtain ⟨ad133, e133, hx133_0, hx133_1⟩ := at_T57 (Kd.R_reads' HO_5.out).2.2 x19_2 p133 q133
                      cases e133
                      replace p133 := eq_true p133
                      replace q133 := eq_true q133
                      obtain ⟨Ao48, co48, eo48⟩ := Kd.R_slice HO_7.out
                      (first | subst eo48 | (injection eo48 with f1_ f2_ f3_; have f4_ := f1_.symm; have f5_ := f3_.symm; clear f1_ f2_ f3_; subst f4_; subst f5_))
                      have p134 : 0 ≤ (x19_2 : Int) := of_decide_eq_true (by first | (with_reducible assumption) | assumption)
                      have q134 : x19_2 < (t108.length : Int) := of_decide_eq_true (by first | (with_reducible assumption) | assumption)
                      obtain ⟨ad134, e134, hx134_0, hx134_1⟩ := at_T57 (Kd.R_reads' HO_7.out).2.2 x19_2 p134 q134
                      cases e134
                      replace p134 := eq_true p134
                      replace q134 := eq_true q134
                      refine start_ (n := 11) (S := fun w' => w'.cell? (ad133.add ((x19_2).toNat * 2)) = some (.int .i64 ((rd_T57 t104 x19_2).f0)) ∧ w'.cell? ⟨(ad133.add ((x19_2).toNat * 2)).block, (ad133.add ((x19_2).toNat * 2)).off + 1, none⟩ = some (.int .i64 ((rd_T57 t104 x19_2).f1)) ∧ w'.cell? (ad134.add ((x19_2).toNat * 2)) = some (.int .i64 ((rd_T57 t108 x19_2).f0)) ∧ w'.cell? ⟨(ad134.add ((x19_2).toNat * 2)).block, (ad134.add ((x19_2).toNat * 2)).off + 1, none⟩ = some (.int .i64 ((rd_T57 t108 x19_2).f1))) (ds := []) #[false, false, false, false, false, false, false, false, false, false, false] (by kernel_rfl) rfl rfl ⟨hx133_0, hx133_1, hx134_0, hx134_1⟩ (fun hHeld => ?_); refine with_tabW isobathlaw02_MooringFreer.tab14 isobathlaw02_MooringFreer.bits14 (fun HT_ HW_ => ?_)
                      generalize wr.drew = w47 at HO_5 HO_7 BK101 HB hx133_0 hx133_1 hx134_0 hx134_1 hHeld ⊢
                      refine pure_ (i := 0) (N := some 109) (v := ?_) (a' := ?_) #[true, false, false, false, false, false, false, false, false, false, false] rfl rfl (any_of HT_.out (by kernel_rfl)) (fun _ _ _ h => h) (Or.inl ⟨by rfl, ?_⟩) ?_ ?_
                      rotate_left
                      · intro w'
                        go_simp
                        with_reducible rfl
                      rotate_left
                      · simp only [Act.put, List.setIfInBounds_toArray, List.set_cons_zero, List.set_cons_succ, i64_w, i32_w]
                        rfl
                      refine pure_ (i := 1) (N := some 110) (v := ?_) (a' := ?_) #[true, true, false, false, false, false, false, false, false, false, false] rfl rfl (any_of HT_.out (by kernel_rfl)) (fun _ _ _ h => h) (Or.inl ⟨by rfl, ?_⟩) ?_ ?_
                      rotate_left
                      · intro w'
                        go_simp
                        with_reducible rfl
                      rotate_left
                      · simp only [Act.put, List.setIfInBounds_toArray, List.set_cons_zero, List.set_cons_succ, i64_w, i32_w]
                        rfl
                      refine pure_ (i := 2) (N := some 111) (v := ?_) (a' := ?_) #[true, true, true, false, false, false, false, false, false, false, false] rfl rfl (any_of HT_.out (by kernel_rfl)) (fun _ _ _ h => h) (Or.inl ⟨by rfl, ?_⟩) ?_ ?_
                      rotate_left
                      · intro w'
                        go_simp
                        with_reducible rfl
                      rotate_left
                      · simp only [Act.put, List.setIfInBounds_toArray, List.set_cons_zero, List.set_cons_succ, i64_w, i32_w]
                        rfl
                      refine pure_ (i := 3) (N := some 112) (v := ?_) (a' := ?_) #[true, true, true, true, false, false, false, false, false, false, false] rfl rfl (any_of HT_.out (by kernel_rfl)) (fun _ _ _ h => h) (Or.inl ⟨by rfl, ?_⟩) ?_ ?_
                      rotate_left
                      · intro w'
                        go_simp
                        with_reducible rfl
                      rotate_left
                      · simp only [Act.put, List.setIfInBounds_toArray, List.set_cons_zero, List.set_cons_succ, i64_w, i32_w]
                        rfl
                      refine pure_ (i := 5) (N := some 114) (v := ?_) (a' := ?_) #[true, true, true, true, false, true, false, false, false, false, false] rfl rfl (any_of HT_.out (by kernel_rfl)) (fun _ _ _ h => h) (Or.inl ⟨by rfl, ?_⟩) ?_ ?_
                      rotate_left
                      · intro w'
                        go_simp
                        with_reducible rfl
                      rotate_left
                      · simp only [Act.put, List.setIfInBounds_toArray, List.set_cons_zero, List.set_cons_succ, i64_w, i32_w]
                        rfl
                      refine pure_ (i := 6) (N := some 115) (v := ?_) (a' := ?_) #[true, true, true, true, false, true, true, false, false, false, false] rfl rfl (any_of HT_.out (by kernel_rfl)) (fun _ _ _ h => h) (Or.inl ⟨by rfl, ?_⟩) ?_ ?_
                      rotate_left
                      · intro w'
                        go_simp
                        with_reducible rfl
                      rotate_left
                      · simp only [Act.put, List.setIfInBounds_toArray, List.set_cons_zero, List.set_cons_succ, i64_w, i32_w]
                        rfl
                      refine pure_ (i := 7) (N := some 116) (v := ?_) (a' := ?_) #[true, true, true, true, false, true, true, true, false, false, false] rfl rfl (any_of HT_.out (by kernel_rfl)) (fun _ _ _ h => h) (Or.inl ⟨by rfl, ?_⟩) ?_ ?_
                      rotate_left
                      · intro w'
                        go_simp
                        with_reducible rfl
                      rotate_left
                      · simp only [Act.put, List.setIfInBounds_toArray, List.set_cons_zero, List.set_cons_succ, i64_w, i32_w]
                        rfl
                      refine pure_ (i := 8) (N := some 117) (v := ?_) (a' := ?_) #[true, true, true, true, false, true, true, true, true, false, false] rfl rfl (any_of HT_.out (by kernel_rfl)) (fun _ _ _ h => h) (Or.inl ⟨by rfl, ?_⟩) ?_ ?_
                      rotate_left
                      · intro w'
                        go_simp
                        with_reducible rfl
                      rotate_left
                      · simp only [Act.put, List.setIfInBounds_toArray, List.set_cons_zero, List.set_cons_succ, i64_w, i32_w]
                        rfl
                      refine take_ (i := 4) (N := some 113) (v := ?_) (a' := ?_) #[true, true, true, true, true, true, true, true, true, false, false] rfl rfl (take_ofW HT_.out HW_.out (by kernel_rfl)) (fun _ _ _ h => h) (Or.inl ⟨by rfl, ?_⟩) hHeld ?_ ?_
                      rotate_left
                      · rintro w' ⟨s0, s1, s2, s3⟩
                        go_simp
                        with_reducible rfl
                      rotate_left
                      · simp only [Act.put, List.setIfInBounds_toArray, List.set_cons_zero, List.set_cons_succ, i64_w, i32_w]
                        rfl
                      refine take_ (i := 9) (N := some 118) (v := ?_) (a' := ?_) #[true, true, true, true, true, true, true, true, true, true, false] rfl rfl (take_ofW HT_.out HW_.out (by kernel_rfl)) (fun _ _ _ h => h) (Or.inl ⟨by rfl, ?_⟩) hHeld ?_ ?_
                      rotate_left
                      · rintro w' ⟨s0, s1, s2, s3⟩
                        go_simp
                        with_reducible rfl
                      rotate_left
                      · simp only [Act.put, List.setIfInBounds_toArray, List.set_cons_zero, List.set_cons_succ, i64_w, i32_w]
                        rfl
                      refine pure_ (i := 10) (N := some 119) (v := ?_) (a' := ?_) #[true, true, true, true, true, true, true, true, true, true, true] rfl rfl (any_of HT_.out (by kernel_rfl)) (fun _ _ _ h => h) (Or.inl ⟨by rfl, ?_⟩) ?_ ?_
                      rotate_left
                      · intro w'
                        go_simp
                        with_reducible rfl
                      rotate_left
                      · simp only [Act.put, List.setIfInBounds_toArray, List.set_cons_zero, List.set_cons_succ, i64_w, i32_w]
                        rfl
                      refine done_ (done_of HT_.out (by kernel_rfl)) ?_
                      try go_wp2
                      go_roundg k2
                      case measure => have := HJ10.out; have := HK2.out; omega
                      case rel => exact ⟨(wrap64 (x19_2 + 1)), (by first | rfl | (simp; done) | (simp [*]; done)), H', ⟨by have := HJ10.out; have := HK2.out; omega⟩, ⟨by (with_reducible repeat (first | apply Kd.R_alloc | apply Kd.R_drewN | apply Kd.R_drew)); exact HO_5.out⟩, ⟨by (with_reducible repeat (first | apply Kd.R_alloc | apply Kd.R_drewN | apply Kd.R_drew)); exact HO_7.out⟩, ⟨by (with_reducible repeat (first | refine blk_drewN ?_ _ | refine blk_drew ?_ | refine blk_alloc ?_ _)); exact BK101.out⟩, ⟨by repeat (first | (with_reducible first | exact HB.out | apply below_alloc | apply pw_below_drewN | apply below_drew1 | refine below_set ?_ GE101.out) | exact HB.out)⟩⟩
                    · rw [if_neg c45] at H
                      exact absurd H (by simp)
                  · rw [if_neg c44] at H
                    exact absurd H (by simp)
                · rw [if_neg c43] at H
                  exact absurd H (by simp)
              · rw [if_neg c42] at H
                have c42b0 : decide (x19_2 < (t104.length : Int)) = false := decide_eq_false c42
                clear c42
                by_cases c49 : 0 < (t104.length : Int)
                · rw [if_pos c49] at H
                  have c49b0 : decide (0 < (t104.length : Int)) = true := decide_eq_true c49
                  have c49b1 : decide (0 < t104.length) = true := decide_eq_true (by omega)
                  clear c49
                  by_cases c50 : 0 < (t108.length : Int)
                  · rw [if_pos c50] at H
                    have c50b0 : decide (0 < (t108.length : Int)) = true := decide_eq_true c50
                    have c50b1 : decide (0 < t108.length) = true := decide_eq_true (by omega)
                    clear c50
                    by_cases c51 : (((rd_T57 t104 0).f0) == ((rd_T57 t108 0).f0) && (((rd_T57 t104 0).f1) == ((rd_T57 t108 0).f1))) = true
                    · rw [if_pos c51] at H
                      have c51b0 : (((rd_T57 t104 0).f0) == ((rd_T57 t108 0).f0) && (((rd_T57 t104 0).f1) == ((rd_T57 t108 0).f1))) = true := c51
                      (try (have c51b1 : decide (((rd_T57 t104 0).f0) = ((rd_T57 t108 0).f0) && (((rd_T57 t104 0).f1) == ((rd_T57 t108 0).f1))) = true := by simpa using c51))
                      (try (have c51b2 : (((rd_T57 t104 0).f0) == ((rd_T57 t108 0).f0) && (((rd_T57 t104 0).f1) == ((rd_T57 t108 0).f1))) = true := by simpa using c51))
                      clear c51
                      replace H := Option.bind_eq_some_iff.mp H
                      obtain ⟨t137, A520, H⟩ := H
                      replace H : (some t137) = some r := H
                      have A52 := Aside0.mk A520
                      clear A520
                      obtain rfl := Option.some.inj H
                      obtain ⟨Ao53, co53, eo53⟩ := Kd.R_slice HO_5.out
                      subst eo53
                      try go_wp2
                      have n0_ := Aside0.mk (Kd.R_drew HO_5.out)
                      have n1_ := Aside0.mk (Kd.R_drew HO_7.out)
                      have n2_ := Aside0.mk (blk_drew BK101.out)
                      have n3_ := Aside0.mk (below_drew1 HB.out)
                      clear HO_5
                      clear HO_7
                      clear BK101
                      clear HB
                      have HO_5 := n0_
                      have HO_7 := n1_
                      have BK101 := n2_
                      have HB := n3_
                      clear n0_ n1_ n2_ n3_
                      have p135 : 0 ≤ (0 : Int) := (by omega)
                      have q135 : 0 < (t104.length : Int) := of_decide_eq_true (by first | (with_reducible assumption) | assumption)
                      obtain ⟨ad135, e135, hx135_0, hx135_1⟩ := at_T57 (Kd.R_reads' HO_5.out).2.2 0 p135 q135
                      cases e135
                      have qi135 : (0 < t104.length) = True := eq_true (by omega)
                      (try rw [show ((0 : Int)).toNat = 0 from rfl] at hx135_0)
                      (try rw [show 0 * 2 = 0 from rfl] at hx135_0)
                      (try rw [Addr.add_zero'] at hx135_0)
                      (try rw [show ((0 : Int)).toNat = 0 from rfl] at hx135_1)
                      (try rw [show 0 * 2 = 0 from rfl] at hx135_1)
                      (try rw [Addr.add_zero'] at hx135_1)
                      replace p135 := eq_true p135
                      replace q135 := eq_true q135
                      obtain ⟨Ao55, co55, eo55⟩ := Kd.R_slice HO_7.out
                      (first | subst eo55 | (injection eo55 with f1_ f2_ f3_; have f4_ := f1_.symm; have f5_ := f3_.symm; clear f1_ f2_ f3_; subst f4_; subst f5_))
                      have p136 : 0 ≤ (0 : Int) := (by omega)
                      have q136 : 0 < (t108.length : Int) := of_decide_eq_true (by first | (with_reducible assumption) | assumption)
                      obtain ⟨ad136, e136, hx136_0, hx136_1⟩ := at_T57 (Kd.R_reads' HO_7.out).2.2 0 p136 q136
                      cases e136
                      have qi136 : (0 < t108.length) = True := eq_true (by omega)
                      (try rw [show ((0 : Int)).toNat = 0 from rfl] at hx136_0)
                      (try rw [show 0 * 2 = 0 from rfl] at hx136_0)
                      (try rw [Addr.add_zero'] at hx136_0)
                      (try rw [show ((0 : Int)).toNat = 0 from rfl] at hx136_1)
                      (try rw [show 0 * 2 = 0 from rfl] at hx136_1)
                      (try rw [Addr.add_zero'] at hx136_1)
                      replace p136 := eq_true p136
                      replace q136 := eq_true q136
                      refine start_ (n := 11) (S := fun w' => w'.cell? ad135 = some (.int .i64 ((rd_T57 t104 0).f0)) ∧ w'.cell? ⟨ad135.block, ad135.off + 1, none⟩ = some (.int .i64 ((rd_T57 t104 0).f1)) ∧ w'.cell? ad136 = some (.int .i64 ((rd_T57 t108 0).f0)) ∧ w'.cell? ⟨ad136.block, ad136.off + 1, none⟩ = some (.int .i64 ((rd_T57 t108 0).f1))) (ds := []) #[false, false, false, false, false, false, false, false, false, false, false] (by kernel_rfl) rfl rfl ⟨hx135_0, hx135_1, hx136_0, hx136_1⟩ (fun hHeld => ?_); refine with_tabW isobathlaw02_MooringFreer.tab16 isobathlaw02_MooringFreer.bits16 (fun HT_ HW_ => ?_)
                      generalize wr.drew = w54 at HO_5 HO_7 BK101 HB hx135_0 hx135_1 hx136_0 hx136_1 hHeld ⊢
                      refine pure_ (i := 0) (N := some 120) (v := ?_) (a' := ?_) #[true, false, false, false, false, false, false, false, false, false, false] rfl rfl (any_of HT_.out (by kernel_rfl)) (fun _ _ _ h => h) (Or.inl ⟨by rfl, ?_⟩) ?_ ?_
                      rotate_left
                      · intro w'
                        go_simp
                        with_reducible rfl
                      rotate_left
                      · simp only [Act.put, List.setIfInBounds_toArray, List.set_cons_zero, List.set_cons_succ, i64_w, i32_w]
                        rfl
                      refine pure_ (i := 1) (N := some 121) (v := ?_) (a' := ?_) #[true, true, false, false, false, false, false, false, false, false, false] rfl rfl (any_of HT_.out (by kernel_rfl)) (fun _ _ _ h => h) (Or.inl ⟨by rfl, ?_⟩) ?_ ?_
                      rotate_left
                      · intro w'
                        go_simp
                        with_reducible rfl
                      rotate_left
                      · simp only [Act.put, List.setIfInBounds_toArray, List.set_cons_zero, List.set_cons_succ, i64_w, i32_w]
                        rfl
                      refine pure_ (i := 3) (N := some 123) (v := ?_) (a' := ?_) #[true, true, false, true, false, false, false, false, false, false, false] rfl rfl (any_of HT_.out (by kernel_rfl)) (fun _ _ _ h => h) (Or.inl ⟨by rfl, ?_⟩) ?_ ?_
                      rotate_left
                      · intro w'
                        go_simp
                        with_reducible rfl
                      rotate_left
                      · simp only [Act.put, List.setIfInBounds_toArray, List.set_cons_zero, List.set_cons_succ, i64_w, i32_w]
                        rfl
                      refine pure_ (i := 4) (N := some 124) (v := ?_) (a' := ?_) #[true, true, false, true, true, false, false, false, false, false, false] rfl rfl (any_of HT_.out (by kernel_rfl)) (fun _ _ _ h => h) (Or.inl ⟨by rfl, ?_⟩) ?_ ?_
                      rotate_left
                      · intro w'
                        go_simp
                        with_reducible rfl
                      rotate_left
                      · simp only [Act.put, List.setIfInBounds_toArray, List.set_cons_zero, List.set_cons_succ, i64_w, i32_w]
                        rfl
                      refine take_ (i := 2) (N := some 122) (v := ?_) (a' := ?_) #[true, true, true, true, true, false, false, false, false, false, false] rfl rfl (take_ofW HT_.out HW_.out (by kernel_rfl)) (fun _ _ _ h => h) (Or.inl ⟨by rfl, ?_⟩) hHeld ?_ ?_
                      rotate_left
                      · rintro w' ⟨s0, s1, s2, s3⟩
                        go_simp
                        with_reducible rfl
                      rotate_left
                      · simp only [Act.put, List.setIfInBounds_toArray, List.set_cons_zero, List.set_cons_succ, i64_w, i32_w]
                        rfl
                      refine take_ (i := 5) (N := some 125) (v := ?_) (a' := ?_) #[true, true, true, true, true, true, false, false, false, false, false] rfl rfl (take_ofW HT_.out HW_.out (by kernel_rfl)) (fun _ _ _ h => h) (Or.inl ⟨by rfl, ?_⟩) hHeld ?_ ?_
                      rotate_left
                      · rintro w' ⟨s0, s1, s2, s3⟩
                        go_simp
                        with_reducible rfl
                      rotate_left
                      · simp only [Act.put, List.setIfInBounds_toArray, List.set_cons_zero, List.set_cons_succ, i64_w, i32_w]
                        rfl
                      refine pure_ (i := 6) (N := some 126) (v := ?_) (a' := ?_) #[true, true, true, true, true, true, true, false, false, false, false] rfl rfl (any_of HT_.out (by kernel_rfl)) (fun _ _ _ h => h) (Or.inl ⟨by rfl, ?_⟩) ?_ ?_
                      rotate_left
                      · intro w'
                        go_simp
                        with_reducible rfl
                      rotate_left
                      · simp only [Act.put, List.setIfInBounds_toArray, List.set_cons_zero, List.set_cons_succ, i64_w, i32_w]
                        rfl
                      refine pure_ (i := 7) (N := some 127) (v := ?_) (a' := ?_) #[true, true, true, true, true, true, true, true, false, false, false] rfl rfl (any_of HT_.out (by kernel_rfl)) (fun _ _ _ h => h) (Or.inl ⟨by rfl, ?_⟩) ?_ ?_
                      rotate_left
                      · intro w'
                        go_simp
                        with_reducible rfl
                      rotate_left
                      · simp only [Act.put, List.setIfInBounds_toArray, List.set_cons_zero, List.set_cons_succ, i64_w, i32_w]
                        rfl
                      refine one_ (i := 8) (N := some 128) #[true, true, true, true, true, true, true, true, true, false, false] rfl rfl (one_of HT_.out (by kernel_rfl)) (by decide) (fun K hK => ?_)
                      refine goes_ Try.func14 (by kernel_rfl) rfl #[] (by rfl) rfl rfl (by (try simp only [List.map_toArray, List.map_cons, List.map_nil]); first | done | rfl | (simp only [List.length_drop, List.length_take]; rfl)) ?_
                      with_reducible refine (isobathlaw02_fine.calls k2  t137 _ A52.out).mono ?_
                      rintro e w56 ⟨rfl, hb⟩
                      have HS0_ := (hb.cell (World.block_lt_of_cell? _ _ (hHeld.1))).trans (hHeld.1)
                      have HS1_ := (hb.cell (World.block_lt_of_cell? _ _ (hHeld.2.1))).trans (hHeld.2.1)
                      have HS2_ := (hb.cell (World.block_lt_of_cell? _ _ (hHeld.2.2.1))).trans (hHeld.2.2.1)
                      have HS3_ := (hb.cell (World.block_lt_of_cell? _ _ (hHeld.2.2.2))).trans (hHeld.2.2.2)
                      refine ⟨_, rfl, ?_⟩
                      have n0_ := Aside0.mk (Kd.R_below (by (with_reducible repeat (first | apply Kd.R_alloc | apply Kd.R_drewN | apply Kd.R_drew)); exact HO_5.out) hb)
                      have n1_ := Aside0.mk (Kd.R_below (by (with_reducible repeat (first | apply Kd.R_alloc | apply Kd.R_drewN | apply Kd.R_drew)); exact HO_7.out) hb)
                      have n2_ := Aside0.mk (blk_below (g := gb101) (o := .cells #[.int .i64 a0_0, .slice A0_1 l0_1.length c0_1, .int .i64 a0_2, .int .i64 a0_3] 37 (0, 0)) (by (with_reducible repeat (first | refine blk_drewN ?_ _ | refine blk_drew ?_ | refine blk_alloc ?_ _)); exact BK101.out) hb)
                      have n3_ := Aside0.mk (below_step (by repeat (first | (with_reducible first | exact HB.out | apply below_alloc | apply pw_below_drewN | apply below_drew1 | refine below_set ?_ GE101.out) | exact HB.out)) hb)
                      clear HO_5
                      clear HO_7
                      clear BK101
                      clear HB
                      have HO_5 := n0_
                      have HO_7 := n1_
                      have BK101 := n2_
                      have HB := n3_
                      clear n0_ n1_ n2_ n3_
                      (try clear hb)
                      (try clear hb2)
                      (try clear hk)
                      (try clear hi)
                      refine hK.out _ _ ⟨HS0_, HS1_, HS2_, HS3_⟩ (fun hHeld => ?_)
                      clear hK K
                      refine norm_ (a' := ?_) ?_ ?_
                      rotate_left
                      · show Act.put _ (some 128) _ = _
                        simp only [Act.put, List.setIfInBounds_toArray, List.set_cons_zero, List.set_cons_succ, i64_w, i32_w]
                        rfl
                      refine pure_ (i := 9) (N := some 129) (v := ?_) (a' := ?_) #[true, true, true, true, true, true, true, true, true, true, false] rfl rfl (any_of HT_.out (by kernel_rfl)) (fun _ _ _ h => h) (Or.inl ⟨by rfl, ?_⟩) ?_ ?_
                      rotate_left
                      · intro w'
                        go_simp
                        with_reducible rfl
                      rotate_left
                      · simp only [Act.put, List.setIfInBounds_toArray, List.set_cons_zero, List.set_cons_succ, i64_w, i32_w]
                        rfl
                      refine pure_ (i := 10) (N := some 4) (v := ?_) (a' := ?_) #[true, true, true, true, true, true, true, true, true, true, true] rfl rfl (any_of HT_.out (by kernel_rfl)) (fun _ _ _ h => h) (Or.inl ⟨by rfl, ?_⟩) ?_ ?_
                      rotate_left
                      · intro w'
                        go_simp
                        with_reducible rfl
                      rotate_left
                      · simp only [Act.put, List.setIfInBounds_toArray, List.set_cons_zero, List.set_cons_succ, i64_w, i32_w]
                        rfl
                      refine done_ (done_of HT_.out (by kernel_rfl)) ?_
                      try go_wp2
                      go_ret
                      exact ⟨by first | rfl | (simp [errW_none, errW_some] <;> rfl) | (simp [*, errW_none, errW_some] <;> rfl), by repeat (first | (with_reducible first | exact HB.out | apply below_alloc | apply pw_below_drewN | apply below_drew1 | refine below_set ?_ GE101.out) | exact HB.out)⟩
                    · rw [if_neg c51] at H
                      have c51b0 : (((rd_T57 t104 0).f0) == ((rd_T57 t108 0).f0) && (((rd_T57 t104 0).f1) == ((rd_T57 t108 0).f1))) = false := by simpa using c51
                      (try (have c51b1 : decide (((rd_T57 t104 0).f0) = ((rd_T57 t108 0).f0) && (((rd_T57 t104 0).f1) == ((rd_T57 t108 0).f1))) = false := by simpa using c51))
                      (try (have c51b2 : (((rd_T57 t104 0).f0) == ((rd_T57 t108 0).f0) && (((rd_T57 t104 0).f1) == ((rd_T57 t108 0).f1))) = false := by simpa using c51))
                      (try (have c51b3 : ¬ (((rd_T57 t104 0).f0) = ((rd_T57 t108 0).f0) && (((rd_T57 t104 0).f1) == ((rd_T57 t108 0).f1))) := by simpa using c51))
                      clear c51
                      exact absurd H (by simp)
                  · rw [if_neg c50] at H
                    exact absurd H (by simp)
                · rw [if_neg c49] at H
                  exact absurd H (by simp)
  · replace c4 := Bool.eq_false_iff.mpr c4
    subst c4
    have H1 : ((isobathlaw02_fine.f k).bind fun t103 => (some t103)) = some r := by rw [if_neg (show ¬ (false = true) by decide)] at H; exact H
    clear H
    have H := H1
    clear H1
    replace H := Option.bind_eq_some_iff.mp H
    obtain ⟨t103, A570, H⟩ := H
    replace H : (some t103) = some r := H
    have A57 := Aside0.mk A570
    clear A570
    obtain rfl := Option.some.inj H
    go_enter Try.func6, Try.ntmps6
    go_wp2_with (first | ((with_reducible refine gate_dst (N := 2) rfl ?_); (try (refine gate_guard (by rfl) ?_; dsimp only)); refine box_event ?hg (N := 2) ?hd (cs := #[.int .i64 a0_0, .slice A0_1 l0_1.length c0_1, .int .i64 a0_2, .int .i64 a0_3]) (t := 37) ?hr ?_; (case hd => rfl); (case hg => rfl); (case hr => first | (go_simp; done) | (go_simp; rfl)); intro gb101 hg w58 hbox hb; have n0_ := Aside0.mk (below_step (by repeat (first | (with_reducible first | exact HB.out | apply below_alloc | apply pw_below_drewN | apply below_drew1) | exact HB.out)) hb); have n1_ := Aside0.mk (hbox); have n2_ := Aside0.mk ((by rw [hg]; exact (below_size (by repeat (first | (with_reducible first | exact HB.out | apply below_alloc | apply pw_below_drewN | apply below_drew1) | exact HB.out))) : w.heap.size ≤ gb101)); have n3_ := Aside0.mk ((by rw [hg]; exact (below_size (by repeat (first | (with_reducible first | exact HB.out | apply below_alloc | apply pw_below_drewN | apply below_drew1) | exact HB.out))) : w.heap.size ≤ gb101)); clear HB; have HB := n0_; have BK101 := n1_; have GW101 := n2_; have GE101 := n3_; clear n0_ n1_ n2_ n3_; clear hb hbox hg; have hcz59_0 : w58.cell? ⟨gb101, 0, none⟩ = some (.int .i64 a0_0) := (blk_cell BK101.out 0).trans rfl; have hcz59_1 : w58.cell? ⟨gb101, 1, none⟩ = some (.slice A0_1 l0_1.length c0_1) := (blk_cell BK101.out 1).trans rfl; have hcz59_2 : w58.cell? ⟨gb101, 2, none⟩ = some (.int .i64 a0_2) := (blk_cell BK101.out 2).trans rfl; have hcz59_3 : w58.cell? ⟨gb101, 3, none⟩ = some (.int .i64 a0_3) := (blk_cell BK101.out 3).trans rfl; have hfz59_0 := blk_frozen BK101.out 0; have hfz59_1 := blk_frozen BK101.out 1; have hfz59_2 := blk_frozen BK101.out 2; have hfz59_3 := blk_frozen BK101.out 3) | ((with_reducible refine gate_callee (f := 25) rfl ?_); refine goesL_ (some 22) rfl rfl Try.func25 (by kernel_rfl) rfl #[.agg #[.int .i64 a0_0, .slice A0_1 l0_1.length c0_1, .int .i64 a0_2, .int .i64 a0_3], .slice A1 l1.length c1] rfl (by (try simp only [List.map_toArray, List.map_cons, List.map_nil]); first | done | rfl | (simp only [List.length_drop, List.length_take]; rfl)) ?_; (with_reducible refine (isobathlaw02_valid.calls k a0_0 _ _ l0_1 a0_2 a0_3 _ _ l1 false _ ?side1 ?side2 ?side3 ?side4 A3.out).mono ?_); (case side1 => repeat (first | exact (Kd.C_below HR0_1.out HB.out) | (with_reducible refine Kd.C_alloc ?_ _) | (with_reducible refine Kd.C_drewN ?_ _) | (with_reducible refine Kd.C_drew ?_))); (case side2 => exact HC0_1.out); (case side3 => repeat (first | exact (Kd.C_below HR1.out HB.out) | (with_reducible refine Kd.C_alloc ?_ _) | (with_reducible refine Kd.C_drewN ?_ _) | (with_reducible refine Kd.C_drew ?_))); (case side4 => exact HC1.out); rintro e w60 ⟨rfl, hb⟩; refine ⟨_, rfl, ?_⟩; have n0_ := Aside0.mk (blk_below (g := gb101) (o := .cells #[.int .i64 a0_0, .slice A0_1 l0_1.length c0_1, .int .i64 a0_2, .int .i64 a0_3] 37 (0, 0)) (by (with_reducible repeat (first | refine blk_drewN ?_ _ | refine blk_drew ?_ | refine blk_alloc ?_ _)); exact BK101.out) hb); have n1_ := Aside0.mk (below_step (by repeat (first | (with_reducible first | exact HB.out | apply below_alloc | apply pw_below_drewN | apply below_drew1 | refine below_set ?_ GE101.out) | exact HB.out)) hb); clear BK101; clear HB; have BK101 := n0_; have HB := n1_; clear n0_ n1_; (try clear hb); (try clear hb2); (try clear hk); (try clear hi)) | ((with_reducible refine gate_callee (f := 14) rfl ?_); refine goesL_ (some 24) rfl rfl Try.func14 (by kernel_rfl) rfl #[] rfl (by (try simp only [List.map_toArray, List.map_cons, List.map_nil]); first | done | rfl | (simp only [List.length_drop, List.length_take]; rfl)) ?_; (with_reducible refine (isobathlaw02_fine.calls k  t103 _ A57.out).mono ?_); rintro e w61 ⟨rfl, hb⟩; refine ⟨_, rfl, ?_⟩; have n0_ := Aside0.mk (blk_below (g := gb101) (o := .cells #[.int .i64 a0_0, .slice A0_1 l0_1.length c0_1, .int .i64 a0_2, .int .i64 a0_3] 37 (0, 0)) (by (with_reducible repeat (first | refine blk_drewN ?_ _ | refine blk_drew ?_ | refine blk_alloc ?_ _)); exact BK101.out) hb); have n1_ := Aside0.mk (below_step (by repeat (first | (with_reducible first | exact HB.out | apply below_alloc | apply pw_below_drewN | apply below_drew1 | refine below_set ?_ GE101.out) | exact HB.out)) hb); clear BK101; clear HB; have BK101 := n0_; have HB := n1_; clear n0_ n1_; (try clear hb); (try clear hb2); (try clear hk); (try clear hi)))
    go_ret
    exact ⟨by first | rfl | (simp [errW_none, errW_some] <;> rfl) | (simp [*, errW_none, errW_some] <;> rfl), by repeat (first | (with_reducible first | exact HB.out | apply below_alloc | apply pw_below_drewN | apply below_drew1 | refine below_set ?_ GE101.out) | exact HB.out)⟩
end Go.Proofs.Ytebcmhajbjkojaa.P
namespace Go.Proofs.Ytebcmhajbjkojaa.P
open Go.RowKit Go.Proofs.YtebcmhajbjkojaaW.PrintWords Go.Proofs.YtebcmhajbjkojaaW.PrintLast Go.Proofs.YtebcmhajbjkojaaW.PrintMore
namespace mooringFreer
open Go.ChangeShapes Go.WideShapes Go.ChangeAt
set_option linter.unusedVariables false
set_option linter.unusedSimpArgs false
def B46 (x : S46) : Prop := (fun n : Int => (Lit.int .i64 n).wf = true) x.f0 ∧ (fun n : Int => (Lit.int .i64 n).wf = true) x.f1 ∧ (fun n : Int => (Lit.int .i64 n).wf = true) x.f2 ∧ (fun n : Int => (Lit.int .i64 n).wf = true) x.f3
theorem opens46 : Opens Try.prog 46 k46 B46 := Opens.struct (fs := _) Try.underlying46 (fun x : S46 => (x.f0, x.f1, x.f2, x.f3)) (fun t => ⟨t.1, t.2.1, t.2.2.1, t.2.2.2⟩) (fun _ => rfl) (OpensF.cons rfl (by kernel_rfl) (Opens.int Try.underlying2) (OpensF.cons rfl (by kernel_rfl) (Opens.int Try.underlying2) (OpensF.cons rfl (by kernel_rfl) (Opens.int Try.underlying2) (OpensF.last rfl (by kernel_rfl) (Opens.int Try.underlying2)))))
def B37 (x : S37) : Prop := (fun n : Int => (Lit.int .i64 n).wf = true) x.f0 ∧ (fun xs : List S46 => xs.length ≤ 9223372036854775807 ∧ ∀ x ∈ xs, B46 x) x.f1 ∧ (fun n : Int => (Lit.int .i64 n).wf = true) x.f2 ∧ (fun n : Int => (Lit.int .i64 n).wf = true) x.f3
theorem opens37 : Opens Try.prog 37 k37 B37 := Opens.struct (fs := _) Try.underlying37 (fun x : S37 => (x.f0, x.f1, x.f2, x.f3)) (fun t => ⟨t.1, t.2.1, t.2.2.1, t.2.2.2⟩) (fun _ => rfl) (OpensF.cons rfl (by kernel_rfl) (Opens.int Try.underlying2) (OpensF.cons rfl (by kernel_rfl) (Opens.slice Try.underlying35 (by kernel_rfl) opens46) (OpensF.cons rfl (by kernel_rfl) (Opens.int Try.underlying2) (OpensF.last rfl (by kernel_rfl) (Opens.int Try.underlying2)))))
def B57 (x : S57) : Prop := (fun n : Int => (Lit.int .i64 n).wf = true) x.f0 ∧ (fun n : Int => (Lit.int .i64 n).wf = true) x.f1
theorem opens57 : Opens Try.prog 57 k57 B57 := Opens.struct (fs := _) Try.underlying57 (fun x : S57 => (x.f0, x.f1)) (fun t => ⟨t.1, t.2⟩) (fun _ => rfl) (OpensF.cons rfl (by kernel_rfl) (Opens.int Try.underlying2) (OpensF.last rfl (by kernel_rfl) (Opens.int Try.underlying2)))
def Pure : Prop := ∀ (x0 : S37) (x1 : (List S57)), B37 x0 → (fun xs : List S57 => xs.length ≤ 9223372036854775807 ∧ ∀ x ∈ xs, B57 x) x1 → ∃ k, isobathlaw02_MooringFreer.f k x0.f0 x0.f1 x0.f2 x0.f3 x1 = some true
theorem own : ownKnob Try.prog.godebug = none := by kernel_rfl
theorem laidOut : laidOutB Try.prog = true := by kernel_rfl
set_option maxRecDepth 100000 in
theorem lifted (hP : Pure) (os : Os) (started : os.Started) (H : Type) (enc : TypeId × Value → H) :
    ReturnsInHanded {} Try.checked os 6 .any (Rows.mooringFreerSpec.pre6 enc Try.prog Try.f6 Rows.mooringFreerRow.domain false) (Rows.mooringFreerSpec.post enc Try.prog Try.f6 false true false false) := by
  refine returnsInHanded_of_change_sized (C := Try.checked) own started (by kernel_rfl) Try.func6
    (ChangeSpec.witness6 (enc := enc) (C := Try.checked) false ⟨#[], #[.agg #[.int .i64 0, .slice none 0 0, .int .i64 0, .int .i64 0], .slice none 0 0], []⟩ 8 (by kernel_rfl) (by kernel_rfl) (by kernel_rfl) (by kernel_rfl)) ?_
  intro W base args ds gs before hval0 hW hcnd hsz0 _
  have hval : ∀ (j : Nat) t v, Try.f6.params[j]? = some t → args[j]? = some v → Value.okWide Try.prog W .any base t v := hval0
  have hW' := hW
  obtain ⟨p, q, hA0, hV, rfl, hfz, hnd⟩ := hW
  have hA : DataW.TrodAll enc Try.prog W 0 (fun _ => true) true Try.f6.params.toList args.toList ds p := hA0
  rw [Try.params6] at hA hval
  obtain ⟨v0, vs0, d0, ds0, p0, q0, hargs, rfl, rfl, h0, r0⟩ := trodAll_cons hA
  obtain ⟨v1, vs1, d1, ds1, p1, q1, rfl, rfl, rfl, h1, r1⟩ := trodAll_cons r0
  obtain ⟨rfl, rfl, rfl⟩ := trodAll_nil r1
  obtain rfl : args = #[v0, v1] := by cases args; simp_all
  obtain ⟨rfl, rfl⟩ := trodVars_none hV
  have k0 := h0
  have lt0 : ∀ x ∈ p0, x.block < W.heap.size := by obtain ⟨m, hm⟩ := k0; exact DataW.trod_lt m _ _ _ hm
  obtain ⟨m0, hm0⟩ := h0
  obtain ⟨x0, hk0, w0⟩ := Opens.run opens37 hm0
  obtain ⟨A0_1, c0_1, hcs0, hc0_1, hr0_1⟩ := k37_open hk0
  obtain rfl := cells_agg hcs0 (by simp)
  have k1 := h1
  have lt1 : ∀ x ∈ p1, x.block < W.heap.size := by obtain ⟨m, hm⟩ := k1; exact DataW.trod_lt m _ _ _ hm
  obtain ⟨m1, hm1⟩ := h1
  obtain ⟨x1, hk1, w1⟩ := Opens.run (Opens.slice Try.underlying48 (by kernel_rfl) opens57) hm1
  obtain ⟨a1, len1, cap1, rfl⟩ := okWide_slice Try.underlying48 (hval 1 48 v1 rfl rfl)
  obtain ⟨A1, c1, hcs1, hc1, hr1⟩ := hk1
  simp [Value.cells] at hcs1
  obtain ⟨rfl, rfl, rfl⟩ := hcs1
  clear hA0 hval0 hsz0
  obtain ⟨k, hf⟩ := hP x0 x1 w0 w1
  refine (isobathlaw02_MooringFreer.calls (k := k) (a0_0 := x0.f0) (A0_1 := A0_1) (c0_1 := c0_1) (l0_1 := x0.f1) (a0_2 := x0.f2) (a0_3 := x0.f3) (A1 := a1) (c1 := cap1) (l1 := x1) (r := true) (w := W) (hr0_1 := hr0_1) (hc0_1 := hc0_1) (hr1 := hr1) (hc1 := hc1) (h := hf)).mono fun e W' ⟨he, hd⟩ => ?_
  have bel : Below W.heap.size W W' := by first | exact hd | (obtain ⟨m, rfl⟩ := hd; exact pw_below_drewN (Below.refl _ _) m)
  subst he
  exact ⟨_, rfl, _, _, _, [], _, [], hW', trodAll_mk1 (shut_bool Try.underlying4 _), (trodAll_cons_mk (Below.trod laidOut (by kernel_rfl) (of_decide_eq_true (by kernel_rfl)) k0 bel lt0) (trodAll_cons_mk (Below.trod laidOut (by kernel_rfl) (of_decide_eq_true (by kernel_rfl)) k1 bel lt1) trodAll_mk0)), rfl, bel.frame _, fun h => by cases h⟩
theorem over (hP : Pure) : Rows.mooringFreerRow.holds Try.pinned (OpenSpec.ofChange Rows.mooringFreerSpec) :=
  OpenClaim.holds_of_wide 6 Try.f6 rfl rfl rfl rfl rfl rfl rfl ⟨rfl, rfl, rfl, rfl, rfl⟩ rfl rfl rfl rfl rfl (by kernel_rfl) Try.func6 (by kernel_rfl)
    (of_decide_eq_true (by kernel_rfl)) (by unfold Func.isWrapper; first | (rw [if_pos (by decide +kernel)]; kernel_rfl) | (rw [if_neg (by decide +kernel)]; exact ⟨rfl, rfl⟩))
    (fun os started H enc _ => lifted hP os started H enc)
theorem proved (hP : Pure) : Rows.MooringFreerSaid := over hP
end mooringFreer
end Go.Proofs.Ytebcmhajbjkojaa.P
namespace Go.Proofs.Ytebcmhajbjkojaa.P
open Go.RowKit Go.Proofs.YtebcmhajbjkojaaW.PrintWords Go.Proofs.YtebcmhajbjkojaaW.PrintLast Go.Proofs.YtebcmhajbjkojaaW.PrintMore
attribute [local go_sem] max2_int min2_int max_two min_two max_three min_three max_four min_four   -- for this text's walks alone
set_option linter.unusedVariables false
set_option linter.unusedSimpArgs false
def mooring_Forces.f (d : Int) (els : List S46) (an fr : Int) (cs : List S57) : Option (List S57 × Int) := if Moor.err d els an fr cs false = 0 then some (Moor.on els cs, 0) else some ([], Moor.err d els an fr cs false)
end Go.Proofs.Ytebcmhajbjkojaa.P
namespace Go.Proofs.Ytebcmhajbjkojaa.P
open Go.RowKit Go.Proofs.YtebcmhajbjkojaaW.PrintWords Go.Proofs.YtebcmhajbjkojaaW.PrintLast Go.Proofs.YtebcmhajbjkojaaW.PrintMore
attribute [local go_sem] max2_int min2_int max_two min_two max_three min_three max_four min_four   -- for this text's walks alone
set_option linter.unusedVariables false
set_option linter.unusedSimpArgs false
theorem Law2.long (d : Int) (els : List S46) (an fr : Int) (cs : List S57) : isobathlaw02_long.f d els an fr cs = some (decide (60 < els.length ∨ 60 < cs.length)) := by
  unfold isobathlaw02_long.f
  by_cases h : 60 < els.length
  · rw [if_pos (by omega), decide_eq_true (by omega)]
  · rw [if_neg (by omega)]
    by_cases h2 : 60 < cs.length
    · rw [decide_eq_true (by omega), decide_eq_true (by omega)]
    · rw [decide_eq_false (by omega), decide_eq_false (by omega)]
end Go.Proofs.Ytebcmhajbjkojaa.P
namespace Go.Proofs.Ytebcmhajbjkojaa.P
open Go.RowKit Go.Proofs.YtebcmhajbjkojaaW.PrintWords Go.Proofs.YtebcmhajbjkojaaW.PrintLast Go.Proofs.YtebcmhajbjkojaaW.PrintMore
attribute [local go_sem] max2_int min2_int max_two min_two max_three min_three max_four min_four   -- for this text's walks alone
set_option linter.unusedVariables false
set_option linter.unusedSimpArgs false
theorem Moor.rootUp_le {n s : Int} (h0 : 0 ≤ n) (hn : n < 1152921504606846976) (hs : 0 ≤ s) (h : n ≤ s * s) : Moor.rootUp n ≤ s := by
  obtain ⟨r0, r1, r2⟩ := Moor.root_is h0 hn
  unfold Moor.rootUp
  by_cases c : Moor.root n * Moor.root n < n
  · rw [if_pos c]
    have := lt_of_sq (a := Moor.root n) (b := s) hs (by omega)
    omega
  · rw [if_neg c]
    exact le_of_sq hs (by omega)
theorem Moor.le_root {n s : Int} (h0 : 0 ≤ n) (hn : n < 1152921504606846976) (h : s * s ≤ n) : s ≤ Moor.root n := by
  obtain ⟨r0, r1, r2⟩ := Moor.root_is h0 hn
  have := lt_of_sq (a := s) (b := Moor.root n + 1) (by omega) (by omega)
  omega
theorem Moor.root_mono {n m : Int} (h0 : 0 ≤ n) (h : n ≤ m) (hm : m < 1152921504606846976) : Moor.root n ≤ Moor.root m := by
  obtain ⟨r0, r1, r2⟩ := Moor.root_is h0 (Int.lt_of_le_of_lt h hm)
  exact Moor.le_root (Int.le_trans h0 h) hm (Int.le_trans r1 h)
theorem Moor.rootUp_nonneg {n : Int} (h0 : 0 ≤ n) (hn : n < 1152921504606846976) : 0 ≤ Moor.rootUp n := by
  obtain ⟨r0, r1, r2⟩ := Moor.root_is h0 hn
  have := Moor.rootUp_is h0 hn
  omega
theorem Moor.rootUp_mono {n m : Int} (h0 : 0 ≤ n) (h : n ≤ m) (hm : m < 1152921504606846976) : Moor.rootUp n ≤ Moor.rootUp m := by
  have := Moor.rootUp_is (Int.le_trans h0 h) hm
  exact Moor.rootUp_le h0 (Int.lt_of_le_of_lt h hm) (Moor.rootUp_nonneg (Int.le_trans h0 h) hm) (by omega)
theorem Moor.rootUp_step {x y v : Int} (h0 : 0 ≤ x) (h : x ≤ y) (hy : y * y + v * v < 1152921504606846976) (hv : 0 ≤ v * v) : Moor.rootUp (y * y + v * v) ≤ Moor.rootUp (x * x + v * v) + (y - x) := by
  have hxx := sq_le_sq h0 h
  have hx0 := sq_le_sq (a := 0) (Int.le_refl 0) h0
  have hb : 0 ≤ x * x + v * v := by omega
  have u := Moor.rootUp_is hb (by omega)
  have u0 := Moor.rootUp_nonneg hb (by omega)
  have hxr : x ≤ Moor.rootUp (x * x + v * v) := le_of_sq u0 (by omega)
  apply Moor.rootUp_le (by omega) hy (by omega)
  generalize Moor.rootUp (x * x + v * v) = R at *
  obtain ⟨d, rfl⟩ : ∃ d, y = x + d := ⟨y - x, by omega⟩
  have h1 : x * d ≤ R * d := Int.mul_le_mul_of_nonneg_right hxr (by omega)
  have e1 : (x + d) * (x + d) = x * x + 2 * (x * d) + d * d := by grind
  have e2 : (R + (x + d - x)) * (R + (x + d - x)) = R * R + 2 * (R * d) + d * d := by grind
  omega
theorem Moor.ediv_le {a b c : Int} (hb : 0 < b) (h : a ≤ c * b) : a / b ≤ c := by
  have := (Int.ediv_lt_iff_lt_mul (a := a) (b := c + 1) hb).2 (by
    have : (c + 1) * b = c * b + b := by grind
    omega)
  omega
theorem Moor.cdiv_le {a b c : Int} (hb : 0 < b) (h : a ≤ c * b) : (a + b - 1) / b ≤ c := by
  have := (Int.ediv_lt_iff_lt_mul (a := a + b - 1) (b := c + 1) hb).2 (by
    have : (c + 1) * b = c * b + b := by grind
    omega)
  omega
theorem Moor.le_cdiv {a b : Int} (hb : 0 < b) : a ≤ (a + b - 1) / b * b := by
  have h1 := Int.emod_add_mul_ediv (a + b - 1) b
  have h2 := Int.emod_lt_of_pos (a + b - 1) hb
  have h3 : b * ((a + b - 1) / b) = (a + b - 1) / b * b := Int.mul_comm _ _
  omega
theorem Moor.ediv_mul_le {a b : Int} (hb : 0 < b) : a / b * b ≤ a := Int.ediv_mul_le a (by omega)
theorem Moor.offs_lo {l x y v : Int} (hl : 0 ≤ l) (h0 : 0 ≤ x) (h : x ≤ y) (hv : 1 ≤ v) (hy : y * y + v * v < 1152921504606846976) : l * x / Moor.rootUp (x * x + v * v) ≤ l * y / Moor.rootUp (y * y + v * v) := by
  have hvv := sq_le_sq (a := 1) (b := v) (by omega) hv
  have hxx := sq_le_sq h0 h
  have hx0 := sq_le_sq (a := 0) (Int.le_refl 0) h0
  have hs := Moor.rootUp_step h0 h hy (by omega)
  have a1 := Moor.rootUp_is (n := x * x + v * v) (by omega) (by omega)
  have a2 := Moor.rootUp_is (n := y * y + v * v) (by omega) (by omega)
  have b1 := Moor.root_pos (n := x * x + v * v) (by omega) (by omega)
  have b2 := Moor.root_pos (n := y * y + v * v) (by omega) (by omega)
  have hxr : x ≤ Moor.rootUp (x * x + v * v) := le_of_sq (by omega) (by omega)
  generalize Moor.rootUp (x * x + v * v) = R at *
  generalize Moor.rootUp (y * y + v * v) = Q at *
  have q1 := Moor.ediv_mul_le (a := l * x) (b := R) (by omega)
  have q2 : l * x / R ≤ l := Moor.ediv_le (by omega) (Int.mul_le_mul_of_nonneg_left hxr hl)
  have q0 : 0 ≤ l * x / R := Int.ediv_nonneg (Int.mul_nonneg hl h0) (by omega)
  refine (Int.le_ediv_iff_mul_le (by omega)).2 ?_
  generalize l * x / R = q at *
  have s1 : q * Q ≤ q * (R + (y - x)) := Int.mul_le_mul_of_nonneg_left hs q0
  have s2 : q * (y - x) ≤ l * (y - x) := Int.mul_le_mul_of_nonneg_right q2 (by omega)
  have s3 : q * (R + (y - x)) = q * R + q * (y - x) := Int.mul_add _ _ _
  have s4 : l * (y - x) = l * y - l * x := Int.mul_sub _ _ _
  omega
theorem Moor.root_step {x y v : Int} (h0 : 0 ≤ x) (h : x ≤ y) (hy : y * y + v * v < 1152921504606846976) (hv : 0 ≤ v * v) : Moor.root (y * y + v * v) ≤ Moor.root (x * x + v * v) + (y - x) := by
  have hxx := sq_le_sq h0 h
  have hx0 := sq_le_sq (a := 0) (Int.le_refl 0) h0
  obtain ⟨r0, r1, r2⟩ := Moor.root_is (n := y * y + v * v) (by omega) hy
  have hyr : y ≤ Moor.root (y * y + v * v) := Moor.le_root (by omega) hy (by omega)
  have : Moor.root (y * y + v * v) - (y - x) ≤ Moor.root (x * x + v * v) := by
    apply Moor.le_root (by omega) (by omega)
    generalize Moor.root (y * y + v * v) = r at *
    obtain ⟨d, rfl⟩ : ∃ d, y = x + d := ⟨y - x, by omega⟩
    have h1 : (x + d) * d ≤ r * d := Int.mul_le_mul_of_nonneg_right hyr (by omega)
    have e1 : (r - (x + d - x)) * (r - (x + d - x)) = r * r - 2 * (r * d) + d * d := by grind
    have e2 : (x + d) * (x + d) = x * x + 2 * ((x + d) * d) - d * d := by grind
    omega
  omega
theorem Moor.offs_hi {l x y v : Int} (hl : 0 ≤ l) (h0 : 0 ≤ x) (h : x ≤ y) (hv : 1 ≤ v) (hy : y * y + v * v < 1152921504606846976) : min l ((l * x + Moor.root (x * x + v * v) - 1) / Moor.root (x * x + v * v)) ≤ min l ((l * y + Moor.root (y * y + v * v) - 1) / Moor.root (y * y + v * v)) := by
  have hvv := sq_le_sq (a := 1) (b := v) (by omega) hv
  have hxx := sq_le_sq h0 h
  have hx0 := sq_le_sq (a := 0) (Int.le_refl 0) h0
  have hs := Moor.root_step h0 h hy (by omega)
  have b1 := Moor.root_pos (n := x * x + v * v) (by omega) (by omega)
  have b2 := Moor.root_pos (n := y * y + v * v) (by omega) (by omega)
  generalize Moor.root (x * x + v * v) = R at *
  generalize Moor.root (y * y + v * v) = Q at *
  have c := Moor.le_cdiv (a := l * y) (b := Q) (by omega)
  have c0 : 0 ≤ (l * y + Q - 1) / Q := Int.ediv_nonneg (by have := Int.mul_nonneg hl (show 0 ≤ y by omega); omega) (by omega)
  generalize hq : (l * y + Q - 1) / Q = q at *
  by_cases hql : l ≤ q
  · omega
  · have : (l * x + R - 1) / R ≤ q := by
      apply Moor.cdiv_le (by omega)
      have s1 : q * Q ≤ q * (R + (y - x)) := Int.mul_le_mul_of_nonneg_left hs c0
      have s2 : q * (y - x) ≤ l * (y - x) := Int.mul_le_mul_of_nonneg_right (by omega) (by omega)
      have s3 : q * (R + (y - x)) = q * R + q * (y - x) := Int.mul_add _ _ _
      have s4 : l * (y - x) = l * y - l * x := Int.mul_sub _ _ _
      omega
    omega
def Moor.Part (p q : S57) : Prop := q.f0 ≤ p.f0 ∧ p.f0 ≤ p.f1 ∧ p.f1 ≤ q.f1
theorem Moor.sq_part {p q : S57} {v : Int} (hp : Moor.okB p v) (hq : Moor.okB q v) (h : Moor.Part p q) : Moor.sqL q v ≤ Moor.sqL p v ∧ Moor.sqH p v ≤ Moor.sqH q v := by
  have a1 := sq_le_sq hq.1 h.1
  have a2 := sq_le_sq (Int.le_trans hp.1 hp.2.1) h.2.2
  unfold Moor.sqL Moor.sqH
  omega
theorem Moor.offs_part {p q : S57} {l v : Int} (hl : 0 ≤ l) (hp : Moor.okB p v) (hq : Moor.okB q v) (h : Moor.Part p q) : Moor.Part (Moor.offs l p v) (Moor.offs l q v) := by
  have r1 := Moor.sq_range hp
  have r2 := Moor.sq_range hq
  have hh := h.2
  have b := hp
  have b' := hq
  unfold Moor.okB at b b'
  have l1 := Moor.offs_lo (l := l) (x := q.f0) (y := p.f0) (v := v) hl (by omega) h.1 (by omega) (by unfold Moor.sqL at r1; omega)
  have l2 := Moor.offs_hi (l := l) (x := p.f1) (y := q.f1) (v := v) hl (by omega) h.2.2 (by omega) (by unfold Moor.sqH at r2; omega)
  have l3 := Moor.offs_lo (l := l) (x := p.f0) (y := p.f1) (v := v) hl (by omega) (by omega) (by omega) (by unfold Moor.sqH at r1; omega)
  refine ⟨l1, ?_, l2⟩
  unfold Moor.offs
  simp only
  have u := Moor.rootUp_is (n := Moor.sqH p v) (by omega) (by omega)
  have w := Moor.root_pos (n := Moor.sqH p v) (by omega) (by omega)
  have w0 := Moor.rootUp_nonneg (n := Moor.sqL p v) (by omega) (by omega)
  have u0 := Moor.rootUp_is (n := Moor.sqL p v) (by omega) (by omega)
  have w1 := Moor.root_pos (n := Moor.sqL p v) (by omega) (by omega)
  have vv := Moor.sq_bound hp
  have x0 : p.f0 ≤ Moor.rootUp (Moor.sqL p v) := le_of_sq w0 (by unfold Moor.sqL at u0 ⊢; omega)
  have e1 : l * p.f0 / Moor.rootUp (Moor.sqL p v) ≤ l := Moor.ediv_le (by omega) (Int.mul_le_mul_of_nonneg_left x0 hl)
  have c := Moor.le_cdiv (a := l * p.f1) (b := Moor.root (Moor.sqH p v)) (by omega)
  have c0 : 0 ≤ (l * p.f1 + Moor.root (Moor.sqH p v) - 1) / Moor.root (Moor.sqH p v) := Int.ediv_nonneg (by have := Int.mul_nonneg hl (show 0 ≤ p.f1 by omega); omega) (by omega)
  have e2 : l * p.f1 / Moor.rootUp (Moor.sqH p v) ≤ (l * p.f1 + Moor.root (Moor.sqH p v) - 1) / Moor.root (Moor.sqH p v) := Moor.ediv_le (by omega) (Int.le_trans c (Int.mul_le_mul_of_nonneg_left u.1 c0))
  have e3 : l * p.f0 / Moor.rootUp (Moor.sqL p v) ≤ l * p.f1 / Moor.rootUp (Moor.sqH p v) := l3
  omega
theorem Moor.rise_part {p q : S57} {l v : Int} (hl : 0 ≤ l) (hp : Moor.okB p v) (hq : Moor.okB q v) (h : Moor.Part p q) : Moor.Part (Moor.rise l p v) (Moor.rise l q v) := by
  have s := Moor.sq_part hp hq h
  have r1 := Moor.sq_range hp
  have r2 := Moor.sq_range hq
  have b := hp
  unfold Moor.okB at b
  have m1 := Moor.rootUp_mono (n := Moor.sqH p v) (m := Moor.sqH q v) (by omega) s.2 (by omega)
  have m2 := Moor.root_mono (n := Moor.sqL q v) (m := Moor.sqL p v) (by omega) s.1 (by omega)
  have m3 := Moor.root_mono (n := Moor.sqL p v) (m := Moor.sqH p v) (by omega) (by omega) (by omega)
  have u1 := Moor.rootUp_is (n := Moor.sqH p v) (by omega) (by omega)
  have w1 := Moor.root_pos (n := Moor.sqH p v) (by omega) (by omega)
  have w2 := Moor.root_pos (n := Moor.sqL q v) (by omega) (by omega)
  have w3 := Moor.root_pos (n := Moor.sqL p v) (by omega) (by omega)
  have vv := Moor.sq_bound hp
  have hlv : 0 ≤ l * v := Int.mul_nonneg hl (by omega)
  unfold Moor.Part Moor.rise
  simp only
  refine ⟨?_, ?_, ?_⟩
  · have a := Moor.ediv_mul_le (a := l * v) (b := Moor.rootUp (Moor.sqH q v)) (by omega)
    have a0 : 0 ≤ l * v / Moor.rootUp (Moor.sqH q v) := Int.ediv_nonneg hlv (by omega)
    exact (Int.le_ediv_iff_mul_le (by omega)).2 (Int.le_trans (Int.mul_le_mul_of_nonneg_left m1 a0) a)
  · have x0 : v ≤ Moor.rootUp (Moor.sqH p v) := le_of_sq (by omega) (by unfold Moor.sqH at u1 ⊢; omega)
    have e1 : l * v / Moor.rootUp (Moor.sqH p v) ≤ l := Moor.ediv_le (by omega) (Int.mul_le_mul_of_nonneg_left x0 hl)
    have c := Moor.le_cdiv (a := l * v) (b := Moor.root (Moor.sqL p v)) (by omega)
    have c0 : 0 ≤ (l * v + Moor.root (Moor.sqL p v) - 1) / Moor.root (Moor.sqL p v) := Int.ediv_nonneg (by omega) (by omega)
    have e2 : l * v / Moor.rootUp (Moor.sqH p v) ≤ (l * v + Moor.root (Moor.sqL p v) - 1) / Moor.root (Moor.sqL p v) := Moor.ediv_le (by omega) (Int.le_trans c (Int.mul_le_mul_of_nonneg_left (by omega) c0))
    omega
  · have c := Moor.le_cdiv (a := l * v) (b := Moor.root (Moor.sqL q v)) (by omega)
    have c0 : 0 ≤ (l * v + Moor.root (Moor.sqL q v) - 1) / Moor.root (Moor.sqL q v) := Int.ediv_nonneg (by omega) (by omega)
    have e2 : (l * v + Moor.root (Moor.sqL p v) - 1) / Moor.root (Moor.sqL p v) ≤ (l * v + Moor.root (Moor.sqL q v) - 1) / Moor.root (Moor.sqL q v) := Moor.cdiv_le (by omega) (Int.le_trans c (Int.mul_le_mul_of_nonneg_left m2 c0))
    omega
end Go.Proofs.Ytebcmhajbjkojaa.P
namespace Go.Proofs.Ytebcmhajbjkojaa.P
open Go.RowKit Go.Proofs.YtebcmhajbjkojaaW.PrintWords Go.Proofs.YtebcmhajbjkojaaW.PrintLast Go.Proofs.YtebcmhajbjkojaaW.PrintMore
attribute [local go_sem] max2_int min2_int max_two min_two max_three min_three max_four min_four   -- for this text's walks alone
set_option linter.unusedVariables false
set_option linter.unusedSimpArgs false
theorem Moor.within (x lo hi : Int) : isobathref02_within.f x lo hi = some (decide (lo ≤ x) && decide (x ≤ hi)) := by
  unfold isobathref02_within.f
  by_cases h : lo ≤ x
  · rw [if_pos h, decide_eq_true h, Bool.true_and]
  · rw [if_neg h, decide_eq_false h, Bool.false_and]
theorem Moor.refCheck_l0 {d an fr : Int} {els : List S46} (hn : els.length ≤ 9223372036854775807) (n : Nat) : ∀ (k i : Nat), i + n = els.length → n < k →
    isobathref02_Check.l0 k (i : Int) d els an fr = some (if (els.drop i).all Moor.elB = true then 0 else 2) := by
  induction n with
  | zero =>
    intro k i hi hk
    obtain ⟨k, rfl⟩ : ∃ m, k = m + 1 := ⟨k - 1, by omega⟩
    simp only [isobathref02_Check.l0]
    rw [if_neg (by omega), List.drop_of_length_le (by omega)]
    rfl
  | succ n ih =>
    intro k i hi hk
    obtain ⟨k, rfl⟩ : ∃ m, k = m + 1 := ⟨k - 1, by omega⟩
    have hlt : i < els.length := by omega
    simp only [isobathref02_Check.l0]
    rw [if_pos (by omega), if_pos (by omega), wrap_succ hlt hn, ih k (i + 1) (by omega) (by omega), Moor.rdE hlt, drop_cons hlt, List.all_cons]
    simp only [Moor.within, Option.bind_some]
    generalize els[i] = e
    have hE : Moor.elB e = ((decide (0 ≤ e.f0) && decide (e.f0 ≤ 1048576)) && ((decide (-1048576 ≤ e.f1) && decide (e.f1 ≤ 1048576)) && ((decide (0 ≤ e.f2) && decide (e.f2 ≤ 65536)) && (decide (1 ≤ e.f3) && decide (e.f3 ≤ 16777216))))) := by
      unfold Moor.elB
      simp only [Bool.and_assoc]
    rw [hE]
    generalize (decide (0 ≤ e.f0) && decide (e.f0 ≤ 1048576)) = b0
    generalize (decide (-1048576 ≤ e.f1) && decide (e.f1 ≤ 1048576)) = b1
    generalize (decide (0 ≤ e.f2) && decide (e.f2 ≤ 65536)) = b2
    generalize (decide (1 ≤ e.f3) && decide (e.f3 ≤ 16777216)) = b3
    cases b0 <;> cases b1 <;> cases b2 <;> cases b3 <;> simp
theorem Moor.refCheck {d : Int} {els : List S46} {an fr : Int} (hn : els.length ≤ 9223372036854775807) {k : Nat} (hk : 44 ≤ k) : isobathref02_Check.f k d els an fr = some (Moor.chk d els an fr) := by
  obtain ⟨k, rfl⟩ : ∃ m, k = m + 1 := ⟨k - 1, by omega⟩
  unfold isobathref02_Check.f Moor.chk
  by_cases h0 : 40 < els.length
  · rw [if_pos (by omega), if_pos h0]
  rw [if_neg (by omega), if_neg h0]
  have hj : ∀ b, isobathref02_Check.j0 (k + 1) b d els an fr = some (if b = true then 2 else if els.all Moor.elB = true then 0 else 2) := by
    intro b
    simp only [isobathref02_Check.j0]
    cases b with
    | true => rfl
    | false =>
      have h := Moor.refCheck_l0 (d := d) (an := an) (fr := fr) hn els.length k 0 (by omega) (by omega)
      rw [List.drop_zero] at h
      simpa using h
  simp only [Moor.within, Option.bind_some]
  by_cases h1 : els.length = 0
  · rw [if_pos (by omega), hj, if_pos rfl, if_pos (by omega)]
  rw [if_neg (by omega)]
  by_cases h2 : 1 ≤ d ∧ d ≤ 1048576
  · rw [if_pos (by simpa using h2)]
    by_cases h3 : 0 ≤ an ∧ an ≤ 1048576
    · rw [if_pos (by simpa using h3)]
      by_cases h4 : 0 ≤ fr ∧ fr ≤ 1000
      · have e : (decide (0 ≤ fr) && decide (fr ≤ 1000)) = true := by simpa using h4
        rw [e, hj, if_neg (show ¬ ((!true) = true) by decide), if_neg (show ¬ (els.length = 0 ∨ d < 1 ∨ 1048576 < d ∨ an < 0 ∨ 1048576 < an ∨ fr < 0 ∨ 1000 < fr) by omega)]
      · have e : (decide (0 ≤ fr) && decide (fr ≤ 1000)) = false := by
          cases h : (decide (0 ≤ fr) && decide (fr ≤ 1000)) with
          | false => rfl
          | true => exact absurd (by simpa using h) h4
        rw [e, hj, if_pos (show (!false) = true by decide), if_pos (show els.length = 0 ∨ d < 1 ∨ 1048576 < d ∨ an < 0 ∨ 1048576 < an ∨ fr < 0 ∨ 1000 < fr by omega)]
    · rw [if_neg (by simpa using h3), hj, if_pos rfl, if_pos (show els.length = 0 ∨ d < 1 ∨ 1048576 < d ∨ an < 0 ∨ 1048576 < an ∨ fr < 0 ∨ 1000 < fr by omega)]
  · rw [if_neg (by simpa using h2), hj, if_pos rfl, if_pos (show els.length = 0 ∨ d < 1 ∨ 1048576 < d ∨ an < 0 ∨ 1048576 < an ∨ fr < 0 ∨ 1000 < fr by omega)]
theorem Moor.refCurrents_l0 {cs : List S57} (hn : cs.length ≤ 9223372036854775807) (n : Nat) : ∀ (k i : Nat), i + n = cs.length → n < k → isobathref02_currents.l0 k cs (i : Int) = some (if (cs.drop i).all Moor.curB = true then 0 else 2) := by
  induction n with
  | zero =>
    intro k i hi hk
    obtain ⟨k, rfl⟩ : ∃ m, k = m + 1 := ⟨k - 1, by omega⟩
    simp only [isobathref02_currents.l0]
    rw [if_neg (by omega), List.drop_of_length_le (by omega)]
    rfl
  | succ n ih =>
    intro k i hi hk
    obtain ⟨k, rfl⟩ : ∃ m, k = m + 1 := ⟨k - 1, by omega⟩
    have hlt : i < cs.length := by omega
    simp only [isobathref02_currents.l0]
    rw [if_pos (by omega), if_pos (by omega), wrap_succ hlt hn, ih k (i + 1) (by omega) (by omega), Moor.rdS hlt, drop_cons hlt, List.all_cons]
    generalize cs[i] = s
    unfold Moor.curB
    by_cases h0 : s.f0 > s.f1
    · rw [if_pos h0, if_neg (by simp; omega)]
    rw [if_neg h0]
    by_cases h1 : s.f0 < 0
    · rw [if_pos h1, if_neg (by simp; omega)]
    rw [if_neg h1]
    by_cases h2 : s.f1 > 3000
    · rw [if_pos h2, if_neg (by simp; omega)]
    rw [if_neg h2]
    have : (decide (s.f0 ≤ s.f1) && (decide (0 ≤ s.f0) && decide (s.f1 ≤ 3000))) = true := by simp; omega
    rw [this, Bool.true_and]
theorem Moor.err_chk {d an fr : Int} {els : List S46} {cs : List S57} {stand : Bool} (h : Moor.chk d els an fr ≠ 0) : Moor.err d els an fr cs stand = Moor.chk d els an fr := by
  unfold Moor.err
  rw [if_pos h]
theorem Moor.err_len {d an fr : Int} {els : List S46} {cs : List S57} {stand : Bool} (h : Moor.chk d els an fr = 0) (h2 : cs.length ≠ els.length) : Moor.err d els an fr cs stand = 17 := by
  unfold Moor.err
  rw [if_neg (fun e => e h), if_pos h2]
theorem Moor.err_both {d an fr : Int} {els : List S46} {cs : List S57} {stand : Bool} (h : Moor.chk d els an fr = 0) (h2 : cs.length = els.length) : Moor.err d els an fr cs stand = Moor.err2 els cs stand := by
  unfold Moor.err
  rw [if_neg (fun e => e h), if_neg (fun e => e h2)]
theorem Moor.refCurrents {d : Int} {els : List S46} {an fr : Int} {cs : List S57} (hn : els.length ≤ 9223372036854775807) {k : Nat} (hk : 44 ≤ k) : isobathref02_currents.f k d els an fr cs = some (Moor.err d els an fr cs false) := by
  unfold isobathref02_currents.f
  rw [Moor.refCheck hn hk, Option.bind_some]
  by_cases h : Moor.chk d els an fr = 0
  · rw [if_pos h]
    obtain ⟨h40, _⟩ := Moor.chk_ok h
    by_cases h2 : cs.length = els.length
    · rw [if_pos (show (cs.length : Int) = (els.length : Int) by omega), Moor.err_both h h2]
      have h3 := Moor.refCurrents_l0 (cs := cs) (by omega) cs.length k 0 (by omega) (by omega)
      rw [List.drop_zero] at h3
      unfold Moor.err2
      rw [show ((0 : Nat) : Int) = 0 from rfl] at h3
      rw [h3]
      by_cases h4 : cs.all Moor.curB = true
      · rw [if_pos h4, if_pos h4, if_neg (by simp)]
      · rw [if_neg h4, if_neg h4]
    · rw [if_neg (show ¬ (cs.length : Int) = (els.length : Int) by omega), Moor.err_len h h2]
  · rw [if_neg h, Moor.err_chk h]
theorem Moor.refDown {a b : Int} (h : 0 ≤ a) (h1 : a ≤ 9223372036854775807) (hb : 1 ≤ b) : isobathref02_Down.f a b = some (a / b) := by
  have h2 : a / b ≤ a := Int.ediv_le_self _ h
  have h3 : 0 ≤ a / b := Int.ediv_nonneg h (by omega)
  unfold isobathref02_Down.f
  rw [if_neg (by omega), tdiv_pos h, wrap_id (by omega) (by omega)]
theorem Moor.refUp {a b : Int} (h : 0 ≤ a) (h1 : a ≤ 1152921504606846976) (hb : 1 ≤ b) (h2 : b ≤ 1152921504606846976) : isobathref02_Up.f a b = some ((a + b - 1) / b) := by
  have h4 : (a + b - 1) / b ≤ a + b - 1 := Int.ediv_le_self _ (by omega)
  have h3 : 0 ≤ (a + b - 1) / b := Int.ediv_nonneg (by omega) (by omega)
  unfold isobathref02_Up.f
  rw [if_neg (by omega), wrap_id (n := a + b) (by omega) (by omega), wrap_id (n := a + b - 1) (by omega) (by omega), tdiv_pos (by omega), wrap_id (by omega) (by omega)]
theorem Moor.refForces_l0 {d an fr : Int} {els : List S46} {cs : List S57} (h40 : els.length ≤ 40) (hel : ∀ e ∈ els, Moor.elB e = true) (hl : cs.length = els.length) (hc : cs.all Moor.curB = true) (n : Nat) : ∀ (k i : Nat), i + n = els.length → n < k →
    isobathref02_forces.l0 k cs (Moor.on (els.take i) (cs.take i)) (i : Int) d els an fr = some (Moor.on els cs) := by
  induction n with
  | zero =>
    intro k i hi hk
    obtain ⟨k, rfl⟩ : ∃ m, k = m + 1 := ⟨k - 1, by omega⟩
    simp only [isobathref02_forces.l0]
    rw [if_neg (by omega), List.take_of_length_le (by omega), List.take_of_length_le (by omega)]
  | succ n ih =>
    intro k i hi hk
    obtain ⟨k, rfl⟩ : ∃ m, k = m + 1 := ⟨k - 1, by omega⟩
    have h1 : i < els.length := by omega
    have h2 : i < cs.length := by omega
    have ih' := ih k (i + 1) (by omega) (by omega)
    rw [Moor.on_take h1 h2] at ih'
    have he := Moor.elB_iff.1 (hel _ (List.getElem_mem h1))
    have hs := List.all_eq_true.1 hc _ (List.getElem_mem h2)
    unfold Moor.curB at hs
    simp at hs
    have hsm := Moor.on_small (els := els) (cs := cs) (i := i) h40
    simp only [isobathref02_forces.l0]
    rw [if_pos (by omega), if_pos (by omega), if_pos (by omega), Moor.rdE h1, Moor.rdS h2]
    have p0 := Moor.prod_bound (a := els[i].f2) (b := cs[i].f0) (by omega) (by omega) (by omega) (by omega)
    have p1 := Moor.prod_bound (a := els[i].f2) (b := cs[i].f1) (by omega) (by omega) (by omega) (by omega)
    rw [wrap_id (n := els[i].f2 * cs[i].f0) (by omega) (by omega), wrap_id (n := els[i].f2 * cs[i].f0 * cs[i].f0) (by omega) (by omega), Moor.refDown (by omega) (by omega) (by omega), Option.bind_some, wrap_id (n := els[i].f2 * cs[i].f1) (by omega) (by omega), wrap_id (n := els[i].f2 * cs[i].f1 * cs[i].f1) (by omega) (by omega), Moor.refUp (by omega) (by omega) (by omega) (by omega), Option.bind_some, if_pos (by omega), wrap_succ h1 (by omega)]
    have e : (⟨els[i].f2 * cs[i].f0 * cs[i].f0 / 1000000, (els[i].f2 * cs[i].f1 * cs[i].f1 + 1000000 - 1) / 1000000⟩ : S57) = Moor.force els[i] cs[i] := by
      unfold Moor.force
      rw [show els[i].f2 * cs[i].f1 * cs[i].f1 + 1000000 - 1 = els[i].f2 * cs[i].f1 * cs[i].f1 + 999999 by omega]
    rw [e]
    exact ih'
theorem Moor.refForces {d an fr : Int} {els : List S46} {cs : List S57} (h : Moor.Ok d els an fr cs) {k : Nat} (hk : 44 ≤ k) : isobathref02_forces.f k d els an fr cs = some (Moor.on els cs) := by
  have := Moor.refForces_l0 (d := d) (an := an) (fr := fr) h.n40 h.elok h.len h.cur els.length k 0 (by omega) (by have := h.n40; omega)
  exact this
theorem Moor.refLifts_l0 {d an fr : Int} {els : List S46} (h40 : els.length ≤ 40) (hel : ∀ e ∈ els, Moor.elB e = true) (n : Nat) : ∀ (k i : Nat), i + n = els.length → n < k →
    isobathref02_lifts.l0 k (Moor.lifts (els.take i)) (Moor.sumL (els.take i)) (i : Int) d els an fr = some (Moor.lifts els) := by
  induction n with
  | zero =>
    intro k i hi hk
    obtain ⟨k, rfl⟩ : ∃ m, k = m + 1 := ⟨k - 1, by omega⟩
    simp only [isobathref02_lifts.l0]
    rw [if_neg (by omega), List.take_of_length_le (by omega)]
  | succ n ih =>
    intro k i hi hk
    obtain ⟨k, rfl⟩ : ∃ m, k = m + 1 := ⟨k - 1, by omega⟩
    have h1 : i < els.length := by omega
    have ih' := ih k (i + 1) (by omega) (by omega)
    rw [Moor.lifts_take h1, Moor.sumL_take h1] at ih'
    have he := Moor.elB_iff.1 (hel _ (List.getElem_mem h1))
    have hb := Moor.sumL_take_bound hel h40 i
    have hsm := Moor.lifts_small (els := els) (i := i) h40
    simp only [isobathref02_lifts.l0]
    rw [if_pos (by omega), if_pos (by omega), if_pos (by omega), Moor.rdE h1, wrap_id (n := Moor.sumL (els.take i) + els[i].f1) (by omega) (by omega), wrap_succ h1 (by omega)]
    exact ih'
theorem Moor.refLifts {d an fr : Int} {els : List S46} (h40 : els.length ≤ 40) (hel : ∀ e ∈ els, Moor.elB e = true) {k : Nat} (hk : 44 ≤ k) : isobathref02_lifts.f k d els an fr = some (Moor.lifts els) :=
  Moor.refLifts_l0 (d := d) (an := an) (fr := fr) h40 hel els.length k 0 (by omega) (by omega)
theorem Moor.refStands_l0 {xs : List Int} (hn : xs.length ≤ 40) (n : Nat) : ∀ (k i : Nat), i + n = xs.length → n < k → isobathref02_Stands.l0 k xs (i : Int) = some ((xs.drop i).all (fun x => decide (1 ≤ x))) := by
  induction n with
  | zero =>
    intro k i hi hk
    obtain ⟨k, rfl⟩ : ∃ m, k = m + 1 := ⟨k - 1, by omega⟩
    simp only [isobathref02_Stands.l0]
    rw [if_neg (by omega), List.drop_of_length_le (by omega)]
    rfl
  | succ n ih =>
    intro k i hi hk
    obtain ⟨k, rfl⟩ : ∃ m, k = m + 1 := ⟨k - 1, by omega⟩
    have h1 : i < xs.length := by omega
    simp only [isobathref02_Stands.l0]
    rw [if_pos (by omega), if_pos (by omega), rd_nat h1, drop_cons h1, List.all_cons]
    by_cases c : xs[i] < 1
    · rw [if_pos c, decide_eq_false (by omega), Bool.false_and]
    · rw [if_neg c, decide_eq_true (by omega), Bool.true_and, wrap_succ h1 (by omega)]
      exact ih k (i + 1) (by omega) (by omega)
theorem Moor.refStands {d an fr : Int} {els : List S46} (h40 : els.length ≤ 40) (hel : ∀ e ∈ els, Moor.elB e = true) {k : Nat} (hk : 44 ≤ k) : isobathref02_Stands.f k d els an fr = some (Moor.stands els) := by
  unfold isobathref02_Stands.f
  rw [Moor.refLifts h40 hel hk, Option.bind_some]
  have h := Moor.refStands_l0 (xs := Moor.lifts els) (by rw [Moor.lifts_length]; exact h40) (Moor.lifts els).length k 0 (by omega) (by rw [Moor.lifts_length]; omega)
  rw [List.drop_zero] at h
  exact h
end Go.Proofs.Ytebcmhajbjkojaa.P
namespace Go.Proofs.Ytebcmhajbjkojaa.P
open Go.RowKit Go.Proofs.YtebcmhajbjkojaaW.PrintWords Go.Proofs.YtebcmhajbjkojaaW.PrintLast Go.Proofs.YtebcmhajbjkojaaW.PrintMore
attribute [local go_sem] max2_int min2_int max_two min_two max_three min_three max_four min_four   -- for this text's walks alone
set_option linter.unusedVariables false
set_option linter.unusedSimpArgs false
mutual
def isobathref02_pulls.l0 : Nat → Bool → List (S57) → List (S57) → Int → Int → Int → Option ((List (S57)))
  | 0, _, _, _, _, _, _ => none
  | k + 1, x2, x7, x8, x9, x10, x11 => if x11 < (x7.length : Int) then (if 0 ≤ x11 then (if x2 = true then (isobathref02_pulls.l1 k x2 x7 x8 (wrap64 (x9 + ((rd_T57 x7 x11).f0))) (wrap64 (x10 + ((rd_T57 x7 x11).f1))) x11 0 0 (wrap64 (x10 + ((rd_T57 x7 x11).f1)))) else (if x8.length < 8796093022208 then (isobathref02_pulls.l0 k x2 x7 (x8 ++ [(⟨wrap64 (x9 + ((rd_T57 x7 x11).f0)), wrap64 (x10 + ((rd_T57 x7 x11).f1))⟩ : S57)]) (wrap64 (x9 + ((rd_T57 x7 x11).f0))) (wrap64 (x10 + ((rd_T57 x7 x11).f1))) (wrap64 (x11 + 1))) else (none))) else (none)) else (some x8)
def isobathref02_pulls.l1 : Nat → Bool → List (S57) → List (S57) → Int → Int → Int → Int → Int → Int → Option ((List (S57)))
  | 0, _, _, _, _, _, _, _, _, _ => none
  | k + 1, x2, x7, x8, x9, x10, x11, x13, x108000, x108001 => if x13 ≤ x11 then (if 0 ≤ x13 then (if x13 < (x7.length : Int) then (isobathref02_pulls.l1 k x2 x7 x8 x9 x10 x11 (wrap64 (x13 + 1)) (mx x108000 (wrap64 (((rd_T57 x7 x13).f0) - (wrap64 (x10 - ((rd_T57 x7 x13).f1)))))) x108001) else (none)) else (none)) else (if x8.length < 8796093022208 then (isobathref02_pulls.l0 k x2 x7 (x8 ++ [(⟨x108000, x108001⟩ : S57)]) x9 x10 (wrap64 (x11 + 1))) else (none))
end
end Go.Proofs.Ytebcmhajbjkojaa.P
namespace Go.Proofs.Ytebcmhajbjkojaa.P
open Go.RowKit Go.Proofs.YtebcmhajbjkojaaW.PrintWords Go.Proofs.YtebcmhajbjkojaaW.PrintLast Go.Proofs.YtebcmhajbjkojaaW.PrintMore
attribute [local go_sem] max2_int min2_int max_two min_two max_three min_three max_four min_four   -- for this text's walks alone
set_option linter.unusedVariables false
set_option linter.unusedSimpArgs false
theorem Moor.list_at {val : Nat → S57} {n : Nat} {i : Nat} (hi : i < n) : rd_T57 (Moor.list val n) (i : Int) = val i := by
  have h : i < (Moor.list val n).length := by rw [Moor.list_length]; exact hi
  rw [Moor.rdS h]
  simp [Moor.list]
theorem Moor.refForcesF {d an fr : Int} {els : List S46} {cs : List S57} (hn : els.length ≤ 9223372036854775807) {k : Nat} (hk : 2200 ≤ k) : isobathref02_Forces.f k d els an fr cs = mooring_Forces.f d els an fr cs := by
  unfold isobathref02_Forces.f mooring_Forces.f
  rw [Moor.refCurrents hn (by omega), Option.bind_some]
  by_cases he : Moor.err d els an fr cs false = 0
  · rw [if_pos he, if_pos he, Moor.refForces (Moor.err_ok he).1 (by omega), Option.bind_some]
  · rw [if_neg he, if_neg he]
end Go.Proofs.Ytebcmhajbjkojaa.P
namespace Go.Proofs.Ytebcmhajbjkojaa.P
open Go.RowKit Go.Proofs.YtebcmhajbjkojaaW.PrintWords Go.Proofs.YtebcmhajbjkojaaW.PrintLast Go.Proofs.YtebcmhajbjkojaaW.PrintMore
attribute [local go_sem] max2_int min2_int max_two min_two max_three min_three max_four min_four   -- for this text's walks alone
set_option linter.unusedVariables false
set_option linter.unusedSimpArgs false
theorem Moor.Ok.err0 {d an fr : Int} {els : List S46} {cs : List S57} (h : Moor.Ok d els an fr cs) (hs : Moor.stands els = true) (stand : Bool) : Moor.err d els an fr cs stand = 0 := by
  rw [Moor.err_both h.chk h.len]
  unfold Moor.err2
  rw [if_pos h.cur, hs, if_neg (by simp)]
theorem Law2.valid (d : Int) {els : List S46} (an fr : Int) (cs : List S57) (hn : els.length ≤ 9223372036854775807) {k : Nat} (hk : 2200 ≤ k) : ∃ b, isobathlaw02_valid.f k d els an fr cs = some b ∧ (b = true → els.length ≤ 60 ∧ cs.length ≤ 60 ∧ Moor.Ok d els an fr cs ∧ Moor.stands els = true) := by
  unfold isobathlaw02_valid.f
  rw [Moor.refForcesF hn hk, Law2.long]
  unfold mooring_Forces.f
  by_cases he : Moor.err d els an fr cs false = 0
  · rw [if_pos he]
    obtain ⟨ho, _⟩ := Moor.err_ok he
    simp only [Option.bind_some]
    by_cases h : 60 < els.length ∨ 60 < cs.length
    · rw [decide_eq_true h, if_pos rfl]
      exact ⟨_, rfl, by simp⟩
    · rw [decide_eq_false h, if_neg (by decide), if_pos trivial, Moor.refStands ho.n40 ho.elok (by omega), Option.bind_some]
      exact ⟨_, rfl, fun hb => ⟨by omega, by omega, ho, hb⟩⟩
  · rw [if_neg he]
    simp only [Option.bind_some]
    by_cases h : 60 < els.length ∨ 60 < cs.length
    · rw [decide_eq_true h, if_pos rfl]
      exact ⟨_, rfl, by simp⟩
    · rw [decide_eq_false h, if_neg (by decide), if_neg he]
      exact ⟨_, rfl, by simp⟩
theorem Law2.inside_l0 {xs ys : List S57} (hn : xs.length ≤ 60) (hl : xs.length = ys.length) (h : ∀ i : Nat, i < xs.length → Moor.Part (rd_T57 xs (i : Int)) (rd_T57 ys (i : Int))) (n : Nat) : ∀ (k i : Nat), i + n = xs.length → n < k → isobathlaw02_inside.l0 k xs ys (i : Int) = some true := by
  induction n with
  | zero =>
    intro k i hi hk
    obtain ⟨k, rfl⟩ : ∃ m, k = m + 1 := ⟨k - 1, by omega⟩
    simp only [isobathlaw02_inside.l0]
    rw [if_neg (by omega)]
  | succ n ih =>
    intro k i hi hk
    obtain ⟨k, rfl⟩ : ∃ m, k = m + 1 := ⟨k - 1, by omega⟩
    have hlt : i < xs.length := by omega
    obtain ⟨h1, h2, h3⟩ := h i hlt
    simp only [isobathlaw02_inside.l0]
    rw [if_pos (by omega), if_pos (by omega), if_pos (by omega), if_neg (by omega), if_neg (by omega), if_neg (by omega), wrap_succ hlt (by omega)]
    exact ih k (i + 1) (by omega) (by omega)
theorem Law2.inside {xs ys : List S57} (hn : xs.length ≤ 60) (hl : xs.length = ys.length) (h : ∀ i : Nat, i < xs.length → Moor.Part (rd_T57 xs (i : Int)) (rd_T57 ys (i : Int))) {k : Nat} (hk : 61 ≤ k) : isobathlaw02_inside.f k xs ys = some true := by
  unfold isobathlaw02_inside.f
  rw [if_pos (by omega)]
  exact Law2.inside_l0 hn hl h xs.length k 0 (by omega) (by omega)
theorem Moor.pullsFrom_free {on : List S57} (h : ∀ x ∈ on, Moor.onB x) : ∀ (lo hi m : Int) (i : Nat) (p q : S57), 0 ≤ lo → lo ≤ hi → m ≤ lo + hi → (Moor.pullsFrom false lo hi m on)[i]? = some p → (Moor.pullsFrom true lo hi m on)[i]? = some q → Moor.Part p q ∧ q.f1 = p.f1 ∧ (i = 0 → hi = 0 → m = 0 → q.f0 = p.f0) := by
  induction on with
  | nil => intro lo hi m i p q _ _ _ hp; simp [Moor.pullsFrom] at hp
  | cons x xs ih =>
    intro lo hi m i p q h0 h1 h2 hp hq
    have hx := h x List.mem_cons_self
    unfold Moor.onB at hx
    cases i with
    | zero =>
      simp [Moor.pullsFrom] at hp hq
      subst hp hq
      unfold Moor.Part
      simp only
      refine ⟨⟨by omega, by omega, by omega⟩, trivial, fun _ h3 h4 => by omega⟩
    | succ i =>
      simp only [Moor.pullsFrom, List.getElem?_cons_succ] at hp hq
      obtain ⟨a1, a2, _⟩ := ih (fun y hy => h y (List.mem_cons_of_mem _ hy)) _ _ _ i p q (by omega) (by omega) (by omega) hp hq
      exact ⟨a1, a2, fun h => by cases h⟩
theorem Moor.shi_list_congr {val val' : Nat → S57} (n : Nat) (h : ∀ i, i < n → (val i).f1 = (val' i).f1) : Moor.shi (Moor.list val n) = Moor.shi (Moor.list val' n) := by
  induction n with
  | zero => rfl
  | succ n ih => rw [Moor.list_succ, Moor.list_succ, Moor.shi_app, Moor.shi_app, ih (fun i hi => h i (by omega)), Moor.shi, Moor.shi, h n (by omega), Moor.shi, Moor.shi]
theorem Law2.freer_l0 {xs ys : List S57} (hn : xs.length ≤ 60) (hl : xs.length = ys.length) (h0 : 0 < xs.length) (hz : rd_T57 xs 0 = rd_T57 ys 0) (h : ∀ i : Nat, i < xs.length → (rd_T57 xs (i : Int)).f1 = (rd_T57 ys (i : Int)).f1) (n : Nat) : ∀ (k i : Nat), i + n = xs.length → n + 100 < k → isobathlaw02_MooringFreer.l0 k xs ys (i : Int) = some true := by
  induction n with
  | zero =>
    intro k i hi hk
    obtain ⟨k, rfl⟩ : ∃ m, k = m + 1 := ⟨k - 1, by omega⟩
    simp only [isobathlaw02_MooringFreer.l0]
    rw [if_neg (by omega), if_pos (by omega), if_pos (by omega), hz]
    simp only [beq_self_eq_true, Bool.and_self, if_true]
    rw [Law2.fine (by omega), Option.bind_some]
  | succ n ih =>
    intro k i hi hk
    obtain ⟨k, rfl⟩ : ∃ m, k = m + 1 := ⟨k - 1, by omega⟩
    have hlt : i < xs.length := by omega
    simp only [isobathlaw02_MooringFreer.l0]
    rw [if_pos (by omega), if_pos (by omega), if_pos (by omega), if_pos (h i hlt), wrap_succ hlt (by omega)]
    exact ih k (i + 1) (by omega) (by omega)
theorem S57.ext' {a b : S57} (h0 : a.f0 = b.f0) (h1 : a.f1 = b.f1) : a = b := by
  cases a; cases b; simp only at h0 h1; rw [h0, h1]
theorem Law2.freer (d : Int) {els : List S46} (an fr : Int) (cs : List S57) (hn : els.length ≤ 9223372036854775807) : isobathlaw02_MooringFreer.f 3000 d els an fr cs = some true := by
  obtain ⟨b, hb, hv⟩ := Law2.valid d an fr cs hn (k := 3000) (by omega)
  unfold isobathlaw02_MooringFreer.f
  rw [hb, Option.bind_some]
  cases b with
  | false => rw [if_neg (by decide), Law2.fine (by omega), Option.bind_some]
  | true =>
    rw [if_pos rfl]
    obtain ⟨h60, -, ho, hs⟩ := hv rfl
    have e0 := ho.err0 hs false
    have e1 := ho.err0 hs true
    have hl0 := ho.pulllen false
    have hl1 := ho.pulllen true
    have hon := Moor.on_onB ho.elok ho.cur
    have hpos := (Moor.chk_ok ho.chk).2.1
    have rel : ∀ i : Nat, i < els.length → Moor.Part (rd_T57 (Moor.pulls false (Moor.on els cs)) (i : Int)) (rd_T57 (Moor.pulls true (Moor.on els cs)) (i : Int)) ∧ (rd_T57 (Moor.pulls true (Moor.on els cs)) (i : Int)).f1 = (rd_T57 (Moor.pulls false (Moor.on els cs)) (i : Int)).f1 ∧ (i = 0 → (rd_T57 (Moor.pulls true (Moor.on els cs)) (i : Int)).f0 = (rd_T57 (Moor.pulls false (Moor.on els cs)) (i : Int)).f0) := by
      intro i hi
      obtain ⟨-, p0, -⟩ := ho.at hs false hi
      obtain ⟨-, p1, -⟩ := ho.at hs true hi
      obtain ⟨a, b, c⟩ := Moor.pullsFrom_free hon 0 0 0 i _ _ (by omega) (by omega) (by omega) p0 p1
      exact ⟨a, b, fun h => c h rfl rfl⟩
    unfold mooring_Pulls.f mooring_Shape.f mooring_Circle.f
    simp only [e0, e1, if_true, Option.bind_some]
    rw [if_pos (by decide +kernel)]
    rw [Law2.inside (by omega) (by omega) (fun i hi => (rel i (by omega)).1) (by omega), Option.bind_some, if_pos rfl]
    rw [Law2.inside (by rw [Moor.list_length]; omega) (by rw [Moor.list_length, Moor.list_length]) (fun i hi => by
      rw [Moor.list_length] at hi
      rw [Moor.list_at hi, Moor.list_at hi]
      obtain ⟨-, -, -, p4, p5, -⟩ := ho.at hs false hi
      obtain ⟨-, -, -, q4, -, -⟩ := ho.at hs true hi
      exact Moor.offs_part p5 p4 q4 (rel i hi).1) (by omega), Option.bind_some, if_pos rfl]
    rw [Law2.inside (by rw [Moor.list_length]; omega) (by rw [Moor.list_length, Moor.list_length]) (fun i hi => by
      rw [Moor.list_length] at hi
      rw [Moor.list_at hi, Moor.list_at hi]
      obtain ⟨-, -, -, p4, p5, -⟩ := ho.at hs false hi
      obtain ⟨-, -, -, q4, -, -⟩ := ho.at hs true hi
      exact Moor.rise_part p5 p4 q4 (rel i hi).1) (by omega), Option.bind_some, if_pos rfl]
    rw [if_pos (Moor.shi_list_congr _ (fun i hi => by
      unfold Moor.offsAt Moor.offs Moor.sqH
      rw [(rel i hi).2.1]))]
    simp only [isobathlaw02_MooringFreer.j0]
    rw [if_neg (by rw [beq_iff_eq]; omega)]
    obtain ⟨-, r1, r2⟩ := rel 0 hpos
    exact Law2.freer_l0 (by omega) (by omega) (by omega) (S57.ext' (r2 rfl).symm r1.symm) (fun i hi => (rel i (by omega)).2.1.symm) (Moor.pulls false (Moor.on els cs)).length 2999 0 (by omega) (by omega)
theorem mooringFreer_holds : Rows.MooringFreerSaid := mooringFreer.proved fun m cs hm _ => ⟨3000, Law2.freer m.f0 m.f2 m.f3 cs hm.2.1.1⟩
#print axioms mooringFreer_holds
end Go.Proofs.Ytebcmhajbjkojaa.P
namespace Go.Proofs.Ytebcmhajbjkojaa.P
open Go.RowKit Go.Proofs.YtebcmhajbjkojaaW.PrintWords Go.Proofs.YtebcmhajbjkojaaW.PrintLast Go.Proofs.YtebcmhajbjkojaaW.PrintMore
attribute [local go_sem] max2_int min2_int max_two min_two max_three min_three max_four min_four   -- for this text's walks alone
set_option linter.unusedVariables false
set_option linter.unusedSimpArgs false
theorem Moor.force_still (e : S46) : Moor.force e z57 = z57 := by
  unfold Moor.force z57
  simp
theorem Moor.on_still (els : List S46) : Moor.on els (List.replicate els.length z57) = List.replicate els.length z57 := by
  induction els with
  | nil => rfl
  | cons e es ih =>
    have : Moor.on (e :: es) (z57 :: List.replicate es.length z57) = Moor.force e z57 :: Moor.on es (List.replicate es.length z57) := rfl
    rw [List.length_cons, List.replicate_succ, this, ih, Moor.force_still]
theorem Moor.pullsFrom_still (free : Bool) (n : Nat) : Moor.pullsFrom free 0 0 0 (List.replicate n z57) = List.replicate n z57 := by
  induction n with
  | zero => rfl
  | succ n ih =>
    rw [List.replicate_succ, Moor.pullsFrom]
    have e0 : (0 : Int) + z57.f0 = 0 := rfl
    have e1 : (0 : Int) + z57.f1 = 0 := rfl
    have e2 : max (0 : Int) (z57.f0 + z57.f1) = 0 := rfl
    rw [e0, e1, e2, ih]
    cases free <;> rfl
theorem Moor.pulls_still (free : Bool) (els : List S46) : Moor.pulls free (Moor.on els (List.replicate els.length z57)) = List.replicate els.length z57 := by
  rw [Moor.on_still]
  exact Moor.pullsFrom_still free els.length
theorem Moor.rd_still {n i : Nat} (h : i < n) : rd_T57 (List.replicate n z57) (i : Int) = z57 := by
  rw [Moor.rdS (by rw [List.length_replicate]; exact h), List.getElem_replicate]
theorem Moor.root_sq {v : Int} (h0 : 0 ≤ v) (h1 : v ≤ 41943040) : Moor.root (v * v) = v := by
  have a := sq_le_sq h0 h1
  have b := sq_le_sq (a := 0) (Int.le_refl 0) h0
  have c := Moor.root_is (n := v * v) (by omega) (by omega)
  exact c.unique ⟨h0, Int.le_refl _, sq_lt_sq h0 (by omega)⟩
theorem Moor.rootUp_sq {v : Int} (h0 : 0 ≤ v) (h1 : v ≤ 41943040) : Moor.rootUp (v * v) = v := by
  unfold Moor.rootUp
  rw [Moor.root_sq h0 h1, if_neg (by omega)]
theorem Moor.sq_still (v : Int) : Moor.sqL z57 v = v * v ∧ Moor.sqH z57 v = v * v := by
  unfold Moor.sqL Moor.sqH z57
  simp
theorem Moor.tens_still {v : Int} (h0 : 1 ≤ v) (h1 : v ≤ 41943040) : Moor.tens z57 v = ⟨v, v⟩ := by
  unfold Moor.tens
  rw [(Moor.sq_still v).1, (Moor.sq_still v).2, Moor.root_sq (by omega) h1, Moor.rootUp_sq (by omega) h1]
theorem Moor.offs_still {l v : Int} (hl : 0 ≤ l) (h0 : 1 ≤ v) (h1 : v ≤ 41943040) : Moor.offs l z57 v = z57 := by
  unfold Moor.offs
  rw [(Moor.sq_still v).1, (Moor.sq_still v).2, Moor.root_sq (by omega) h1, Moor.rootUp_sq (by omega) h1]
  have e : l * z57.f0 = 0 := by unfold z57; simp
  have e' : l * z57.f1 = 0 := by unfold z57; simp
  rw [e, e', Int.zero_ediv, Int.ediv_eq_zero_of_lt (by omega) (by omega)]
  unfold z57
  rw [Int.min_eq_right hl]
theorem Moor.rise_still {l v : Int} (h0 : 1 ≤ v) (h1 : v ≤ 41943040) : Moor.rise l z57 v = ⟨l, l⟩ := by
  unfold Moor.rise
  rw [(Moor.sq_still v).1, (Moor.sq_still v).2, Moor.root_sq (by omega) h1, Moor.rootUp_sq (by omega) h1, Int.mul_ediv_cancel _ (by omega)]
  have : (l * v + v - 1) / v = l := by
    rw [show l * v + v - 1 = (v - 1) + l * v by omega, Int.add_mul_ediv_right _ _ (by omega), Int.ediv_eq_zero_of_lt (by omega) (by omega)]
    omega
  rw [this, Int.min_self]
theorem Moor.list_still {els : List S46} {val : Nat → S57} (h : ∀ i : Nat, i < els.length → val i = ⟨(rd_T46 els (i : Int)).f0, (rd_T46 els (i : Int)).f0⟩) (n : Nat) (hn : n ≤ els.length) : Moor.slo (Moor.list val n) = Moor.long (els.take n) ∧ Moor.shi (Moor.list val n) = Moor.long (els.take n) := by
  induction n with
  | zero => exact ⟨rfl, rfl⟩
  | succ n ih =>
    have hlt : n < els.length := by omega
    obtain ⟨a, b⟩ := ih (by omega)
    rw [Moor.list_succ, Moor.slo_app, Moor.shi_app, a, b, Moor.long_take (List.getElem?_eq_getElem hlt), h n hlt, Moor.rdE hlt]
    simp [Moor.slo, Moor.shi]
theorem Moor.list_le {els : List S46} {val : Nat → S57} (h : ∀ i : Nat, i < els.length → (val i).f1 ≤ (rd_T46 els (i : Int)).f0) (n : Nat) (hn : n ≤ els.length) : Moor.shi (Moor.list val n) ≤ Moor.long (els.take n) := by
  induction n with
  | zero => exact Int.le_refl _
  | succ n ih =>
    have hlt : n < els.length := by omega
    have a := ih (by omega)
    have b := h n hlt
    rw [Moor.rdE hlt] at b
    rw [Moor.list_succ, Moor.shi_app, Moor.long_take (List.getElem?_eq_getElem hlt), Moor.shi, Moor.shi]
    omega
theorem Moor.Ok.still {d an fr : Int} {els : List S46} {cs : List S57} (h : Moor.Ok d els an fr cs) : Moor.Ok d els an fr (List.replicate els.length z57) :=
  ⟨h.n40, h.n0, h.elok, List.length_replicate, by
    rw [List.all_eq_true]
    intro x hx
    rw [List.eq_of_mem_replicate hx]
    decide, h.chk⟩
theorem Law2.balance_l0 {d an fr : Int} {els : List S46} {cs : List S57} (ho : Moor.Ok d els an fr cs) (hs : Moor.stands els = true) (free : Bool) {t0 o0 r0 t1 o1 r1 : List S57} (l0 : t0.length = els.length) (l1 : o0.length = els.length) (l2 : r0.length = els.length) (l3 : t1.length = els.length) (l4 : o1.length = els.length) (l5 : r1.length = els.length)
    (h : ∀ i : Nat, i < els.length → rd_T57 t0 (i : Int) = ⟨rd (Moor.lifts els) (i : Int), rd (Moor.lifts els) (i : Int)⟩ ∧ rd_T57 o0 (i : Int) = z57 ∧ rd_T57 r0 (i : Int) = ⟨(rd_T46 els (i : Int)).f0, (rd_T46 els (i : Int)).f0⟩ ∧ rd (Moor.lifts els) (i : Int) ≤ (rd_T57 t1 (i : Int)).f0 ∧ 0 ≤ (rd_T57 o1 (i : Int)).f0 ∧ (rd_T57 o1 (i : Int)).f1 ≤ (rd_T46 els (i : Int)).f0 ∧ 0 ≤ (rd_T57 r1 (i : Int)).f0 ∧ (rd_T57 r1 (i : Int)).f1 ≤ (rd_T46 els (i : Int)).f0)
    (n : Nat) : ∀ (k i : Nat), i + n = els.length → 2 * n + 100 < k → isobathlaw02_MooringBalance.l0 k cs free (List.replicate els.length z57) (Moor.lifts els) t0 o0 r0 t1 o1 r1 (els.length : Int) (i : Int) d els an fr = some true := by
  have h40 := ho.n40
  have hll := Moor.lifts_length els
  induction n with
  | zero =>
    intro k i hi hk
    obtain ⟨k, rfl⟩ : ∃ m, k = m + 1 := ⟨k - 1, by omega⟩
    simp only [isobathlaw02_MooringBalance.l0]
    rw [if_neg (by omega)]
    have e1 := ho.err0 hs true
    have e2 := ho.still.err0 hs true
    unfold mooring_Top.f mooring_Knock.f
    rw [if_pos e1, if_pos e1, if_pos e2, if_pos e2, Moor.pulls_still]
    have q0 : ∀ i : Nat, i < els.length → Moor.riseAt els (List.replicate els.length z57) (Moor.lifts els) i = ⟨(rd_T46 els (i : Int)).f0, (rd_T46 els (i : Int)).f0⟩ := fun i hi => by
      unfold Moor.riseAt
      rw [Moor.rd_still hi]
      obtain ⟨-, -, -, b4, -, -⟩ := ho.at hs free hi
      exact Moor.rise_still b4.2.2.2.1 b4.2.2.2.2
    have q1 : ∀ i : Nat, i < els.length → (Moor.riseAt els (Moor.pulls free (Moor.on els cs)) (Moor.lifts els) i).f1 ≤ (rd_T46 els (i : Int)).f0 := fun i hi => by
      unfold Moor.riseAt Moor.rise
      simp only
      omega
    have s0 := Moor.list_still q0 els.length (Nat.le_refl _)
    have s1 := Moor.list_le q1 els.length (Nat.le_refl _)
    rw [List.take_length] at s0 s1
    have m := Moor.mid_bound (ho.rises_mid hs free)
    rw [Moor.list_length] at m
    have lb := Moor.long_bound ho.elok
    obtain ⟨-, -, d1, d2, -⟩ := Moor.chk_ok ho.chk
    rw [s0.1, s0.2]
    generalize Moor.shi (Moor.list (Moor.riseAt els (Moor.pulls free (Moor.on els cs)) (Moor.lifts els)) els.length) = sh at *
    generalize Moor.slo (Moor.list (Moor.riseAt els (Moor.pulls free (Moor.on els cs)) (Moor.lifts els)) els.length) = sl at *
    generalize Moor.long els = L at *
    simp only [Option.bind_some]
    rw [wrap_id (n := d - L) (by omega) (by omega), wrap_id (n := L - L) (by omega) (by omega), wrap_id (n := d - sh) (by omega) (by omega), wrap_id (n := d - sl) (by omega) (by omega), wrap_id (n := L - sh) (by omega) (by omega), wrap_id (n := L - sl) (by omega) (by omega)]
    rw [if_pos (by decide +kernel), Int.sub_self, if_pos (show ((0 : Int) == 0 && (0 : Int) == 0) = true from rfl), if_pos (by omega), if_pos (by rw [wrap_id (by omega) (by omega)]; omega), if_pos (by rw [wrap_id (by omega) (by omega)]; omega), Law2.fine (by omega), Option.bind_some]
  | succ n ih =>
    intro k i hi hk
    obtain ⟨k, rfl⟩ : ∃ m, k = m + 2 := ⟨k - 2, by omega⟩
    have hlt : i < els.length := by omega
    obtain ⟨a0, a1, a2, a3, a4, a5, a6, a7⟩ := h i hlt
    have z0 : z57.f0 = 0 := rfl
    have z1 : z57.f1 = 0 := rfl
    simp only [isobathlaw02_MooringBalance.l0]
    rw [if_pos (by omega), if_pos (by omega), if_pos (by omega), if_pos (by omega), if_pos (by omega), a0, if_neg (by simp), if_pos (by omega), a1, if_neg (by rw [z0, z1]; simp), if_pos (by omega), a2]
    simp only [isobathlaw02_MooringBalance.j2, beq_self_eq_true, Bool.not_true, Bool.or_self, Bool.false_eq_true, if_false]
    rw [if_pos (by omega), if_pos (by omega), if_pos (by omega), if_neg (by omega), if_pos (by omega), if_neg (by omega), if_neg (by omega), if_pos (by omega), if_neg (by omega), if_neg (by omega), wrap_succ hlt (by omega)]
    exact ih k (i + 1) (by omega) (by omega)
theorem Law2.balance (d : Int) {els : List S46} (an fr : Int) (cs : List S57) (free : Bool) (hn : els.length ≤ 9223372036854775807) : isobathlaw02_MooringBalance.f 3000 d els an fr cs free = some true := by
  obtain ⟨b, hb, hv⟩ := Law2.valid d an fr cs hn (k := 3000) (by omega)
  unfold isobathlaw02_MooringBalance.f
  rw [hb, Option.bind_some]
  cases b with
  | false => rw [if_neg (by decide), Law2.fine (by omega), Option.bind_some]
  | true =>
    rw [if_pos rfl]
    obtain ⟨h60, -, ho, hs⟩ := hv rfl
    have hcl := ho.len
    have e1 := ho.err0 hs true
    have e2 := ho.still.err0 hs true
    rw [if_pos (by omega), if_pos (by omega), Option.bind_some, Int.toNat_natCast, hcl]
    unfold mooring_Lifts.f mooring_Tensions.f mooring_Shape.f
    rw [if_pos (by omega), if_pos ho.chk, if_pos e1, if_pos e1, if_pos e2, if_pos e2]
    simp only [Option.bind_some, Moor.list_length, Moor.lifts_length, if_true, bne_self_eq_false]
    rw [if_pos (by decide +kernel)]
    simp only [isobathlaw02_MooringBalance.j0]
    rw [if_neg (by decide)]
    refine Law2.balance_l0 ho hs free (Moor.list_length _ _) (Moor.list_length _ _) (Moor.list_length _ _) (Moor.list_length _ _) (Moor.list_length _ _) (Moor.list_length _ _) (fun i hi => ?_) els.length 2999 0 (by omega) (by omega)
    rw [Moor.list_at hi, Moor.list_at hi, Moor.list_at hi, Moor.list_at hi, Moor.list_at hi, Moor.list_at hi, Moor.pulls_still]
    obtain ⟨-, -, -, p4, p5, p6⟩ := ho.at hs free hi
    have b := p4
    unfold Moor.okB at b
    unfold Moor.tensAt Moor.offsAt Moor.riseAt
    rw [Moor.rd_still hi, Moor.tens_still (by omega) (by omega), Moor.offs_still p5 (by omega) (by omega), Moor.rise_still (by omega) (by omega)]
    have r1 := Moor.sq_range p4
    have vv := Moor.sq_bound p4
    have u := Moor.rootUp_is (n := Moor.sqL (rd_T57 (Moor.pulls free (Moor.on els cs)) (i : Int)) (rd (Moor.lifts els) (i : Int))) (by omega) (by omega)
    have u' := Moor.rootUp_is (n := Moor.sqH (rd_T57 (Moor.pulls free (Moor.on els cs)) (i : Int)) (rd (Moor.lifts els) (i : Int))) (by omega) (by omega)
    have w := Moor.root_pos (n := Moor.sqL (rd_T57 (Moor.pulls free (Moor.on els cs)) (i : Int)) (rd (Moor.lifts els) (i : Int))) (by omega) (by omega)
    have w' := Moor.root_pos (n := Moor.sqH (rd_T57 (Moor.pulls free (Moor.on els cs)) (i : Int)) (rd (Moor.lifts els) (i : Int))) (by omega) (by omega)
    refine ⟨rfl, rfl, rfl, Moor.le_root (by omega) (by omega) (by unfold Moor.sqL; omega), Int.ediv_nonneg (Int.mul_nonneg p5 (by omega)) (by omega), Int.min_le_left _ _, Int.ediv_nonneg (Int.mul_nonneg p5 (by omega)) (by omega), Int.min_le_left _ _⟩
theorem mooringBalance_holds : Rows.MooringBalanceSaid := mooringBalance.proved fun m cs free hm _ => ⟨3000, Law2.balance m.f0 m.f2 m.f3 cs free hm.2.1.1⟩
#print axioms mooringBalance_holds
end Go.Proofs.Ytebcmhajbjkojaa.P
