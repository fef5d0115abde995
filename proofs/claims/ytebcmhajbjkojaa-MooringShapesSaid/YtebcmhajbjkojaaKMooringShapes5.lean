/- For all moorings and currents of at most 60 elements, Shape, Top, Circle and Knock return what the reference returns; on larger inputs the statement says that the examples of the chapter hold. Part 6 of 6. -/
-- Put together by wip/tools/shake.py, a program of this work: out of the words that the kit's print tool (print.sh) writes for a claim and what wip/tools/xprint.py prints, those that this claim reaches, and this work's own texts.
import Derived.Deep.Slices
import Derived.Test.YtebcmhajbjkojaaRows
import Derived.WalkKit
import Derived.ProofKit
import Derived.OpenShut
import Derived.ShutString
import Derived.ChangeOld
import Derived.Below
import Derived.SizedLaws
import Derived.Carry
import Derived.KernelRfl
import Derived.Laws.EntriesVeiled
import Derived.Outline
import Derived.Test.YtebcmhajbjkojaaKMooringShapes4
namespace Go.Proofs.Ytebcmhajbjkojaa.P
open Go.RowKit Go.Proofs.YtebcmhajbjkojaaW.PrintWords Go.Proofs.YtebcmhajbjkojaaW.PrintLast Go.Proofs.YtebcmhajbjkojaaW.PrintMore
attribute [local go_sem] max2_int min2_int max_two min_two max_three min_three max_four min_four   -- for this text's walks alone
set_option linter.unusedVariables false
set_option linter.unusedSimpArgs false
attribute [local go_sem high] eqA57
mutual
def isobathlaw02_MooringShapes.j0 : Nat → List (S57) → Bool → Bool → Int → List (S46) → Int → Int → Option (Bool)
  | 0, _, _, _, _, _, _, _ => none
  | k + 1, x1, x2, x53, x102000, x102001, x102002, x102003 => if x53 = true then (some false) else ((mooring_Top.f x102000 x102001 x102002 x102003 x1 x2).bind fun bt120 => ((isobathref02_Top.f k x102000 x102001 x102002 x102003 x1 x2).bind fun bt124 => ((mooring_Circle.f x102000 x102001 x102002 x102003 x1 x2).bind fun bt128 => ((isobathref02_Circle.f k x102000 x102001 x102002 x102003 x1 x2).bind fun bt130 => (if (!(bt120.1 == bt124.1) || (!(bt120.2.1 == bt124.2.1))) = true then (isobathlaw02_MooringShapes.j1 k x1 x2 true x102000 x102001 x102002 x102003) else (if bt120.2.2 = bt124.2.2 then (if bt128.1 = bt130.1 then (isobathlaw02_MooringShapes.j1 k x1 x2 (bt128.2 != bt130.2) x102000 x102001 x102002 x102003) else (isobathlaw02_MooringShapes.j1 k x1 x2 true x102000 x102001 x102002 x102003)) else (isobathlaw02_MooringShapes.j1 k x1 x2 true x102000 x102001 x102002 x102003)))))))
def isobathlaw02_MooringShapes.j1 : Nat → List (S57) → Bool → Bool → Int → List (S46) → Int → Int → Option (Bool)
  | 0, _, _, _, _, _, _, _ => none
  | k + 1, x1, x2, x99, x102000, x102001, x102002, x102003 => if x99 = true then (some false) else ((mooring_Knock.f x102000 x102001 x102002 x102003 x1 x2).bind fun bt132 => ((isobathref02_Knock.f k x102000 x102001 x102002 x102003 x1 x2).bind fun bt135 => (if (bt132.1 == bt135.1 && (bt132.2.1 == bt135.2.1)) = true then (if bt132.2.2 = bt135.2.2 then ((isobathlaw02_fine.f k).bind fun t138 => (some t138)) else (some false)) else (some false))))
end
def isobathlaw02_MooringShapes.f (k : Nat) (a0_0 : Int) (l0_1 : List (S46)) (a0_2 : Int) (a0_3 : Int) (l1 : List (S57)) (a2 : Bool) : Option (Bool) := (isobathlaw02_long.f a0_0 l0_1 a0_2 a0_3 l1).bind fun t102 => (if t102 = true then ((isobathlaw02_fine.f k).bind fun t103 => (some t103)) else ((mooring_Shape.f a0_0 l0_1 a0_2 a0_3 l1 a2).bind fun bt104 => ((isobathref02_Shape.f k a0_0 l0_1 a0_2 a0_3 l1 a2).bind fun bt111 => ((isobathlaw02_spans.f k bt104.1 bt111.1).bind fun t118 => (if t118 = true then ((isobathlaw02_spans.f k bt104.2.1 bt111.2.1).bind fun t119 => (if t119 = true then (isobathlaw02_MooringShapes.j0 k l1 a2 (bt104.2.2 != bt111.2.2) a0_0 l0_1 a0_2 a0_3) else (isobathlaw02_MooringShapes.j0 k l1 a2 true a0_0 l0_1 a0_2 a0_3))) else (isobathlaw02_MooringShapes.j0 k l1 a2 true a0_0 l0_1 a0_2 a0_3))))))
set_option maxHeartbeats 8000000 in
set_option maxRecDepth 100000 in
theorem isobathlaw02_MooringShapes.calls (k : Nat) (a0_0 : Int) (A0_1 : Option Addr) (c0_1 : Nat) (l0_1 : List (S46)) (a0_2 : Int) (a0_3 : Int) (A1 : Option Addr) (c1 : Nat) (l1 : List (S57)) (a2 : Bool) (r : Bool) (w : World) (hr0_1 : Kd.C k46 w A0_1 l0_1.length l0_1) (hc0_1 : l0_1.length ≤ c0_1) (hr1 : Kd.C k57 w A1 l1.length l1) (hc1 : l1.length ≤ c1) (h : isobathlaw02_MooringShapes.f k a0_0 l0_1 a0_2 a0_3 l1 a2 = some r) :
    Calls Try.prog 7 #[.agg #[.int .i64 a0_0, .slice A0_1 l0_1.length c0_1, .int .i64 a0_2, .int .i64 a0_3], .slice A1 l1.length c1, .bool a2] w fun e w' => e = .returned (.bool r) ∧ Below w.heap.size w w' := by
  have hu37 := Try.underlying37
  have hu57 := Try.underlying57
  have HR0_1 := Aside0.mk hr0_1
  have HC0_1 := Aside0.mk hc0_1
  clear hr0_1 hc0_1
  have HR1 := Aside0.mk hr1
  have HC1 := Aside0.mk hc1
  clear hr1 hc1
  have HB := Aside0.mk (Below.refl w.heap.size w)
  have H : ((isobathlaw02_long.f a0_0 l0_1 a0_2 a0_3 l1).bind fun t102 => (if t102 = true then ((isobathlaw02_fine.f k).bind fun t103 => (some t103)) else ((mooring_Shape.f a0_0 l0_1 a0_2 a0_3 l1 a2).bind fun bt104 => ((isobathref02_Shape.f k a0_0 l0_1 a0_2 a0_3 l1 a2).bind fun bt111 => ((isobathlaw02_spans.f k bt104.1 bt111.1).bind fun t118 => (if t118 = true then ((isobathlaw02_spans.f k bt104.2.1 bt111.2.1).bind fun t119 => (if t119 = true then (isobathlaw02_MooringShapes.j0 k l1 a2 (bt104.2.2 != bt111.2.2) a0_0 l0_1 a0_2 a0_3) else (isobathlaw02_MooringShapes.j0 k l1 a2 true a0_0 l0_1 a0_2 a0_3))) else (isobathlaw02_MooringShapes.j0 k l1 a2 true a0_0 l0_1 a0_2 a0_3))))))) = some r := h
  clear h
  replace H := Option.bind_eq_some_iff.mp H
  obtain ⟨t102, A40, H⟩ := H
  replace H : (if t102 = true then ((isobathlaw02_fine.f k).bind fun t103 => (some t103)) else ((mooring_Shape.f a0_0 l0_1 a0_2 a0_3 l1 a2).bind fun bt104 => ((isobathref02_Shape.f k a0_0 l0_1 a0_2 a0_3 l1 a2).bind fun bt111 => ((isobathlaw02_spans.f k bt104.1 bt111.1).bind fun t118 => (if t118 = true then ((isobathlaw02_spans.f k bt104.2.1 bt111.2.1).bind fun t119 => (if t119 = true then (isobathlaw02_MooringShapes.j0 k l1 a2 (bt104.2.2 != bt111.2.2) a0_0 l0_1 a0_2 a0_3) else (isobathlaw02_MooringShapes.j0 k l1 a2 true a0_0 l0_1 a0_2 a0_3))) else (isobathlaw02_MooringShapes.j0 k l1 a2 true a0_0 l0_1 a0_2 a0_3)))))) = some r := H
  have A4 := Aside0.mk A40
  clear A40
  by_cases c5 : t102 = true
  · subst c5
    have H1 : ((isobathlaw02_fine.f k).bind fun t103 => (some t103)) = some r := by rw [if_pos rfl] at H; exact H
    clear H
    have H := H1
    clear H1
    replace H := Option.bind_eq_some_iff.mp H
    obtain ⟨t103, A60, H⟩ := H
    replace H : (some t103) = some r := H
    have A6 := Aside0.mk A60
    clear A60
    obtain rfl := Option.some.inj H
    go_enter Try.func7, Try.ntmps7
    go_wp2_with (first | ((with_reducible refine gate_dst (N := 3) rfl ?_); refine box_event ?hg (N := 3) ?hd (cs := #[.int .i64 a0_0, .slice A0_1 l0_1.length c0_1, .int .i64 a0_2, .int .i64 a0_3]) (t := 37) ?hr ?_; (case hd => rfl); (case hg => rfl); (case hr => first | (go_simp; done) | (go_simp; rfl)); intro gb101 hg w7 hbox hb; have n0_ := Aside0.mk (below_step (by repeat (first | (with_reducible first | exact HB.out | apply below_alloc | apply pw_below_drewN | apply below_drew1) | exact HB.out)) hb); have n1_ := Aside0.mk (hbox); have n2_ := Aside0.mk ((by rw [hg]; exact (below_size (by repeat (first | (with_reducible first | exact HB.out | apply below_alloc | apply pw_below_drewN | apply below_drew1) | exact HB.out))) : w.heap.size ≤ gb101)); have n3_ := Aside0.mk ((by rw [hg]; exact (below_size (by repeat (first | (with_reducible first | exact HB.out | apply below_alloc | apply pw_below_drewN | apply below_drew1) | exact HB.out))) : w.heap.size ≤ gb101)); clear HB; have HB := n0_; have BK101 := n1_; have GW101 := n2_; have GE101 := n3_; clear n0_ n1_ n2_ n3_; clear hb hbox hg; have hcz8_0 : w7.cell? ⟨gb101, 0, none⟩ = some (.int .i64 a0_0) := (blk_cell BK101.out 0).trans rfl; have hcz8_1 : w7.cell? ⟨gb101, 1, none⟩ = some (.slice A0_1 l0_1.length c0_1) := (blk_cell BK101.out 1).trans rfl; have hcz8_2 : w7.cell? ⟨gb101, 2, none⟩ = some (.int .i64 a0_2) := (blk_cell BK101.out 2).trans rfl; have hcz8_3 : w7.cell? ⟨gb101, 3, none⟩ = some (.int .i64 a0_3) := (blk_cell BK101.out 3).trans rfl; have hfz8_0 := blk_frozen BK101.out 0; have hfz8_1 := blk_frozen BK101.out 1; have hfz8_2 := blk_frozen BK101.out 2; have hfz8_3 := blk_frozen BK101.out 3) | ((with_reducible refine gate_callee (f := 21) rfl ?_); refine goesL_ (some 21) rfl rfl Try.func21 (by kernel_rfl) rfl #[.agg #[.int .i64 a0_0, .slice A0_1 l0_1.length c0_1, .int .i64 a0_2, .int .i64 a0_3], .slice A1 l1.length c1] rfl (by (try simp only [List.map_toArray, List.map_cons, List.map_nil]); first | done | rfl | (simp only [List.length_drop, List.length_take]; rfl)) ?_; (with_reducible refine (isobathlaw02_long.calls a0_0 _ _ l0_1 a0_2 a0_3 _ _ l1 true _ ?side1 ?side2 ?side3 ?side4 A4.out).mono ?_); (case side1 => repeat (first | exact (Kd.C_below HR0_1.out HB.out) | (with_reducible refine Kd.C_alloc ?_ _) | (with_reducible refine Kd.C_drewN ?_ _) | (with_reducible refine Kd.C_drew ?_))); (case side2 => exact HC0_1.out); (case side3 => repeat (first | exact (Kd.C_below HR1.out HB.out) | (with_reducible refine Kd.C_alloc ?_ _) | (with_reducible refine Kd.C_drewN ?_ _) | (with_reducible refine Kd.C_drew ?_))); (case side4 => exact HC1.out); rintro e w9 ⟨rfl, hb⟩; refine ⟨_, rfl, ?_⟩; have n0_ := Aside0.mk (blk_below (g := gb101) (o := .cells #[.int .i64 a0_0, .slice A0_1 l0_1.length c0_1, .int .i64 a0_2, .int .i64 a0_3] 37 (0, 0)) (by (with_reducible repeat (first | refine blk_drewN ?_ _ | refine blk_drew ?_ | refine blk_alloc ?_ _)); exact BK101.out) hb); have n1_ := Aside0.mk (below_step (by repeat (first | (with_reducible first | exact HB.out | apply below_alloc | apply pw_below_drewN | apply below_drew1 | refine below_set ?_ GE101.out) | exact HB.out)) hb); clear BK101; clear HB; have BK101 := n0_; have HB := n1_; clear n0_ n1_; (try clear hb); (try clear hb2); (try clear hk); (try clear hi)) | ((with_reducible refine gate_callee (f := 14) rfl ?_); refine goesL_ (some 22) rfl rfl Try.func14 (by kernel_rfl) rfl #[] rfl (by (try simp only [List.map_toArray, List.map_cons, List.map_nil]); first | done | rfl | (simp only [List.length_drop, List.length_take]; rfl)) ?_; (with_reducible refine (isobathlaw02_fine.calls k  t103 _ A6.out).mono ?_); rintro e w10 ⟨rfl, hb⟩; refine ⟨_, rfl, ?_⟩; have n0_ := Aside0.mk (blk_below (g := gb101) (o := .cells #[.int .i64 a0_0, .slice A0_1 l0_1.length c0_1, .int .i64 a0_2, .int .i64 a0_3] 37 (0, 0)) (by (with_reducible repeat (first | refine blk_drewN ?_ _ | refine blk_drew ?_ | refine blk_alloc ?_ _)); exact BK101.out) hb); have n1_ := Aside0.mk (below_step (by repeat (first | (with_reducible first | exact HB.out | apply below_alloc | apply pw_below_drewN | apply below_drew1 | refine below_set ?_ GE101.out) | exact HB.out)) hb); clear BK101; clear HB; have BK101 := n0_; have HB := n1_; clear n0_ n1_; (try clear hb); (try clear hb2); (try clear hk); (try clear hi)))
    go_ret
    exact ⟨by first | rfl | (simp [errW_none, errW_some] <;> rfl) | (simp [*, errW_none, errW_some] <;> rfl), by repeat (first | (with_reducible first | exact HB.out | apply below_alloc | apply pw_below_drewN | apply below_drew1 | refine below_set ?_ GE101.out) | exact HB.out)⟩
  · replace c5 := Bool.eq_false_iff.mpr c5
    subst c5
    have H1 : ((mooring_Shape.f a0_0 l0_1 a0_2 a0_3 l1 a2).bind fun bt104 => ((isobathref02_Shape.f k a0_0 l0_1 a0_2 a0_3 l1 a2).bind fun bt111 => ((isobathlaw02_spans.f k bt104.1 bt111.1).bind fun t118 => (if t118 = true then ((isobathlaw02_spans.f k bt104.2.1 bt111.2.1).bind fun t119 => (if t119 = true then (isobathlaw02_MooringShapes.j0 k l1 a2 (bt104.2.2 != bt111.2.2) a0_0 l0_1 a0_2 a0_3) else (isobathlaw02_MooringShapes.j0 k l1 a2 true a0_0 l0_1 a0_2 a0_3))) else (isobathlaw02_MooringShapes.j0 k l1 a2 true a0_0 l0_1 a0_2 a0_3))))) = some r := by rw [if_neg (show ¬ (false = true) by decide)] at H; exact H
    clear H
    have H := H1
    clear H1
    replace H := Option.bind_eq_some_iff.mp H
    obtain ⟨⟨t104, t107, t110⟩, A110, H⟩ := H
    replace H : ((isobathref02_Shape.f k a0_0 l0_1 a0_2 a0_3 l1 a2).bind fun bt111 => ((isobathlaw02_spans.f k t104 bt111.1).bind fun t118 => (if t118 = true then ((isobathlaw02_spans.f k t107 bt111.2.1).bind fun t119 => (if t119 = true then (isobathlaw02_MooringShapes.j0 k l1 a2 (t110 != bt111.2.2) a0_0 l0_1 a0_2 a0_3) else (isobathlaw02_MooringShapes.j0 k l1 a2 true a0_0 l0_1 a0_2 a0_3))) else (isobathlaw02_MooringShapes.j0 k l1 a2 true a0_0 l0_1 a0_2 a0_3)))) = some r := H
    have A11 := Aside0.mk A110
    clear A110
    replace H := Option.bind_eq_some_iff.mp H
    obtain ⟨⟨t111, t114, t117⟩, A120, H⟩ := H
    replace H : ((isobathlaw02_spans.f k t104 t111).bind fun t118 => (if t118 = true then ((isobathlaw02_spans.f k t107 t114).bind fun t119 => (if t119 = true then (isobathlaw02_MooringShapes.j0 k l1 a2 (t110 != t117) a0_0 l0_1 a0_2 a0_3) else (isobathlaw02_MooringShapes.j0 k l1 a2 true a0_0 l0_1 a0_2 a0_3))) else (isobathlaw02_MooringShapes.j0 k l1 a2 true a0_0 l0_1 a0_2 a0_3))) = some r := H
    have A12 := Aside0.mk A120
    clear A120
    have HC13 := Aside0.mk H
    clear H
    go_enter Try.func7, Try.ntmps7
    go_upto_region 5 with (first | ((with_reducible refine gate_dst (N := 3) rfl ?_); refine box_event ?hg (N := 3) ?hd (cs := #[.int .i64 a0_0, .slice A0_1 l0_1.length c0_1, .int .i64 a0_2, .int .i64 a0_3]) (t := 37) ?hr ?_; (case hd => rfl); (case hg => rfl); (case hr => first | (go_simp; done) | (go_simp; rfl)); intro gb101 hg w14 hbox hb; have n0_ := Aside0.mk (below_step (by repeat (first | (with_reducible first | exact HB.out | apply below_alloc | apply pw_below_drewN | apply below_drew1) | exact HB.out)) hb); have n1_ := Aside0.mk (hbox); have n2_ := Aside0.mk ((by rw [hg]; exact (below_size (by repeat (first | (with_reducible first | exact HB.out | apply below_alloc | apply pw_below_drewN | apply below_drew1) | exact HB.out))) : w.heap.size ≤ gb101)); have n3_ := Aside0.mk ((by rw [hg]; exact (below_size (by repeat (first | (with_reducible first | exact HB.out | apply below_alloc | apply pw_below_drewN | apply below_drew1) | exact HB.out))) : w.heap.size ≤ gb101)); clear HB; have HB := n0_; have BK101 := n1_; have GW101 := n2_; have GE101 := n3_; clear n0_ n1_ n2_ n3_; clear hb hbox hg; have hcz15_0 : w14.cell? ⟨gb101, 0, none⟩ = some (.int .i64 a0_0) := (blk_cell BK101.out 0).trans rfl; have hcz15_1 : w14.cell? ⟨gb101, 1, none⟩ = some (.slice A0_1 l0_1.length c0_1) := (blk_cell BK101.out 1).trans rfl; have hcz15_2 : w14.cell? ⟨gb101, 2, none⟩ = some (.int .i64 a0_2) := (blk_cell BK101.out 2).trans rfl; have hcz15_3 : w14.cell? ⟨gb101, 3, none⟩ = some (.int .i64 a0_3) := (blk_cell BK101.out 3).trans rfl; have hfz15_0 := blk_frozen BK101.out 0; have hfz15_1 := blk_frozen BK101.out 1; have hfz15_2 := blk_frozen BK101.out 2; have hfz15_3 := blk_frozen BK101.out 3) | ((with_reducible refine gate_callee (f := 21) rfl ?_); refine goesL_ (some 21) rfl rfl Try.func21 (by kernel_rfl) rfl #[.agg #[.int .i64 a0_0, .slice A0_1 l0_1.length c0_1, .int .i64 a0_2, .int .i64 a0_3], .slice A1 l1.length c1] rfl (by (try simp only [List.map_toArray, List.map_cons, List.map_nil]); first | done | rfl | (simp only [List.length_drop, List.length_take]; rfl)) ?_; (with_reducible refine (isobathlaw02_long.calls a0_0 _ _ l0_1 a0_2 a0_3 _ _ l1 false _ ?side1 ?side2 ?side3 ?side4 A4.out).mono ?_); (case side1 => repeat (first | exact (Kd.C_below HR0_1.out HB.out) | (with_reducible refine Kd.C_alloc ?_ _) | (with_reducible refine Kd.C_drewN ?_ _) | (with_reducible refine Kd.C_drew ?_))); (case side2 => exact HC0_1.out); (case side3 => repeat (first | exact (Kd.C_below HR1.out HB.out) | (with_reducible refine Kd.C_alloc ?_ _) | (with_reducible refine Kd.C_drewN ?_ _) | (with_reducible refine Kd.C_drew ?_))); (case side4 => exact HC1.out); rintro e w16 ⟨rfl, hb⟩; refine ⟨_, rfl, ?_⟩; have n0_ := Aside0.mk (blk_below (g := gb101) (o := .cells #[.int .i64 a0_0, .slice A0_1 l0_1.length c0_1, .int .i64 a0_2, .int .i64 a0_3] 37 (0, 0)) (by (with_reducible repeat (first | refine blk_drewN ?_ _ | refine blk_drew ?_ | refine blk_alloc ?_ _)); exact BK101.out) hb); have n1_ := Aside0.mk (below_step (by repeat (first | (with_reducible first | exact HB.out | apply below_alloc | apply pw_below_drewN | apply below_drew1 | refine below_set ?_ GE101.out) | exact HB.out)) hb); clear BK101; clear HB; have BK101 := n0_; have HB := n1_; clear n0_ n1_; (try clear hb); (try clear hb2); (try clear hk); (try clear hi); have hcz17_0 : w16.cell? ⟨gb101, 0, none⟩ = some (.int .i64 a0_0) := (blk_cell BK101.out 0).trans rfl; have hcz17_1 : w16.cell? ⟨gb101, 1, none⟩ = some (.slice A0_1 l0_1.length c0_1) := (blk_cell BK101.out 1).trans rfl; have hcz17_2 : w16.cell? ⟨gb101, 2, none⟩ = some (.int .i64 a0_2) := (blk_cell BK101.out 2).trans rfl; have hcz17_3 : w16.cell? ⟨gb101, 3, none⟩ = some (.int .i64 a0_3) := (blk_cell BK101.out 3).trans rfl; have hfz17_0 := blk_frozen BK101.out 0; have hfz17_1 := blk_frozen BK101.out 1; have hfz17_2 := blk_frozen BK101.out 2; have hfz17_3 := blk_frozen BK101.out 3) | ((with_reducible refine gate_callee (f := 27) rfl ?_); refine goesL_ (some 27) rfl rfl Try.func27 (by kernel_rfl) rfl #[.agg #[.int .i64 a0_0, .slice A0_1 l0_1.length c0_1, .int .i64 a0_2, .int .i64 a0_3], .slice A1 l1.length c1, .bool a2] rfl (by (try simp only [List.map_toArray, List.map_cons, List.map_nil]); first | done | rfl | (simp only [List.length_drop, List.length_take]; rfl)) ?_; (with_reducible refine (mooring_Shape.calls a0_0 _ _ l0_1 a0_2 a0_3 _ _ l1 a2 t104 t107 t110 _ ?side1 ?side2 ?side3 ?side4 A11.out).mono ?_); (case side1 => repeat (first | exact (Kd.C_below HR0_1.out HB.out) | (with_reducible refine Kd.C_alloc ?_ _) | (with_reducible refine Kd.C_drewN ?_ _) | (with_reducible refine Kd.C_drew ?_))); (case side2 => exact HC0_1.out); (case side3 => repeat (first | exact (Kd.C_below HR1.out HB.out) | (with_reducible refine Kd.C_alloc ?_ _) | (with_reducible refine Kd.C_drewN ?_ _) | (with_reducible refine Kd.C_drew ?_))); (case side4 => exact HC1.out); rintro e w18 ⟨v105, v108, rfl, ho0, ho1, hb⟩; refine ⟨_, rfl, ?_⟩; have n0_ := Aside0.mk (Kd.R_lower ho0 (below_size (by repeat (first | (with_reducible first | exact HB.out | apply below_alloc | apply pw_below_drewN | apply below_drew1 | refine below_set ?_ GE101.out) | exact HB.out)))); have n1_ := Aside0.mk (Kd.R_lower ho1 (below_size (by repeat (first | (with_reducible first | exact HB.out | apply below_alloc | apply pw_below_drewN | apply below_drew1 | refine below_set ?_ GE101.out) | exact HB.out)))); have n2_ := Aside0.mk (blk_below (g := gb101) (o := .cells #[.int .i64 a0_0, .slice A0_1 l0_1.length c0_1, .int .i64 a0_2, .int .i64 a0_3] 37 (0, 0)) (by (with_reducible repeat (first | refine blk_drewN ?_ _ | refine blk_drew ?_ | refine blk_alloc ?_ _)); exact BK101.out) hb); have n3_ := Aside0.mk (below_step (by repeat (first | (with_reducible first | exact HB.out | apply below_alloc | apply pw_below_drewN | apply below_drew1 | refine below_set ?_ GE101.out) | exact HB.out)) hb); clear BK101; clear HB; have HO106 := n0_; have HO109 := n1_; have BK101 := n2_; have HB := n3_; clear n0_ n1_ n2_ n3_; (try clear hb); (try clear hb2); (try clear hk); (try clear hi); (try clear ho0); (try clear ho1); have hcz19_0 : w18.cell? ⟨gb101, 0, none⟩ = some (.int .i64 a0_0) := (blk_cell BK101.out 0).trans rfl; have hcz19_1 : w18.cell? ⟨gb101, 1, none⟩ = some (.slice A0_1 l0_1.length c0_1) := (blk_cell BK101.out 1).trans rfl; have hcz19_2 : w18.cell? ⟨gb101, 2, none⟩ = some (.int .i64 a0_2) := (blk_cell BK101.out 2).trans rfl; have hcz19_3 : w18.cell? ⟨gb101, 3, none⟩ = some (.int .i64 a0_3) := (blk_cell BK101.out 3).trans rfl; have hfz19_0 := blk_frozen BK101.out 0; have hfz19_1 := blk_frozen BK101.out 1; have hfz19_2 := blk_frozen BK101.out 2; have hfz19_3 := blk_frozen BK101.out 3) | ((with_reducible refine gate_callee (f := 30) rfl ?_); refine goesL_ (some 35) rfl rfl Try.func30 (by kernel_rfl) rfl #[.agg #[.int .i64 a0_0, .slice A0_1 l0_1.length c0_1, .int .i64 a0_2, .int .i64 a0_3], .slice A1 l1.length c1, .bool a2] rfl (by (try simp only [List.map_toArray, List.map_cons, List.map_nil]); first | done | rfl | (simp only [List.length_drop, List.length_take]; rfl)) ?_; (with_reducible refine (isobathref02_Shape.calls k a0_0 _ _ l0_1 a0_2 a0_3 _ _ l1 a2 t111 t114 t117 _ ?side1 ?side2 ?side3 ?side4 A12.out).mono ?_); (case side1 => repeat (first | exact (Kd.C_below HR0_1.out HB.out) | (with_reducible refine Kd.C_alloc ?_ _) | (with_reducible refine Kd.C_drewN ?_ _) | (with_reducible refine Kd.C_drew ?_))); (case side2 => exact HC0_1.out); (case side3 => repeat (first | exact (Kd.C_below HR1.out HB.out) | (with_reducible refine Kd.C_alloc ?_ _) | (with_reducible refine Kd.C_drewN ?_ _) | (with_reducible refine Kd.C_drew ?_))); (case side4 => exact HC1.out); rintro e w20 ⟨v112, v115, rfl, ho0, ho1, hb⟩; refine ⟨_, rfl, ?_⟩; have n0_ := Aside0.mk (Kd.R_mono (Kd.R_told (Kd.R_told (Kd.R_old (by (with_reducible repeat (first | apply Kd.R_alloc | apply Kd.R_drewN | apply Kd.R_drew)); exact HO106.out) hb) (Kd.R_base ho0)) (Kd.R_base ho1)) (fun _ h_ => h_.1)); have n1_ := Aside0.mk (Kd.R_mono (Kd.R_told (Kd.R_told (Kd.R_old (by (with_reducible repeat (first | apply Kd.R_alloc | apply Kd.R_drewN | apply Kd.R_drew)); exact HO109.out) hb) (Kd.R_base ho0)) (Kd.R_base ho1)) (fun _ h_ => h_.1)); have n2_ := Aside0.mk (Kd.R_lower (Kd.R_new' (Kd.R_new' ho0 (Kd.R_lt (by (with_reducible repeat (first | apply Kd.R_alloc | apply Kd.R_drewN | apply Kd.R_drew)); exact HO106.out))) (Kd.R_lt (by (with_reducible repeat (first | apply Kd.R_alloc | apply Kd.R_drewN | apply Kd.R_drew)); exact HO109.out))) (below_size (by repeat (first | (with_reducible first | exact HB.out | apply below_alloc | apply pw_below_drewN | apply below_drew1 | refine below_set ?_ GE101.out) | exact HB.out)))); have n3_ := Aside0.mk (Kd.R_lower (Kd.R_new' (Kd.R_new' ho1 (Kd.R_lt (by (with_reducible repeat (first | apply Kd.R_alloc | apply Kd.R_drewN | apply Kd.R_drew)); exact HO106.out))) (Kd.R_lt (by (with_reducible repeat (first | apply Kd.R_alloc | apply Kd.R_drewN | apply Kd.R_drew)); exact HO109.out))) (below_size (by repeat (first | (with_reducible first | exact HB.out | apply below_alloc | apply pw_below_drewN | apply below_drew1 | refine below_set ?_ GE101.out) | exact HB.out)))); have n4_ := Aside0.mk (blk_below (g := gb101) (o := .cells #[.int .i64 a0_0, .slice A0_1 l0_1.length c0_1, .int .i64 a0_2, .int .i64 a0_3] 37 (0, 0)) (by (with_reducible repeat (first | refine blk_drewN ?_ _ | refine blk_drew ?_ | refine blk_alloc ?_ _)); exact BK101.out) hb); have n5_ := Aside0.mk (below_step (by repeat (first | (with_reducible first | exact HB.out | apply below_alloc | apply pw_below_drewN | apply below_drew1 | refine below_set ?_ GE101.out) | exact HB.out)) hb); clear HO106; clear HO109; clear BK101; clear HB; have HO106 := n0_; have HO109 := n1_; have HO113 := n2_; have HO116 := n3_; have BK101 := n4_; have HB := n5_; clear n0_ n1_ n2_ n3_ n4_ n5_; (try clear hb); (try clear hb2); (try clear hk); (try clear hi); (try clear ho0); (try clear ho1)))
    (try simp only [Act.put, List.setIfInBounds_toArray, List.set_cons_zero, List.set_cons_succ])
    go_cut [53] (fun v53 wc => ∃ (kq : Nat) (x53_12 : Bool), v53 = .bool x53_12 ∧ Aside0 (isobathlaw02_MooringShapes.j0 kq l1 a2 x53_12 a0_0 l0_1 a0_2 a0_3 = some r) ∧ Aside0 (kq ≤ k) ∧ Aside0 (wc.heap[gb101]? = some (.cells #[.int .i64 a0_0, (.slice A0_1 l0_1.length c0_1), .int .i64 a0_2, .int .i64 a0_3] 37 (0, 0))) ∧ Aside0 (Below w.heap.size w wc))
    case first =>
      have H := HC13.out
      clear HC13
      replace H := Option.bind_eq_some_iff.mp H
      obtain ⟨t118, A210, H⟩ := H
      replace H : (if t118 = true then ((isobathlaw02_spans.f k t107 t114).bind fun t119 => (if t119 = true then (isobathlaw02_MooringShapes.j0 k l1 a2 (t110 != t117) a0_0 l0_1 a0_2 a0_3) else (isobathlaw02_MooringShapes.j0 k l1 a2 true a0_0 l0_1 a0_2 a0_3))) else (isobathlaw02_MooringShapes.j0 k l1 a2 true a0_0 l0_1 a0_2 a0_3)) = some r := H
      have A21 := Aside0.mk A210
      clear A210
      by_cases c22 : t118 = true
      · subst c22
        have H1 : ((isobathlaw02_spans.f k t107 t114).bind fun t119 => (if t119 = true then (isobathlaw02_MooringShapes.j0 k l1 a2 (t110 != t117) a0_0 l0_1 a0_2 a0_3) else (isobathlaw02_MooringShapes.j0 k l1 a2 true a0_0 l0_1 a0_2 a0_3))) = some r := by rw [if_pos rfl] at H; exact H
        clear H
        have H := H1
        clear H1
        replace H := Option.bind_eq_some_iff.mp H
        obtain ⟨t119, A230, H⟩ := H
        replace H : (if t119 = true then (isobathlaw02_MooringShapes.j0 k l1 a2 (t110 != t117) a0_0 l0_1 a0_2 a0_3) else (isobathlaw02_MooringShapes.j0 k l1 a2 true a0_0 l0_1 a0_2 a0_3)) = some r := H
        have A23 := Aside0.mk A230
        clear A230
        by_cases c24 : t119 = true
        · subst c24
          have H1 : (isobathlaw02_MooringShapes.j0 k l1 a2 (t110 != t117) a0_0 l0_1 a0_2 a0_3) = some r := by rw [if_pos rfl] at H; exact H
          clear H
          have H := H1
          clear H1
          have H' := Aside0.mk H
          clear H
          obtain ⟨Ao25, co25, eo25⟩ := Kd.R_slice HO106.out
          subst eo25
          obtain ⟨Ao26, co26, eo26⟩ := Kd.R_slice HO113.out
          subst eo26
          go_wp2_with (first | ((with_reducible refine gate_callee (f := 31) rfl ?_); refine goesL_ (some 41) rfl rfl Try.func31 (by kernel_rfl) rfl #[.slice Ao25 t104.length co25, .slice Ao26 t111.length co26] rfl (by (try simp only [List.map_toArray, List.map_cons, List.map_nil]); first | done | rfl | (simp only [List.length_drop, List.length_take]; rfl)) ?_; (with_reducible refine (isobathlaw02_spans.calls k _ _ t104 _ _ t111 true _ ?side1 ?side2 ?side3 ?side4 A21.out).mono ?_); (case side1 => repeat (first | exact (Kd.R_reads' HO106.out).2.2 | (with_reducible refine Kd.C_alloc ?_ _) | (with_reducible refine Kd.C_drewN ?_ _) | (with_reducible refine Kd.C_drew ?_))); (case side2 => exact (Kd.R_reads' HO106.out).2.1); (case side3 => repeat (first | exact (Kd.R_reads' HO113.out).2.2 | (with_reducible refine Kd.C_alloc ?_ _) | (with_reducible refine Kd.C_drewN ?_ _) | (with_reducible refine Kd.C_drew ?_))); (case side4 => exact (Kd.R_reads' HO113.out).2.1); rintro e w' ⟨rfl, ⟨nd, rfl⟩⟩; refine ⟨_, rfl, ?_⟩; obtain ⟨Ao27, co27, eo27⟩ := Kd.R_slice HO109.out; subst eo27; obtain ⟨Ao28, co28, eo28⟩ := Kd.R_slice HO116.out; subst eo28) | (go_at_call 31; (with_reducible refine (isobathlaw02_spans.calls k _ _ t107 _ _ t114 true _ ?side1 ?side2 ?side3 ?side4 A23.out).mono ?_); (case side1 => repeat (first | exact (Kd.R_reads' HO109.out).2.2 | (with_reducible refine Kd.C_alloc ?_ _) | (with_reducible refine Kd.C_drewN ?_ _) | (with_reducible refine Kd.C_drew ?_))); (case side2 => exact (Kd.R_reads' HO109.out).2.1); (case side3 => repeat (first | exact (Kd.R_reads' HO116.out).2.2 | (with_reducible refine Kd.C_alloc ?_ _) | (with_reducible refine Kd.C_drewN ?_ _) | (with_reducible refine Kd.C_drew ?_))); (case side4 => exact (Kd.R_reads' HO116.out).2.1); rintro e w' ⟨rfl, ⟨nd, rfl⟩⟩))
          go_meet
          case rel => exact ⟨_, ((t110 != t117)), (by first | rfl | (simp; done) | (simp [*]; done)), H', ⟨by first | omega | exact Nat.le_refl _⟩, ⟨by (with_reducible repeat (first | refine blk_drewN ?_ _ | refine blk_drew ?_ | refine blk_alloc ?_ _)); exact BK101.out⟩, ⟨by repeat (first | (with_reducible first | exact HB.out | apply below_alloc | apply pw_below_drewN | apply below_drew1 | refine below_set ?_ GE101.out) | exact HB.out)⟩⟩
        · replace c24 := Bool.eq_false_iff.mpr c24
          subst c24
          have H1 : (isobathlaw02_MooringShapes.j0 k l1 a2 true a0_0 l0_1 a0_2 a0_3) = some r := by rw [if_neg (show ¬ (false = true) by decide)] at H; exact H
          clear H
          have H := H1
          clear H1
          have H' := Aside0.mk H
          clear H
          obtain ⟨Ao29, co29, eo29⟩ := Kd.R_slice HO106.out
          subst eo29
          obtain ⟨Ao30, co30, eo30⟩ := Kd.R_slice HO113.out
          subst eo30
          go_wp2_with (first | ((with_reducible refine gate_callee (f := 31) rfl ?_); refine goesL_ (some 41) rfl rfl Try.func31 (by kernel_rfl) rfl #[.slice Ao29 t104.length co29, .slice Ao30 t111.length co30] rfl (by (try simp only [List.map_toArray, List.map_cons, List.map_nil]); first | done | rfl | (simp only [List.length_drop, List.length_take]; rfl)) ?_; (with_reducible refine (isobathlaw02_spans.calls k _ _ t104 _ _ t111 true _ ?side1 ?side2 ?side3 ?side4 A21.out).mono ?_); (case side1 => repeat (first | exact (Kd.R_reads' HO106.out).2.2 | (with_reducible refine Kd.C_alloc ?_ _) | (with_reducible refine Kd.C_drewN ?_ _) | (with_reducible refine Kd.C_drew ?_))); (case side2 => exact (Kd.R_reads' HO106.out).2.1); (case side3 => repeat (first | exact (Kd.R_reads' HO113.out).2.2 | (with_reducible refine Kd.C_alloc ?_ _) | (with_reducible refine Kd.C_drewN ?_ _) | (with_reducible refine Kd.C_drew ?_))); (case side4 => exact (Kd.R_reads' HO113.out).2.1); rintro e w' ⟨rfl, ⟨nd, rfl⟩⟩; refine ⟨_, rfl, ?_⟩; obtain ⟨Ao31, co31, eo31⟩ := Kd.R_slice HO109.out; subst eo31; obtain ⟨Ao32, co32, eo32⟩ := Kd.R_slice HO116.out; subst eo32) | (go_at_call 31; (with_reducible refine (isobathlaw02_spans.calls k _ _ t107 _ _ t114 false _ ?side1 ?side2 ?side3 ?side4 A23.out).mono ?_); (case side1 => repeat (first | exact (Kd.R_reads' HO109.out).2.2 | (with_reducible refine Kd.C_alloc ?_ _) | (with_reducible refine Kd.C_drewN ?_ _) | (with_reducible refine Kd.C_drew ?_))); (case side2 => exact (Kd.R_reads' HO109.out).2.1); (case side3 => repeat (first | exact (Kd.R_reads' HO116.out).2.2 | (with_reducible refine Kd.C_alloc ?_ _) | (with_reducible refine Kd.C_drewN ?_ _) | (with_reducible refine Kd.C_drew ?_))); (case side4 => exact (Kd.R_reads' HO116.out).2.1); rintro e w' ⟨rfl, ⟨nd, rfl⟩⟩))
          go_meet
          case rel => exact ⟨_, (true), (by first | rfl | (simp; done) | (simp [*]; done)), H', ⟨by first | omega | exact Nat.le_refl _⟩, ⟨by (with_reducible repeat (first | refine blk_drewN ?_ _ | refine blk_drew ?_ | refine blk_alloc ?_ _)); exact BK101.out⟩, ⟨by repeat (first | (with_reducible first | exact HB.out | apply below_alloc | apply pw_below_drewN | apply below_drew1 | refine below_set ?_ GE101.out) | exact HB.out)⟩⟩
      · replace c22 := Bool.eq_false_iff.mpr c22
        subst c22
        have H1 : (isobathlaw02_MooringShapes.j0 k l1 a2 true a0_0 l0_1 a0_2 a0_3) = some r := by rw [if_neg (show ¬ (false = true) by decide)] at H; exact H
        clear H
        have H := H1
        clear H1
        have H' := Aside0.mk H
        clear H
        obtain ⟨Ao33, co33, eo33⟩ := Kd.R_slice HO106.out
        subst eo33
        obtain ⟨Ao34, co34, eo34⟩ := Kd.R_slice HO113.out
        subst eo34
        go_wp2_with (first | ((with_reducible refine gate_callee (f := 31) rfl ?_); refine goesL_ (some 41) rfl rfl Try.func31 (by kernel_rfl) rfl #[.slice Ao33 t104.length co33, .slice Ao34 t111.length co34] rfl (by (try simp only [List.map_toArray, List.map_cons, List.map_nil]); first | done | rfl | (simp only [List.length_drop, List.length_take]; rfl)) ?_; (with_reducible refine (isobathlaw02_spans.calls k _ _ t104 _ _ t111 false _ ?side1 ?side2 ?side3 ?side4 A21.out).mono ?_); (case side1 => repeat (first | exact (Kd.R_reads' HO106.out).2.2 | (with_reducible refine Kd.C_alloc ?_ _) | (with_reducible refine Kd.C_drewN ?_ _) | (with_reducible refine Kd.C_drew ?_))); (case side2 => exact (Kd.R_reads' HO106.out).2.1); (case side3 => repeat (first | exact (Kd.R_reads' HO113.out).2.2 | (with_reducible refine Kd.C_alloc ?_ _) | (with_reducible refine Kd.C_drewN ?_ _) | (with_reducible refine Kd.C_drew ?_))); (case side4 => exact (Kd.R_reads' HO113.out).2.1); rintro e w' ⟨rfl, ⟨nd, rfl⟩⟩; refine ⟨_, rfl, ?_⟩))
        go_meet
        case rel => exact ⟨_, (true), (by first | rfl | (simp; done) | (simp [*]; done)), H', ⟨by first | omega | exact Nat.le_refl _⟩, ⟨by (with_reducible repeat (first | refine blk_drewN ?_ _ | refine blk_drew ?_ | refine blk_alloc ?_ _)); exact BK101.out⟩, ⟨by repeat (first | (with_reducible first | exact HB.out | apply below_alloc | apply pw_below_drewN | apply below_drew1 | refine below_set ?_ GE101.out) | exact HB.out)⟩⟩
    case rest =>
      clear HC13
      try clear c1
      try clear c2
      try clear p2
      try clear c3
      try clear c5
      try clear c7
      try clear c14
      try clear c21
      try clear c22
      try clear c24
      try clear c27
      try clear c30
      try clear c31
      try clear hcz15_0
      try clear hcz15_1
      try clear hcz15_2
      try clear hcz15_3
      try clear hcz17_0
      try clear hcz17_1
      try clear hcz17_2
      try clear hcz17_3
      try clear hcz19_0
      try clear hcz19_1
      try clear hcz19_2
      try clear hcz19_3
      try clear hcz8_0
      try clear hcz8_1
      try clear hcz8_2
      try clear hcz8_3
      try clear hfz15_0
      try clear hfz15_1
      try clear hfz15_2
      try clear hfz15_3
      try clear hfz17_0
      try clear hfz17_1
      try clear hfz17_2
      try clear hfz17_3
      try clear hfz19_0
      try clear hfz19_1
      try clear hfz19_2
      try clear hfz19_3
      try clear hfz8_0
      try clear hfz8_1
      try clear hfz8_2
      try clear hfz8_3
      obtain ⟨kq, x53_12, rfl, HA, HJ12, BK101, HB⟩ := hcut
      cases kq with
      | zero => exact absurd HA.out (by simp [isobathlaw02_MooringShapes.j0])
      | succ kj12 =>
        have H := HA.out
        clear HA
        simp only [isobathlaw02_MooringShapes.j0] at H
        by_cases c35 : x53_12 = true
        · subst c35
          have H1 : (some false) = some r := by rw [if_pos rfl] at H; exact H
          clear H
          have H := H1
          clear H1
          obtain rfl := Option.some.inj H
          go_wp2
          go_ret
          exact ⟨by first | rfl | (simp [errW_none, errW_some] <;> rfl) | (simp [*, errW_none, errW_some] <;> rfl), by repeat (first | (with_reducible first | exact HB.out | apply below_alloc | apply pw_below_drewN | apply below_drew1 | refine below_set ?_ GE101.out) | exact HB.out)⟩
        · replace c35 := Bool.eq_false_iff.mpr c35
          subst c35
          have H1 : ((mooring_Top.f a0_0 l0_1 a0_2 a0_3 l1 a2).bind fun bt120 => ((isobathref02_Top.f kj12 a0_0 l0_1 a0_2 a0_3 l1 a2).bind fun bt124 => ((mooring_Circle.f a0_0 l0_1 a0_2 a0_3 l1 a2).bind fun bt128 => ((isobathref02_Circle.f kj12 a0_0 l0_1 a0_2 a0_3 l1 a2).bind fun bt130 => (if (!(bt120.1 == bt124.1) || (!(bt120.2.1 == bt124.2.1))) = true then (isobathlaw02_MooringShapes.j1 kj12 l1 a2 true a0_0 l0_1 a0_2 a0_3) else (if bt120.2.2 = bt124.2.2 then (if bt128.1 = bt130.1 then (isobathlaw02_MooringShapes.j1 kj12 l1 a2 (bt128.2 != bt130.2) a0_0 l0_1 a0_2 a0_3) else (isobathlaw02_MooringShapes.j1 kj12 l1 a2 true a0_0 l0_1 a0_2 a0_3)) else (isobathlaw02_MooringShapes.j1 kj12 l1 a2 true a0_0 l0_1 a0_2 a0_3))))))) = some r := by rw [if_neg (show ¬ (false = true) by decide)] at H; exact H
          clear H
          have H := H1
          clear H1
          replace H := Option.bind_eq_some_iff.mp H
          obtain ⟨⟨t120, t121, t122⟩, A360, H⟩ := H
          replace H : ((isobathref02_Top.f kj12 a0_0 l0_1 a0_2 a0_3 l1 a2).bind fun bt124 => ((mooring_Circle.f a0_0 l0_1 a0_2 a0_3 l1 a2).bind fun bt128 => ((isobathref02_Circle.f kj12 a0_0 l0_1 a0_2 a0_3 l1 a2).bind fun bt130 => (if (!(t120 == bt124.1) || (!(t121 == bt124.2.1))) = true then (isobathlaw02_MooringShapes.j1 kj12 l1 a2 true a0_0 l0_1 a0_2 a0_3) else (if t122 = bt124.2.2 then (if bt128.1 = bt130.1 then (isobathlaw02_MooringShapes.j1 kj12 l1 a2 (bt128.2 != bt130.2) a0_0 l0_1 a0_2 a0_3) else (isobathlaw02_MooringShapes.j1 kj12 l1 a2 true a0_0 l0_1 a0_2 a0_3)) else (isobathlaw02_MooringShapes.j1 kj12 l1 a2 true a0_0 l0_1 a0_2 a0_3)))))) = some r := H
          have A36 := Aside0.mk A360
          clear A360
          replace H := Option.bind_eq_some_iff.mp H
          obtain ⟨⟨t124, t125, t126⟩, A370, H⟩ := H
          replace H : ((mooring_Circle.f a0_0 l0_1 a0_2 a0_3 l1 a2).bind fun bt128 => ((isobathref02_Circle.f kj12 a0_0 l0_1 a0_2 a0_3 l1 a2).bind fun bt130 => (if (!(t120 == t124) || (!(t121 == t125))) = true then (isobathlaw02_MooringShapes.j1 kj12 l1 a2 true a0_0 l0_1 a0_2 a0_3) else (if t122 = t126 then (if bt128.1 = bt130.1 then (isobathlaw02_MooringShapes.j1 kj12 l1 a2 (bt128.2 != bt130.2) a0_0 l0_1 a0_2 a0_3) else (isobathlaw02_MooringShapes.j1 kj12 l1 a2 true a0_0 l0_1 a0_2 a0_3)) else (isobathlaw02_MooringShapes.j1 kj12 l1 a2 true a0_0 l0_1 a0_2 a0_3))))) = some r := H
          have A37 := Aside0.mk A370
          clear A370
          replace H := Option.bind_eq_some_iff.mp H
          obtain ⟨⟨t128, t129⟩, A380, H⟩ := H
          replace H : ((isobathref02_Circle.f kj12 a0_0 l0_1 a0_2 a0_3 l1 a2).bind fun bt130 => (if (!(t120 == t124) || (!(t121 == t125))) = true then (isobathlaw02_MooringShapes.j1 kj12 l1 a2 true a0_0 l0_1 a0_2 a0_3) else (if t122 = t126 then (if t128 = bt130.1 then (isobathlaw02_MooringShapes.j1 kj12 l1 a2 (t129 != bt130.2) a0_0 l0_1 a0_2 a0_3) else (isobathlaw02_MooringShapes.j1 kj12 l1 a2 true a0_0 l0_1 a0_2 a0_3)) else (isobathlaw02_MooringShapes.j1 kj12 l1 a2 true a0_0 l0_1 a0_2 a0_3)))) = some r := H
          have A38 := Aside0.mk A380
          clear A380
          replace H := Option.bind_eq_some_iff.mp H
          obtain ⟨⟨t130, t131⟩, A390, H⟩ := H
          replace H : (if (!(t120 == t124) || (!(t121 == t125))) = true then (isobathlaw02_MooringShapes.j1 kj12 l1 a2 true a0_0 l0_1 a0_2 a0_3) else (if t122 = t126 then (if t128 = t130 then (isobathlaw02_MooringShapes.j1 kj12 l1 a2 (t129 != t131) a0_0 l0_1 a0_2 a0_3) else (isobathlaw02_MooringShapes.j1 kj12 l1 a2 true a0_0 l0_1 a0_2 a0_3)) else (isobathlaw02_MooringShapes.j1 kj12 l1 a2 true a0_0 l0_1 a0_2 a0_3))) = some r := H
          have A39 := Aside0.mk A390
          clear A390
          have HC40 := Aside0.mk H
          clear H
          have hcz41_0 : wc.cell? ⟨gb101, 0, none⟩ = some (.int .i64 a0_0) := (blk_cell BK101.out 0).trans rfl
          have hcz41_1 : wc.cell? ⟨gb101, 1, none⟩ = some (.slice A0_1 l0_1.length c0_1) := (blk_cell BK101.out 1).trans rfl
          have hcz41_2 : wc.cell? ⟨gb101, 2, none⟩ = some (.int .i64 a0_2) := (blk_cell BK101.out 2).trans rfl
          have hcz41_3 : wc.cell? ⟨gb101, 3, none⟩ = some (.int .i64 a0_3) := (blk_cell BK101.out 3).trans rfl
          have hfz41_0 := blk_frozen BK101.out 0
          have hfz41_1 := blk_frozen BK101.out 1
          have hfz41_2 := blk_frozen BK101.out 2
          have hfz41_3 := blk_frozen BK101.out 3
          go_upto_region 11 with (first | ((with_reducible refine gate_callee (f := 32) rfl ?_); refine goesL_ (some 58) rfl rfl Try.func32 (by kernel_rfl) rfl #[.agg #[.int .i64 a0_0, .slice A0_1 l0_1.length c0_1, .int .i64 a0_2, .int .i64 a0_3], .slice A1 l1.length c1, .bool a2] rfl (by (try simp only [List.map_toArray, List.map_cons, List.map_nil]); first | done | rfl | (simp only [List.length_drop, List.length_take]; rfl)) ?_; (with_reducible refine (mooring_Top.calls a0_0 _ _ l0_1 a0_2 a0_3 _ _ l1 a2 t120 t121 t122 _ ?side1 ?side2 ?side3 ?side4 A36.out).mono ?_); (case side1 => repeat (first | exact (Kd.C_below HR0_1.out HB.out) | (with_reducible refine Kd.C_alloc ?_ _) | (with_reducible refine Kd.C_drewN ?_ _) | (with_reducible refine Kd.C_drew ?_))); (case side2 => exact HC0_1.out); (case side3 => repeat (first | exact (Kd.C_below HR1.out HB.out) | (with_reducible refine Kd.C_alloc ?_ _) | (with_reducible refine Kd.C_drewN ?_ _) | (with_reducible refine Kd.C_drew ?_))); (case side4 => exact HC1.out); rintro e w42 ⟨rfl, hb⟩; refine ⟨_, rfl, ?_⟩; have n0_ := Aside0.mk (blk_below (g := gb101) (o := .cells #[.int .i64 a0_0, .slice A0_1 l0_1.length c0_1, .int .i64 a0_2, .int .i64 a0_3] 37 (0, 0)) (by (with_reducible repeat (first | refine blk_drewN ?_ _ | refine blk_drew ?_ | refine blk_alloc ?_ _)); exact BK101.out) hb); have n1_ := Aside0.mk (below_step (by repeat (first | (with_reducible first | exact HB.out | apply below_alloc | apply pw_below_drewN | apply below_drew1 | refine below_set ?_ GE101.out) | exact HB.out)) hb); clear BK101; clear HB; have BK101 := n0_; have HB := n1_; clear n0_ n1_; (try clear hb); (try clear hb2); (try clear hk); (try clear hi)) | ((with_reducible refine gate_dst (N := 13) rfl ?_); refine box_event ?hg (N := 13) ?hd (cs := #[.int .i64 0, .int .i64 0]) (t := 57) ?hr ?_; (case hd => rfl); (case hg => rfl); (case hr => first | (go_simp; done) | (go_simp; rfl)); intro gb123 hg w43 hbox hb; have n0_ := Aside0.mk (blk_below (g := gb101) (o := .cells #[.int .i64 a0_0, .slice A0_1 l0_1.length c0_1, .int .i64 a0_2, .int .i64 a0_3] 37 (0, 0)) (by (with_reducible repeat (first | refine blk_drewN ?_ _ | refine blk_drew ?_ | refine blk_alloc ?_ _)); exact BK101.out) hb); have n1_ := Aside0.mk (below_step (by repeat (first | (with_reducible first | exact HB.out | apply below_alloc | apply pw_below_drewN | apply below_drew1 | refine below_set ?_ GE101.out) | exact HB.out)) hb); have n2_ := Aside0.mk (hbox); have n3_ := Aside0.mk ((by rw [hg]; exact (below_size (by repeat (first | (with_reducible first | exact HB.out | apply below_alloc | apply pw_below_drewN | apply below_drew1 | refine below_set ?_ GE101.out) | exact HB.out))) : w.heap.size ≤ gb123)); have n4_ := Aside0.mk ((by rw [hg]; exact (below_size (by repeat (first | (with_reducible first | exact HB.out | apply below_alloc | apply pw_below_drewN | apply below_drew1 | refine below_set ?_ GE101.out) | exact HB.out))) : w.heap.size ≤ gb123)); have n5_ := Aside0.mk ((by rw [hg]; exact Nat.ne_of_lt (blk_lt (g := gb101) (o := .cells #[.int .i64 a0_0, .slice A0_1 l0_1.length c0_1, .int .i64 a0_2, .int .i64 a0_3] 37 (0, 0)) (by (with_reducible repeat (first | refine blk_drewN ?_ _ | refine blk_drew ?_ | refine blk_alloc ?_ _)); exact BK101.out)) : gb101 ≠ gb123)); have n6_ := Aside0.mk ((by rw [hg]; exact Nat.ne_of_gt (blk_lt (g := gb101) (o := .cells #[.int .i64 a0_0, .slice A0_1 l0_1.length c0_1, .int .i64 a0_2, .int .i64 a0_3] 37 (0, 0)) (by (with_reducible repeat (first | refine blk_drewN ?_ _ | refine blk_drew ?_ | refine blk_alloc ?_ _)); exact BK101.out)) : gb123 ≠ gb101)); clear BK101; clear HB; have BK101 := n0_; have HB := n1_; have BK123 := n2_; have GW123 := n3_; have GE123 := n4_; have NB101_123 := n5_; have NB123_101 := n6_; clear n0_ n1_ n2_ n3_ n4_ n5_ n6_; clear hb hbox hg; have hnb44 := NB123_101.out; have hnc44 := NB101_123.out; have hcz45_0 : w43.cell? ⟨gb123, 0, none⟩ = some (.int .i64 0) := (blk_cell BK123.out 0).trans rfl; have hcz45_1 : w43.cell? ⟨gb123, 1, none⟩ = some (.int .i64 0) := (blk_cell BK123.out 1).trans rfl; have hfz45_0 := blk_frozen BK123.out 0; have hfz45_1 := blk_frozen BK123.out 1; have hcz46_0 : w43.cell? ⟨gb101, 0, none⟩ = some (.int .i64 a0_0) := (blk_cell BK101.out 0).trans rfl; have hcz46_1 : w43.cell? ⟨gb101, 1, none⟩ = some (.slice A0_1 l0_1.length c0_1) := (blk_cell BK101.out 1).trans rfl; have hcz46_2 : w43.cell? ⟨gb101, 2, none⟩ = some (.int .i64 a0_2) := (blk_cell BK101.out 2).trans rfl; have hcz46_3 : w43.cell? ⟨gb101, 3, none⟩ = some (.int .i64 a0_3) := (blk_cell BK101.out 3).trans rfl; have hfz46_0 := blk_frozen BK101.out 0; have hfz46_1 := blk_frozen BK101.out 1; have hfz46_2 := blk_frozen BK101.out 2; have hfz46_3 := blk_frozen BK101.out 3) | ((with_reducible refine gate_callee (f := 33) rfl ?_); refine goesL_ (some 65) rfl rfl Try.func33 (by kernel_rfl) rfl #[.agg #[.int .i64 a0_0, .slice A0_1 l0_1.length c0_1, .int .i64 a0_2, .int .i64 a0_3], .slice A1 l1.length c1, .bool a2] rfl (by (try simp only [List.map_toArray, List.map_cons, List.map_nil]); first | done | rfl | (simp only [List.length_drop, List.length_take]; rfl)) ?_; (with_reducible refine (isobathref02_Top.calls kj12 a0_0 _ _ l0_1 a0_2 a0_3 _ _ l1 a2 t124 t125 t126 _ ?side1 ?side2 ?side3 ?side4 A37.out).mono ?_); (case side1 => exact Kd.C_below HR0_1.out (by repeat (first | (with_reducible first | exact HB.out | apply below_alloc | apply pw_below_drewN | apply below_drew1 | refine below_set ?_ GE101.out | refine below_set ?_ GE123.out) | exact HB.out))); (case side2 => exact HC0_1.out); (case side3 => exact Kd.C_below HR1.out (by repeat (first | (with_reducible first | exact HB.out | apply below_alloc | apply pw_below_drewN | apply below_drew1 | refine below_set ?_ GE101.out | refine below_set ?_ GE123.out) | exact HB.out))); (case side4 => exact HC1.out); rintro e w47 ⟨rfl, hb⟩; refine ⟨_, rfl, ?_⟩; have n0_ := Aside0.mk (blk_below (g := gb101) (o := .cells #[.int .i64 a0_0, .slice A0_1 l0_1.length c0_1, .int .i64 a0_2, .int .i64 a0_3] 37 (0, 0)) (by (with_reducible repeat (first | refine blk_drewN ?_ _ | refine blk_drew ?_ | refine blk_alloc ?_ _)); refine blk_far ?_ NB101_123.out _; (with_reducible repeat (first | refine blk_drewN ?_ _ | refine blk_drew ?_ | refine blk_alloc ?_ _)); refine blk_far ?_ NB101_123.out _; (with_reducible repeat (first | refine blk_drewN ?_ _ | refine blk_drew ?_ | refine blk_alloc ?_ _)); exact BK101.out) hb); have n1_ := Aside0.mk (blk_below (g := gb123) (o := .cells #[.int .i64 t120, .int .i64 t121] 57 (0, 0)) (by (with_reducible repeat (first | refine blk_drewN ?_ _ | refine blk_drew ?_ | refine blk_alloc ?_ _)); refine blk_put (cs := #[.int .i64 t120, .int .i64 0]) ?_ 1 _ rfl; (with_reducible repeat (first | refine blk_drewN ?_ _ | refine blk_drew ?_ | refine blk_alloc ?_ _)); refine blk_put (cs := #[.int .i64 0, .int .i64 0]) ?_ 0 _ rfl; (with_reducible repeat (first | refine blk_drewN ?_ _ | refine blk_drew ?_ | refine blk_alloc ?_ _)); exact BK123.out) hb); have n2_ := Aside0.mk (below_step (by repeat (first | (with_reducible first | exact HB.out | apply below_alloc | apply pw_below_drewN | apply below_drew1 | refine below_set ?_ GE101.out | refine below_set ?_ GE123.out) | exact HB.out)) hb); clear BK101; clear BK123; clear HB; have BK101 := n0_; have BK123 := n1_; have HB := n2_; clear n0_ n1_ n2_; (try clear hb); (try clear hb2); (try clear hk); (try clear hi)) | ((with_reducible refine gate_dst (N := 14) rfl ?_); refine box_event ?hg (N := 14) ?hd (cs := #[.int .i64 0, .int .i64 0]) (t := 57) ?hr ?_; (case hd => rfl); (case hg => rfl); (case hr => first | (go_simp; done) | (go_simp; rfl)); intro gb127 hg w48 hbox hb; have n0_ := Aside0.mk (blk_below (g := gb101) (o := .cells #[.int .i64 a0_0, .slice A0_1 l0_1.length c0_1, .int .i64 a0_2, .int .i64 a0_3] 37 (0, 0)) (by (with_reducible repeat (first | refine blk_drewN ?_ _ | refine blk_drew ?_ | refine blk_alloc ?_ _)); exact BK101.out) hb); have n1_ := Aside0.mk (blk_below (g := gb123) (o := .cells #[.int .i64 t120, .int .i64 t121] 57 (0, 0)) (by (with_reducible repeat (first | refine blk_drewN ?_ _ | refine blk_drew ?_ | refine blk_alloc ?_ _)); exact BK123.out) hb); have n2_ := Aside0.mk (below_step (by repeat (first | (with_reducible first | exact HB.out | apply below_alloc | apply pw_below_drewN | apply below_drew1 | refine below_set ?_ GE101.out | refine below_set ?_ GE123.out) | exact HB.out)) hb); have n3_ := Aside0.mk (hbox); have n4_ := Aside0.mk ((by rw [hg]; exact (below_size (by repeat (first | (with_reducible first | exact HB.out | apply below_alloc | apply pw_below_drewN | apply below_drew1 | refine below_set ?_ GE101.out | refine below_set ?_ GE123.out) | exact HB.out))) : w.heap.size ≤ gb127)); have n5_ := Aside0.mk ((by rw [hg]; exact (below_size (by repeat (first | (with_reducible first | exact HB.out | apply below_alloc | apply pw_below_drewN | apply below_drew1 | refine below_set ?_ GE101.out | refine below_set ?_ GE123.out) | exact HB.out))) : w.heap.size ≤ gb127)); have n6_ := Aside0.mk ((by rw [hg]; exact Nat.ne_of_lt (blk_lt (g := gb101) (o := .cells #[.int .i64 a0_0, .slice A0_1 l0_1.length c0_1, .int .i64 a0_2, .int .i64 a0_3] 37 (0, 0)) (by (with_reducible repeat (first | refine blk_drewN ?_ _ | refine blk_drew ?_ | refine blk_alloc ?_ _)); exact BK101.out)) : gb101 ≠ gb127)); have n7_ := Aside0.mk ((by rw [hg]; exact Nat.ne_of_gt (blk_lt (g := gb101) (o := .cells #[.int .i64 a0_0, .slice A0_1 l0_1.length c0_1, .int .i64 a0_2, .int .i64 a0_3] 37 (0, 0)) (by (with_reducible repeat (first | refine blk_drewN ?_ _ | refine blk_drew ?_ | refine blk_alloc ?_ _)); exact BK101.out)) : gb127 ≠ gb101)); have n8_ := Aside0.mk ((by rw [hg]; exact Nat.ne_of_lt (blk_lt (g := gb123) (o := .cells #[.int .i64 t120, .int .i64 t121] 57 (0, 0)) (by (with_reducible repeat (first | refine blk_drewN ?_ _ | refine blk_drew ?_ | refine blk_alloc ?_ _)); exact BK123.out)) : gb123 ≠ gb127)); have n9_ := Aside0.mk ((by rw [hg]; exact Nat.ne_of_gt (blk_lt (g := gb123) (o := .cells #[.int .i64 t120, .int .i64 t121] 57 (0, 0)) (by (with_reducible repeat (first | refine blk_drewN ?_ _ | refine blk_drew ?_ | refine blk_alloc ?_ _)); exact BK123.out)) : gb127 ≠ gb123)); clear BK101; clear BK123; clear HB; have BK101 := n0_; have BK123 := n1_; have HB := n2_; have BK127 := n3_; have GW127 := n4_; have GE127 := n5_; have NB101_127 := n6_; have NB127_101 := n7_; have NB123_127 := n8_; have NB127_123 := n9_; clear n0_ n1_ n2_ n3_ n4_ n5_ n6_ n7_ n8_ n9_; clear hb hbox hg; have hnb49 := NB127_101.out; have hnc49 := NB101_127.out; have hnb50 := NB127_123.out; have hnc50 := NB123_127.out; have hcz51_0 : w48.cell? ⟨gb127, 0, none⟩ = some (.int .i64 0) := (blk_cell BK127.out 0).trans rfl; have hcz51_1 : w48.cell? ⟨gb127, 1, none⟩ = some (.int .i64 0) := (blk_cell BK127.out 1).trans rfl; have hfz51_0 := blk_frozen BK127.out 0; have hfz51_1 := blk_frozen BK127.out 1; have hcz52_0 : w48.cell? ⟨gb101, 0, none⟩ = some (.int .i64 a0_0) := (blk_cell BK101.out 0).trans rfl; have hcz52_1 : w48.cell? ⟨gb101, 1, none⟩ = some (.slice A0_1 l0_1.length c0_1) := (blk_cell BK101.out 1).trans rfl; have hcz52_2 : w48.cell? ⟨gb101, 2, none⟩ = some (.int .i64 a0_2) := (blk_cell BK101.out 2).trans rfl; have hcz52_3 : w48.cell? ⟨gb101, 3, none⟩ = some (.int .i64 a0_3) := (blk_cell BK101.out 3).trans rfl; have hfz52_0 := blk_frozen BK101.out 0; have hfz52_1 := blk_frozen BK101.out 1; have hfz52_2 := blk_frozen BK101.out 2; have hfz52_3 := blk_frozen BK101.out 3) | ((with_reducible refine gate_callee (f := 28) rfl ?_); refine goesL_ (some 72) rfl rfl Try.func28 (by kernel_rfl) rfl #[.agg #[.int .i64 a0_0, .slice A0_1 l0_1.length c0_1, .int .i64 a0_2, .int .i64 a0_3], .slice A1 l1.length c1, .bool a2] rfl (by (try simp only [List.map_toArray, List.map_cons, List.map_nil]); first | done | rfl | (simp only [List.length_drop, List.length_take]; rfl)) ?_; (with_reducible refine (mooring_Circle.calls a0_0 _ _ l0_1 a0_2 a0_3 _ _ l1 a2 t128 t129 _ ?side1 ?side2 ?side3 ?side4 A38.out).mono ?_); (case side1 => exact Kd.C_below HR0_1.out (by repeat (first | (with_reducible first | exact HB.out | apply below_alloc | apply pw_below_drewN | apply below_drew1 | refine below_set ?_ GE101.out | refine below_set ?_ GE123.out | refine below_set ?_ GE127.out) | exact HB.out))); (case side2 => exact HC0_1.out); (case side3 => exact Kd.C_below HR1.out (by repeat (first | (with_reducible first | exact HB.out | apply below_alloc | apply pw_below_drewN | apply below_drew1 | refine below_set ?_ GE101.out | refine below_set ?_ GE123.out | refine below_set ?_ GE127.out) | exact HB.out))); (case side4 => exact HC1.out); rintro e w53 ⟨rfl, hb⟩; refine ⟨_, rfl, ?_⟩; have n0_ := Aside0.mk (blk_below (g := gb101) (o := .cells #[.int .i64 a0_0, .slice A0_1 l0_1.length c0_1, .int .i64 a0_2, .int .i64 a0_3] 37 (0, 0)) (by (with_reducible repeat (first | refine blk_drewN ?_ _ | refine blk_drew ?_ | refine blk_alloc ?_ _)); refine blk_far ?_ NB101_127.out _; (with_reducible repeat (first | refine blk_drewN ?_ _ | refine blk_drew ?_ | refine blk_alloc ?_ _)); refine blk_far ?_ NB101_127.out _; (with_reducible repeat (first | refine blk_drewN ?_ _ | refine blk_drew ?_ | refine blk_alloc ?_ _)); exact BK101.out) hb); have n1_ := Aside0.mk (blk_below (g := gb123) (o := .cells #[.int .i64 t120, .int .i64 t121] 57 (0, 0)) (by (with_reducible repeat (first | refine blk_drewN ?_ _ | refine blk_drew ?_ | refine blk_alloc ?_ _)); refine blk_far ?_ NB123_127.out _; (with_reducible repeat (first | refine blk_drewN ?_ _ | refine blk_drew ?_ | refine blk_alloc ?_ _)); refine blk_far ?_ NB123_127.out _; (with_reducible repeat (first | refine blk_drewN ?_ _ | refine blk_drew ?_ | refine blk_alloc ?_ _)); exact BK123.out) hb); have n2_ := Aside0.mk (blk_below (g := gb127) (o := .cells #[.int .i64 t124, .int .i64 t125] 57 (0, 0)) (by (with_reducible repeat (first | refine blk_drewN ?_ _ | refine blk_drew ?_ | refine blk_alloc ?_ _)); refine blk_put (cs := #[.int .i64 t124, .int .i64 0]) ?_ 1 _ rfl; (with_reducible repeat (first | refine blk_drewN ?_ _ | refine blk_drew ?_ | refine blk_alloc ?_ _)); refine blk_put (cs := #[.int .i64 0, .int .i64 0]) ?_ 0 _ rfl; (with_reducible repeat (first | refine blk_drewN ?_ _ | refine blk_drew ?_ | refine blk_alloc ?_ _)); exact BK127.out) hb); have n3_ := Aside0.mk (below_step (by repeat (first | (with_reducible first | exact HB.out | apply below_alloc | apply pw_below_drewN | apply below_drew1 | refine below_set ?_ GE101.out | refine below_set ?_ GE123.out | refine below_set ?_ GE127.out) | exact HB.out)) hb); clear BK101; clear BK123; clear BK127; clear HB; have BK101 := n0_; have BK123 := n1_; have BK127 := n2_; have HB := n3_; clear n0_ n1_ n2_ n3_; (try clear hb); (try clear hb2); (try clear hk); (try clear hi); have hcz54_0 : w53.cell? ⟨gb101, 0, none⟩ = some (.int .i64 a0_0) := (blk_cell BK101.out 0).trans rfl; have hcz54_1 : w53.cell? ⟨gb101, 1, none⟩ = some (.slice A0_1 l0_1.length c0_1) := (blk_cell BK101.out 1).trans rfl; have hcz54_2 : w53.cell? ⟨gb101, 2, none⟩ = some (.int .i64 a0_2) := (blk_cell BK101.out 2).trans rfl; have hcz54_3 : w53.cell? ⟨gb101, 3, none⟩ = some (.int .i64 a0_3) := (blk_cell BK101.out 3).trans rfl; have hfz54_0 := blk_frozen BK101.out 0; have hfz54_1 := blk_frozen BK101.out 1; have hfz54_2 := blk_frozen BK101.out 2; have hfz54_3 := blk_frozen BK101.out 3) | ((with_reducible refine gate_callee (f := 34) rfl ?_); refine goesL_ (some 79) rfl rfl Try.func34 (by kernel_rfl) rfl #[.agg #[.int .i64 a0_0, .slice A0_1 l0_1.length c0_1, .int .i64 a0_2, .int .i64 a0_3], .slice A1 l1.length c1, .bool a2] rfl (by (try simp only [List.map_toArray, List.map_cons, List.map_nil]); first | done | rfl | (simp only [List.length_drop, List.length_take]; rfl)) ?_; (with_reducible refine (isobathref02_Circle.calls kj12 a0_0 _ _ l0_1 a0_2 a0_3 _ _ l1 a2 t130 t131 _ ?side1 ?side2 ?side3 ?side4 A39.out).mono ?_); (case side1 => repeat (first | exact (Kd.C_below HR0_1.out HB.out) | (with_reducible refine Kd.C_alloc ?_ _) | (with_reducible refine Kd.C_drewN ?_ _) | (with_reducible refine Kd.C_drew ?_))); (case side2 => exact HC0_1.out); (case side3 => repeat (first | exact (Kd.C_below HR1.out HB.out) | (with_reducible refine Kd.C_alloc ?_ _) | (with_reducible refine Kd.C_drewN ?_ _) | (with_reducible refine Kd.C_drew ?_))); (case side4 => exact HC1.out); rintro e w55 ⟨rfl, hb⟩; refine ⟨_, rfl, ?_⟩; have n0_ := Aside0.mk (blk_below (g := gb101) (o := .cells #[.int .i64 a0_0, .slice A0_1 l0_1.length c0_1, .int .i64 a0_2, .int .i64 a0_3] 37 (0, 0)) (by (with_reducible repeat (first | refine blk_drewN ?_ _ | refine blk_drew ?_ | refine blk_alloc ?_ _)); exact BK101.out) hb); have n1_ := Aside0.mk (blk_below (g := gb123) (o := .cells #[.int .i64 t120, .int .i64 t121] 57 (0, 0)) (by (with_reducible repeat (first | refine blk_drewN ?_ _ | refine blk_drew ?_ | refine blk_alloc ?_ _)); exact BK123.out) hb); have n2_ := Aside0.mk (blk_below (g := gb127) (o := .cells #[.int .i64 t124, .int .i64 t125] 57 (0, 0)) (by (with_reducible repeat (first | refine blk_drewN ?_ _ | refine blk_drew ?_ | refine blk_alloc ?_ _)); exact BK127.out) hb); have n3_ := Aside0.mk (below_step (by repeat (first | (with_reducible first | exact HB.out | apply below_alloc | apply pw_below_drewN | apply below_drew1 | refine below_set ?_ GE101.out | refine below_set ?_ GE123.out | refine below_set ?_ GE127.out) | exact HB.out)) hb); clear BK101; clear BK123; clear BK127; clear HB; have BK101 := n0_; have BK123 := n1_; have BK127 := n2_; have HB := n3_; clear n0_ n1_ n2_ n3_; (try clear hb); (try clear hb2); (try clear hk); (try clear hi)))
          (try simp only [Act.put, List.setIfInBounds_toArray, List.set_cons_zero, List.set_cons_succ])
          go_cut [99] (fun v99 wc => ∃ (kq : Nat) (x99_39 : Bool), v99 = .bool x99_39 ∧ Aside0 (isobathlaw02_MooringShapes.j1 kq l1 a2 x99_39 a0_0 l0_1 a0_2 a0_3 = some r) ∧ Aside0 (kq ≤ kj12) ∧ Aside0 (wc.heap[gb101]? = some (.cells #[.int .i64 a0_0, (.slice A0_1 l0_1.length c0_1), .int .i64 a0_2, .int .i64 a0_3] 37 (0, 0))) ∧ Aside0 (wc.heap[gb123]? = some (.cells #[.int .i64 t120, .int .i64 t121] 57 (0, 0))) ∧ Aside0 (wc.heap[gb127]? = some (.cells #[.int .i64 t124, .int .i64 t125] 57 (0, 0))) ∧ Aside0 (Below w.heap.size w wc))
          case first =>
            have H := HC40.out
            clear HC40
            by_cases c56 : (!(t120 == t124) || (!(t121 == t125))) = true
            · rw [if_pos c56] at H
              have c56b0 : (!(t120 == t124) || (!(t121 == t125))) = true := c56
              clear c56
              (first | rw [c56b0] | (simp only [i64_w, i32_w]; rw [c56b0]) | skip)
              have H' := Aside0.mk H
              clear H
              have hnb57 := NB123_101.out
              have hnc57 := NB101_123.out
              have hnb58 := NB123_127.out
              have hnc58 := NB127_123.out
              have hcz59_0 : w55.cell? ⟨gb123, 0, none⟩ = some (.int .i64 t120) := (blk_cell BK123.out 0).trans rfl
              have hcz59_1 : w55.cell? ⟨gb123, 1, none⟩ = some (.int .i64 t121) := (blk_cell BK123.out 1).trans rfl
              have hfz59_0 := blk_frozen BK123.out 0
              have hfz59_1 := blk_frozen BK123.out 1
              have hnb60 := NB127_101.out
              have hnc60 := NB101_127.out
              have hcz61_0 : w55.cell? ⟨gb127, 0, none⟩ = some (.int .i64 t124) := (blk_cell BK127.out 0).trans rfl
              have hcz61_1 : w55.cell? ⟨gb127, 1, none⟩ = some (.int .i64 t125) := (blk_cell BK127.out 1).trans rfl
              have hfz61_0 := blk_frozen BK127.out 0
              have hfz61_1 := blk_frozen BK127.out 1
              go_wp2
              go_meet
              case rel => exact ⟨_, (true), (by first | rfl | (simp; done) | (simp [*]; done)), H', ⟨by have := HJ12.out; first | omega | exact Nat.le_refl _⟩, ⟨by (with_reducible repeat (first | refine blk_drewN ?_ _ | refine blk_drew ?_ | refine blk_alloc ?_ _)); exact BK101.out⟩, ⟨by (with_reducible repeat (first | refine blk_drewN ?_ _ | refine blk_drew ?_ | refine blk_alloc ?_ _)); exact BK123.out⟩, ⟨by (with_reducible repeat (first | refine blk_drewN ?_ _ | refine blk_drew ?_ | refine blk_alloc ?_ _)); exact BK127.out⟩, ⟨by repeat (first | (with_reducible first | exact HB.out | apply below_alloc | apply pw_below_drewN | apply below_drew1 | refine below_set ?_ GE101.out | refine below_set ?_ GE123.out | refine below_set ?_ GE127.out) | exact HB.out)⟩⟩
            · rw [if_neg c56] at H
              have c56b0 : (!(t120 == t124) || (!(t121 == t125))) = false := by simpa using c56
              clear c56
              (first | rw [c56b0] | (simp only [i64_w, i32_w]; rw [c56b0]) | skip)
              by_cases c62 : t122 = t126
              · rw [if_pos c62] at H
                have c62b0 : (t122 == t126) = true := beq_iff_eq.mpr c62
                have c62b1 : (t122 != t126) = false := bne_eq_false_iff_eq.mpr c62
                clear c62
                by_cases c63 : t128 = t130
                · rw [if_pos c63] at H
                  have c63b0 : (t128 == t130) = true := beq_iff_eq.mpr c63
                  have c63b1 : (t128 != t130) = false := bne_eq_false_iff_eq.mpr c63
                  clear c63
                  have H' := Aside0.mk H
                  clear H
                  have hnb64 := NB123_101.out
                  have hnc64 := NB101_123.out
                  have hnb65 := NB123_127.out
                  have hnc65 := NB127_123.out
                  have hcz66_0 : w55.cell? ⟨gb123, 0, none⟩ = some (.int .i64 t120) := (blk_cell BK123.out 0).trans rfl
                  have hcz66_1 : w55.cell? ⟨gb123, 1, none⟩ = some (.int .i64 t121) := (blk_cell BK123.out 1).trans rfl
                  have hfz66_0 := blk_frozen BK123.out 0
                  have hfz66_1 := blk_frozen BK123.out 1
                  have hnb67 := NB127_101.out
                  have hnc67 := NB101_127.out
                  have hcz68_0 : w55.cell? ⟨gb127, 0, none⟩ = some (.int .i64 t124) := (blk_cell BK127.out 0).trans rfl
                  have hcz68_1 : w55.cell? ⟨gb127, 1, none⟩ = some (.int .i64 t125) := (blk_cell BK127.out 1).trans rfl
                  have hfz68_0 := blk_frozen BK127.out 0
                  have hfz68_1 := blk_frozen BK127.out 1
                  go_wp2
                  go_meet
                  case rel => exact ⟨_, ((t129 != t131)), (by first | rfl | (simp; done) | (simp [*]; done)), H', ⟨by have := HJ12.out; first | omega | exact Nat.le_refl _⟩, ⟨by (with_reducible repeat (first | refine blk_drewN ?_ _ | refine blk_drew ?_ | refine blk_alloc ?_ _)); exact BK101.out⟩, ⟨by (with_reducible repeat (first | refine blk_drewN ?_ _ | refine blk_drew ?_ | refine blk_alloc ?_ _)); exact BK123.out⟩, ⟨by (with_reducible repeat (first | refine blk_drewN ?_ _ | refine blk_drew ?_ | refine blk_alloc ?_ _)); exact BK127.out⟩, ⟨by repeat (first | (with_reducible first | exact HB.out | apply below_alloc | apply pw_below_drewN | apply below_drew1 | refine below_set ?_ GE101.out | refine below_set ?_ GE123.out | refine below_set ?_ GE127.out) | exact HB.out)⟩⟩
                · rw [if_neg c63] at H
                  have c63b0 : (t128 == t130) = false := beq_eq_false_iff_ne.mpr c63
                  have c63b1 : (t128 != t130) = true := bne_iff_ne.mpr c63
                  have H' := Aside0.mk H
                  clear H
                  have hnb69 := NB123_101.out
                  have hnc69 := NB101_123.out
                  have hnb70 := NB123_127.out
                  have hnc70 := NB127_123.out
                  have hcz71_0 : w55.cell? ⟨gb123, 0, none⟩ = some (.int .i64 t120) := (blk_cell BK123.out 0).trans rfl
                  have hcz71_1 : w55.cell? ⟨gb123, 1, none⟩ = some (.int .i64 t121) := (blk_cell BK123.out 1).trans rfl
                  have hfz71_0 := blk_frozen BK123.out 0
                  have hfz71_1 := blk_frozen BK123.out 1
                  have hnb72 := NB127_101.out
                  have hnc72 := NB101_127.out
                  have hcz73_0 : w55.cell? ⟨gb127, 0, none⟩ = some (.int .i64 t124) := (blk_cell BK127.out 0).trans rfl
                  have hcz73_1 : w55.cell? ⟨gb127, 1, none⟩ = some (.int .i64 t125) := (blk_cell BK127.out 1).trans rfl
                  have hfz73_0 := blk_frozen BK127.out 0
                  have hfz73_1 := blk_frozen BK127.out 1
                  go_wp2
                  go_meet
                  case rel => exact ⟨_, (true), (by first | rfl | (simp; done) | (simp [*]; done)), H', ⟨by have := HJ12.out; first | omega | exact Nat.le_refl _⟩, ⟨by (with_reducible repeat (first | refine blk_drewN ?_ _ | refine blk_drew ?_ | refine blk_alloc ?_ _)); exact BK101.out⟩, ⟨by (with_reducible repeat (first | refine blk_drewN ?_ _ | refine blk_drew ?_ | refine blk_alloc ?_ _)); exact BK123.out⟩, ⟨by (with_reducible repeat (first | refine blk_drewN ?_ _ | refine blk_drew ?_ | refine blk_alloc ?_ _)); exact BK127.out⟩, ⟨by repeat (first | (with_reducible first | exact HB.out | apply below_alloc | apply pw_below_drewN | apply below_drew1 | refine below_set ?_ GE101.out | refine below_set ?_ GE123.out | refine below_set ?_ GE127.out) | exact HB.out)⟩⟩
              · rw [if_neg c62] at H
                have c62b0 : (t122 == t126) = false := beq_eq_false_iff_ne.mpr c62
                have c62b1 : (t122 != t126) = true := bne_iff_ne.mpr c62
                have H' := Aside0.mk H
                clear H
                have hnb74 := NB123_101.out
                have hnc74 := NB101_123.out
                have hnb75 := NB123_127.out
                have hnc75 := NB127_123.out
                have hcz76_0 : w55.cell? ⟨gb123, 0, none⟩ = some (.int .i64 t120) := (blk_cell BK123.out 0).trans rfl
                have hcz76_1 : w55.cell? ⟨gb123, 1, none⟩ = some (.int .i64 t121) := (blk_cell BK123.out 1).trans rfl
                have hfz76_0 := blk_frozen BK123.out 0
                have hfz76_1 := blk_frozen BK123.out 1
                have hnb77 := NB127_101.out
                have hnc77 := NB101_127.out
                have hcz78_0 : w55.cell? ⟨gb127, 0, none⟩ = some (.int .i64 t124) := (blk_cell BK127.out 0).trans rfl
                have hcz78_1 : w55.cell? ⟨gb127, 1, none⟩ = some (.int .i64 t125) := (blk_cell BK127.out 1).trans rfl
                have hfz78_0 := blk_frozen BK127.out 0
                have hfz78_1 := blk_frozen BK127.out 1
                go_wp2
                go_meet
                case rel => exact ⟨_, (true), (by first | rfl | (simp; done) | (simp [*]; done)), H', ⟨by have := HJ12.out; first | omega | exact Nat.le_refl _⟩, ⟨by (with_reducible repeat (first | refine blk_drewN ?_ _ | refine blk_drew ?_ | refine blk_alloc ?_ _)); exact BK101.out⟩, ⟨by (with_reducible repeat (first | refine blk_drewN ?_ _ | refine blk_drew ?_ | refine blk_alloc ?_ _)); exact BK123.out⟩, ⟨by (with_reducible repeat (first | refine blk_drewN ?_ _ | refine blk_drew ?_ | refine blk_alloc ?_ _)); exact BK127.out⟩, ⟨by repeat (first | (with_reducible first | exact HB.out | apply below_alloc | apply pw_below_drewN | apply below_drew1 | refine below_set ?_ GE101.out | refine below_set ?_ GE123.out | refine below_set ?_ GE127.out) | exact HB.out)⟩⟩
          case rest =>
            clear HC40
            try clear c1
            try clear c2
            try clear p2
            try clear c3
            try clear c4
            try clear c5
            try clear c6
            try clear c7
            try clear c14
            try clear c21
            try clear c22
            try clear c24
            try clear c27
            try clear c28
            try clear c30
            try clear c31
            try clear c32
            try clear c33
            try clear c34
            try clear c35
            try clear c44
            try clear c49
            try clear c50
            try clear c56
            try clear c56b0
            try clear c57
            try clear c58
            try clear c60
            try clear c62
            try clear c62b0
            try clear c62b1
            try clear c63
            try clear c63b0
            try clear c63b1
            try clear c64
            try clear c65
            try clear c67
            try clear c69
            try clear c70
            try clear c72
            try clear c74
            try clear c75
            try clear c77
            try clear hcz15_0
            try clear hcz15_1
            try clear hcz15_2
            try clear hcz15_3
            try clear hcz17_0
            try clear hcz17_1
            try clear hcz17_2
            try clear hcz17_3
            try clear hcz19_0
            try clear hcz19_1
            try clear hcz19_2
            try clear hcz19_3
            try clear hcz41_0
            try clear hcz41_1
            try clear hcz41_2
            try clear hcz41_3
            try clear hcz45_0
            try clear hcz45_1
            try clear hcz46_0
            try clear hcz46_1
            try clear hcz46_2
            try clear hcz46_3
            try clear hcz51_0
            try clear hcz51_1
            try clear hcz52_0
            try clear hcz52_1
            try clear hcz52_2
            try clear hcz52_3
            try clear hcz54_0
            try clear hcz54_1
            try clear hcz54_2
            try clear hcz54_3
            try clear hcz59_0
            try clear hcz59_1
            try clear hcz61_0
            try clear hcz61_1
            try clear hcz66_0
            try clear hcz66_1
            try clear hcz68_0
            try clear hcz68_1
            try clear hcz71_0
            try clear hcz71_1
            try clear hcz73_0
            try clear hcz73_1
            try clear hcz76_0
            try clear hcz76_1
            try clear hcz78_0
            try clear hcz78_1
            try clear hcz8_0
            try clear hcz8_1
            try clear hcz8_2
            try clear hcz8_3
            try clear hfz15_0
            try clear hfz15_1
            try clear hfz15_2
            try clear hfz15_3
            try clear hfz17_0
            try clear hfz17_1
            try clear hfz17_2
            try clear hfz17_3
            try clear hfz19_0
            try clear hfz19_1
            try clear hfz19_2
            try clear hfz19_3
            try clear hfz41_0
            try clear hfz41_1
            try clear hfz41_2
            try clear hfz41_3
            try clear hfz45_0
            try clear hfz45_1
            try clear hfz46_0
            try clear hfz46_1
            try clear hfz46_2
            try clear hfz46_3
            try clear hfz51_0
            try clear hfz51_1
            try clear hfz52_0
            try clear hfz52_1
            try clear hfz52_2
            try clear hfz52_3
            try clear hfz54_0
            try clear hfz54_1
            try clear hfz54_2
            try clear hfz54_3
            try clear hfz59_0
            try clear hfz59_1
            try clear hfz61_0
            try clear hfz61_1
            try clear hfz66_0
            try clear hfz66_1
            try clear hfz68_0
            try clear hfz68_1
            try clear hfz71_0
            try clear hfz71_1
            try clear hfz73_0
            try clear hfz73_1
            try clear hfz76_0
            try clear hfz76_1
            try clear hfz78_0
            try clear hfz78_1
            try clear hfz8_0
            try clear hfz8_1
            try clear hfz8_2
            try clear hfz8_3
            try clear p2
            obtain ⟨kq, x99_39, rfl, HA, HJ39, BK101, BK123, BK127, HB⟩ := hcut
            cases kq with
            | zero => exact absurd HA.out (by simp [isobathlaw02_MooringShapes.j1])
            | succ kj39 =>
              have H := HA.out
              clear HA
              simp only [isobathlaw02_MooringShapes.j1] at H
              by_cases c79 : x99_39 = true
              · subst c79
                have H1 : (some false) = some r := by rw [if_pos rfl] at H; exact H
                clear H
                have H := H1
                clear H1
                obtain rfl := Option.some.inj H
                go_wp2
                go_ret
                exact ⟨by first | rfl | (simp [errW_none, errW_some] <;> rfl) | (simp [*, errW_none, errW_some] <;> rfl), by repeat (first | (with_reducible first | exact HB.out | apply below_alloc | apply pw_below_drewN | apply below_drew1 | refine below_set ?_ GE101.out | refine below_set ?_ GE123.out | refine below_set ?_ GE127.out) | exact HB.out)⟩
              · replace c79 := Bool.eq_false_iff.mpr c79
                subst c79
                have H1 : ((mooring_Knock.f a0_0 l0_1 a0_2 a0_3 l1 a2).bind fun bt132 => ((isobathref02_Knock.f kj39 a0_0 l0_1 a0_2 a0_3 l1 a2).bind fun bt135 => (if (bt132.1 == bt135.1 && (bt132.2.1 == bt135.2.1)) = true then (if bt132.2.2 = bt135.2.2 then ((isobathlaw02_fine.f kj39).bind fun t138 => (some t138)) else (some false)) else (some false)))) = some r := by rw [if_neg (show ¬ (false = true) by decide)] at H; exact H
                clear H
                have H := H1
                clear H1
                replace H := Option.bind_eq_some_iff.mp H
                obtain ⟨⟨t132, t133, t134⟩, A800, H⟩ := H
                replace H : ((isobathref02_Knock.f kj39 a0_0 l0_1 a0_2 a0_3 l1 a2).bind fun bt135 => (if (t132 == bt135.1 && (t133 == bt135.2.1)) = true then (if t134 = bt135.2.2 then ((isobathlaw02_fine.f kj39).bind fun t138 => (some t138)) else (some false)) else (some false))) = some r := H
                have A80 := Aside0.mk A800
                clear A800
                replace H := Option.bind_eq_some_iff.mp H
                obtain ⟨⟨t135, t136, t137⟩, A810, H⟩ := H
                replace H : (if (t132 == t135 && (t133 == t136)) = true then (if t134 = t137 then ((isobathlaw02_fine.f kj39).bind fun t138 => (some t138)) else (some false)) else (some false)) = some r := H
                have A81 := Aside0.mk A810
                clear A810
                by_cases c82 : (t132 == t135 && (t133 == t136)) = true
                · rw [if_pos c82] at H
                  have c82b0 : (t132 == t135 && (t133 == t136)) = true := c82
                  (try (have c82b1 : decide (t132 = t135 && (t133 == t136)) = true := by simpa using c82))
                  (try (have c82b2 : (t132 == t135 && (t133 == t136)) = true := by simpa using c82))
                  clear c82
                  by_cases c83 : t134 = t137
                  · rw [if_pos c83] at H
                    have c83b0 : (t134 == t137) = true := beq_iff_eq.mpr c83
                    have c83b1 : (t134 != t137) = false := bne_eq_false_iff_eq.mpr c83
                    clear c83
                    replace H := Option.bind_eq_some_iff.mp H
                    obtain ⟨t138, A840, H⟩ := H
                    replace H : (some t138) = some r := H
                    have A84 := Aside0.mk A840
                    clear A840
                    obtain rfl := Option.some.inj H
                    have hnb85 := NB101_123.out
                    have hnc85 := NB123_101.out
                    have hnb86 := NB101_127.out
                    have hnc86 := NB127_101.out
                    have hcz87_0 : wc.cell? ⟨gb101, 0, none⟩ = some (.int .i64 a0_0) := (blk_cell BK101.out 0).trans rfl
                    have hcz87_1 : wc.cell? ⟨gb101, 1, none⟩ = some (.slice A0_1 l0_1.length c0_1) := (blk_cell BK101.out 1).trans rfl
                    have hcz87_2 : wc.cell? ⟨gb101, 2, none⟩ = some (.int .i64 a0_2) := (blk_cell BK101.out 2).trans rfl
                    have hcz87_3 : wc.cell? ⟨gb101, 3, none⟩ = some (.int .i64 a0_3) := (blk_cell BK101.out 3).trans rfl
                    have hfz87_0 := blk_frozen BK101.out 0
                    have hfz87_1 := blk_frozen BK101.out 1
                    have hfz87_2 := blk_frozen BK101.out 2
                    have hfz87_3 := blk_frozen BK101.out 3
                    go_wp2_with (first | ((with_reducible refine gate_callee (f := 35) rfl ?_); refine goesL_ (some 104) rfl rfl Try.func35 (by kernel_rfl) rfl #[.agg #[.int .i64 a0_0, .slice A0_1 l0_1.length c0_1, .int .i64 a0_2, .int .i64 a0_3], .slice A1 l1.length c1, .bool a2] rfl (by (try simp only [List.map_toArray, List.map_cons, List.map_nil]); first | done | rfl | (simp only [List.length_drop, List.length_take]; rfl)) ?_; (with_reducible refine (mooring_Knock.calls a0_0 _ _ l0_1 a0_2 a0_3 _ _ l1 a2 t132 t133 t134 _ ?side1 ?side2 ?side3 ?side4 A80.out).mono ?_); (case side1 => repeat (first | exact (Kd.C_below HR0_1.out HB.out) | (with_reducible refine Kd.C_alloc ?_ _) | (with_reducible refine Kd.C_drewN ?_ _) | (with_reducible refine Kd.C_drew ?_))); (case side2 => exact HC0_1.out); (case side3 => repeat (first | exact (Kd.C_below HR1.out HB.out) | (with_reducible refine Kd.C_alloc ?_ _) | (with_reducible refine Kd.C_drewN ?_ _) | (with_reducible refine Kd.C_drew ?_))); (case side4 => exact HC1.out); rintro e w88 ⟨rfl, hb⟩; refine ⟨_, rfl, ?_⟩; have n0_ := Aside0.mk (blk_below (g := gb101) (o := .cells #[.int .i64 a0_0, .slice A0_1 l0_1.length c0_1, .int .i64 a0_2, .int .i64 a0_3] 37 (0, 0)) (by (with_reducible repeat (first | refine blk_drewN ?_ _ | refine blk_drew ?_ | refine blk_alloc ?_ _)); exact BK101.out) hb); have n1_ := Aside0.mk (blk_below (g := gb123) (o := .cells #[.int .i64 t120, .int .i64 t121] 57 (0, 0)) (by (with_reducible repeat (first | refine blk_drewN ?_ _ | refine blk_drew ?_ | refine blk_alloc ?_ _)); exact BK123.out) hb); have n2_ := Aside0.mk (blk_below (g := gb127) (o := .cells #[.int .i64 t124, .int .i64 t125] 57 (0, 0)) (by (with_reducible repeat (first | refine blk_drewN ?_ _ | refine blk_drew ?_ | refine blk_alloc ?_ _)); exact BK127.out) hb); have n3_ := Aside0.mk (below_step (by repeat (first | (with_reducible first | exact HB.out | apply below_alloc | apply pw_below_drewN | apply below_drew1 | refine below_set ?_ GE101.out | refine below_set ?_ GE123.out | refine below_set ?_ GE127.out) | exact HB.out)) hb); clear BK101; clear BK123; clear BK127; clear HB; have BK101 := n0_; have BK123 := n1_; have BK127 := n2_; have HB := n3_; clear n0_ n1_ n2_ n3_; (try clear hb); (try clear hb2); (try clear hk); (try clear hi); have hnb89 := NB123_127.out; have hnc89 := NB127_123.out; have hcz90_0 : w88.cell? ⟨gb123, 0, none⟩ = some (.int .i64 t120) := (blk_cell BK123.out 0).trans rfl; have hcz90_1 : w88.cell? ⟨gb123, 1, none⟩ = some (.int .i64 t121) := (blk_cell BK123.out 1).trans rfl; have hfz90_0 := blk_frozen BK123.out 0; have hfz90_1 := blk_frozen BK123.out 1; have hcz91_0 : w88.cell? ⟨gb101, 0, none⟩ = some (.int .i64 a0_0) := (blk_cell BK101.out 0).trans rfl; have hcz91_1 : w88.cell? ⟨gb101, 1, none⟩ = some (.slice A0_1 l0_1.length c0_1) := (blk_cell BK101.out 1).trans rfl; have hcz91_2 : w88.cell? ⟨gb101, 2, none⟩ = some (.int .i64 a0_2) := (blk_cell BK101.out 2).trans rfl; have hcz91_3 : w88.cell? ⟨gb101, 3, none⟩ = some (.int .i64 a0_3) := (blk_cell BK101.out 3).trans rfl; have hfz91_0 := blk_frozen BK101.out 0; have hfz91_1 := blk_frozen BK101.out 1; have hfz91_2 := blk_frozen BK101.out 2; have hfz91_3 := blk_frozen BK101.out 3) | ((with_reducible refine gate_callee (f := 36) rfl ?_); refine goesL_ (some 111) rfl rfl Try.func36 (by kernel_rfl) rfl #[.agg #[.int .i64 a0_0, .slice A0_1 l0_1.length c0_1, .int .i64 a0_2, .int .i64 a0_3], .slice A1 l1.length c1, .bool a2] rfl (by (try simp only [List.map_toArray, List.map_cons, List.map_nil]); first | done | rfl | (simp only [List.length_drop, List.length_take]; rfl)) ?_; (with_reducible refine (isobathref02_Knock.calls kj39 a0_0 _ _ l0_1 a0_2 a0_3 _ _ l1 a2 t135 t136 t137 _ ?side1 ?side2 ?side3 ?side4 A81.out).mono ?_); (case side1 => exact Kd.C_below HR0_1.out (by repeat (first | (with_reducible first | exact HB.out | apply below_alloc | apply pw_below_drewN | apply below_drew1 | refine below_set ?_ GE101.out | refine below_set ?_ GE123.out | refine below_set ?_ GE127.out) | exact HB.out))); (case side2 => exact HC0_1.out); (case side3 => exact Kd.C_below HR1.out (by repeat (first | (with_reducible first | exact HB.out | apply below_alloc | apply pw_below_drewN | apply below_drew1 | refine below_set ?_ GE101.out | refine below_set ?_ GE123.out | refine below_set ?_ GE127.out) | exact HB.out))); (case side4 => exact HC1.out); rintro e w92 ⟨rfl, hb⟩; refine ⟨_, rfl, ?_⟩; have n0_ := Aside0.mk (blk_below (g := gb101) (o := .cells #[.int .i64 a0_0, .slice A0_1 l0_1.length c0_1, .int .i64 a0_2, .int .i64 a0_3] 37 (0, 0)) (by (with_reducible repeat (first | refine blk_drewN ?_ _ | refine blk_drew ?_ | refine blk_alloc ?_ _)); refine blk_far ?_ NB101_123.out _; (with_reducible repeat (first | refine blk_drewN ?_ _ | refine blk_drew ?_ | refine blk_alloc ?_ _)); refine blk_far ?_ NB101_123.out _; (with_reducible repeat (first | refine blk_drewN ?_ _ | refine blk_drew ?_ | refine blk_alloc ?_ _)); exact BK101.out) hb); have n1_ := Aside0.mk (blk_below (g := gb123) (o := .cells #[.int .i64 t132, .int .i64 t133] 57 (0, 0)) (by (with_reducible repeat (first | refine blk_drewN ?_ _ | refine blk_drew ?_ | refine blk_alloc ?_ _)); refine blk_put (cs := #[.int .i64 t132, .int .i64 t121]) ?_ 1 _ rfl; (with_reducible repeat (first | refine blk_drewN ?_ _ | refine blk_drew ?_ | refine blk_alloc ?_ _)); refine blk_put (cs := #[.int .i64 t120, .int .i64 t121]) ?_ 0 _ rfl; (with_reducible repeat (first | refine blk_drewN ?_ _ | refine blk_drew ?_ | refine blk_alloc ?_ _)); exact BK123.out) hb); have n2_ := Aside0.mk (blk_below (g := gb127) (o := .cells #[.int .i64 t124, .int .i64 t125] 57 (0, 0)) (by (with_reducible repeat (first | refine blk_drewN ?_ _ | refine blk_drew ?_ | refine blk_alloc ?_ _)); refine blk_far ?_ NB127_123.out _; (with_reducible repeat (first | refine blk_drewN ?_ _ | refine blk_drew ?_ | refine blk_alloc ?_ _)); refine blk_far ?_ NB127_123.out _; (with_reducible repeat (first | refine blk_drewN ?_ _ | refine blk_drew ?_ | refine blk_alloc ?_ _)); exact BK127.out) hb); have n3_ := Aside0.mk (below_step (by repeat (first | (with_reducible first | exact HB.out | apply below_alloc | apply pw_below_drewN | apply below_drew1 | refine below_set ?_ GE101.out | refine below_set ?_ GE123.out | refine below_set ?_ GE127.out) | exact HB.out)) hb); clear BK101; clear BK123; clear BK127; clear HB; have BK101 := n0_; have BK123 := n1_; have BK127 := n2_; have HB := n3_; clear n0_ n1_ n2_ n3_; (try clear hb); (try clear hb2); (try clear hk); (try clear hi); have hcz93_0 : w92.cell? ⟨gb127, 0, none⟩ = some (.int .i64 t124) := (blk_cell BK127.out 0).trans rfl; have hcz93_1 : w92.cell? ⟨gb127, 1, none⟩ = some (.int .i64 t125) := (blk_cell BK127.out 1).trans rfl; have hfz93_0 := blk_frozen BK127.out 0; have hfz93_1 := blk_frozen BK127.out 1; have hcz94_0 : w92.cell? ⟨gb123, 0, none⟩ = some (.int .i64 t132) := (blk_cell BK123.out 0).trans rfl; have hcz94_1 : w92.cell? ⟨gb123, 1, none⟩ = some (.int .i64 t133) := (blk_cell BK123.out 1).trans rfl; have hfz94_0 := blk_frozen BK123.out 0; have hfz94_1 := blk_frozen BK123.out 1) | (go_at_call 14; (with_reducible refine (isobathlaw02_fine.calls kj39  t138 _ A84.out).mono ?_); rintro e w95 ⟨rfl, hb⟩; have n0_ := Aside0.mk (blk_below (g := gb101) (o := .cells #[.int .i64 a0_0, .slice A0_1 l0_1.length c0_1, .int .i64 a0_2, .int .i64 a0_3] 37 (0, 0)) (by (with_reducible repeat (first | refine blk_drewN ?_ _ | refine blk_drew ?_ | refine blk_alloc ?_ _)); refine blk_far ?_ NB101_127.out _; (with_reducible repeat (first | refine blk_drewN ?_ _ | refine blk_drew ?_ | refine blk_alloc ?_ _)); refine blk_far ?_ NB101_127.out _; (with_reducible repeat (first | refine blk_drewN ?_ _ | refine blk_drew ?_ | refine blk_alloc ?_ _)); exact BK101.out) hb); have n1_ := Aside0.mk (blk_below (g := gb123) (o := .cells #[.int .i64 t132, .int .i64 t133] 57 (0, 0)) (by (with_reducible repeat (first | refine blk_drewN ?_ _ | refine blk_drew ?_ | refine blk_alloc ?_ _)); refine blk_far ?_ NB123_127.out _; (with_reducible repeat (first | refine blk_drewN ?_ _ | refine blk_drew ?_ | refine blk_alloc ?_ _)); refine blk_far ?_ NB123_127.out _; (with_reducible repeat (first | refine blk_drewN ?_ _ | refine blk_drew ?_ | refine blk_alloc ?_ _)); exact BK123.out) hb); have n2_ := Aside0.mk (blk_below (g := gb127) (o := .cells #[.int .i64 t135, .int .i64 t136] 57 (0, 0)) (by (with_reducible repeat (first | refine blk_drewN ?_ _ | refine blk_drew ?_ | refine blk_alloc ?_ _)); refine blk_put (cs := #[.int .i64 t135, .int .i64 t125]) ?_ 1 _ rfl; (with_reducible repeat (first | refine blk_drewN ?_ _ | refine blk_drew ?_ | refine blk_alloc ?_ _)); refine blk_put (cs := #[.int .i64 t124, .int .i64 t125]) ?_ 0 _ rfl; (with_reducible repeat (first | refine blk_drewN ?_ _ | refine blk_drew ?_ | refine blk_alloc ?_ _)); exact BK127.out) hb); have n3_ := Aside0.mk (below_step (by repeat (first | (with_reducible first | exact HB.out | apply below_alloc | apply pw_below_drewN | apply below_drew1 | refine below_set ?_ GE101.out | refine below_set ?_ GE123.out | refine below_set ?_ GE127.out) | exact HB.out)) hb); clear BK101; clear BK123; clear BK127; clear HB; have BK101 := n0_; have BK123 := n1_; have BK127 := n2_; have HB := n3_; clear n0_ n1_ n2_ n3_; (try clear hb); (try clear hb2); (try clear hk); (try clear hi)))
                    go_ret
                    exact ⟨by first | rfl | (simp [errW_none, errW_some] <;> rfl) | (simp [*, errW_none, errW_some] <;> rfl), by repeat (first | (with_reducible first | exact HB.out | apply below_alloc | apply pw_below_drewN | apply below_drew1 | refine below_set ?_ GE101.out | refine below_set ?_ GE123.out | refine below_set ?_ GE127.out) | exact HB.out)⟩
                  · rw [if_neg c83] at H
                    have c83b0 : (t134 == t137) = false := beq_eq_false_iff_ne.mpr c83
                    have c83b1 : (t134 != t137) = true := bne_iff_ne.mpr c83
                    obtain rfl := Option.some.inj H
                    have hnb96 := NB101_123.out
                    have hnc96 := NB123_101.out
                    have hnb97 := NB101_127.out
                    have hnc97 := NB127_101.out
                    have hcz98_0 : wc.cell? ⟨gb101, 0, none⟩ = some (.int .i64 a0_0) := (blk_cell BK101.out 0).trans rfl
                    have hcz98_1 : wc.cell? ⟨gb101, 1, none⟩ = some (.slice A0_1 l0_1.length c0_1) := (blk_cell BK101.out 1).trans rfl
                    have hcz98_2 : wc.cell? ⟨gb101, 2, none⟩ = some (.int .i64 a0_2) := (blk_cell BK101.out 2).trans rfl
                    have hcz98_3 : wc.cell? ⟨gb101, 3, none⟩ = some (.int .i64 a0_3) := (blk_cell BK101.out 3).trans rfl
                    have hfz98_0 := blk_frozen BK101.out 0
                    have hfz98_1 := blk_frozen BK101.out 1
                    have hfz98_2 := blk_frozen BK101.out 2
                    have hfz98_3 := blk_frozen BK101.out 3
                    go_wp2_with (first | ((with_reducible refine gate_callee (f := 35) rfl ?_); refine goesL_ (some 104) rfl rfl Try.func35 (by kernel_rfl) rfl #[.agg #[.int .i64 a0_0, .slice A0_1 l0_1.length c0_1, .int .i64 a0_2, .int .i64 a0_3], .slice A1 l1.length c1, .bool a2] rfl (by (try simp only [List.map_toArray, List.map_cons, List.map_nil]); first | done | rfl | (simp only [List.length_drop, List.length_take]; rfl)) ?_; (with_reducible refine (mooring_Knock.calls a0_0 _ _ l0_1 a0_2 a0_3 _ _ l1 a2 t132 t133 t134 _ ?side1 ?side2 ?side3 ?side4 A80.out).mono ?_); (case side1 => repeat (first | exact (Kd.C_below HR0_1.out HB.out) | (with_reducible refine Kd.C_alloc ?_ _) | (with_reducible refine Kd.C_drewN ?_ _) | (with_reducible refine Kd.C_drew ?_))); (case side2 => exact HC0_1.out); (case side3 => repeat (first | exact (Kd.C_below HR1.out HB.out) | (with_reducible refine Kd.C_alloc ?_ _) | (with_reducible refine Kd.C_drewN ?_ _) | (with_reducible refine Kd.C_drew ?_))); (case side4 => exact HC1.out); rintro e w99 ⟨rfl, hb⟩; refine ⟨_, rfl, ?_⟩; have n0_ := Aside0.mk (blk_below (g := gb101) (o := .cells #[.int .i64 a0_0, .slice A0_1 l0_1.length c0_1, .int .i64 a0_2, .int .i64 a0_3] 37 (0, 0)) (by (with_reducible repeat (first | refine blk_drewN ?_ _ | refine blk_drew ?_ | refine blk_alloc ?_ _)); exact BK101.out) hb); have n1_ := Aside0.mk (blk_below (g := gb123) (o := .cells #[.int .i64 t120, .int .i64 t121] 57 (0, 0)) (by (with_reducible repeat (first | refine blk_drewN ?_ _ | refine blk_drew ?_ | refine blk_alloc ?_ _)); exact BK123.out) hb); have n2_ := Aside0.mk (blk_below (g := gb127) (o := .cells #[.int .i64 t124, .int .i64 t125] 57 (0, 0)) (by (with_reducible repeat (first | refine blk_drewN ?_ _ | refine blk_drew ?_ | refine blk_alloc ?_ _)); exact BK127.out) hb); have n3_ := Aside0.mk (below_step (by repeat (first | (with_reducible first | exact HB.out | apply below_alloc | apply pw_below_drewN | apply below_drew1 | refine below_set ?_ GE101.out | refine below_set ?_ GE123.out | refine below_set ?_ GE127.out) | exact HB.out)) hb); clear BK101; clear BK123; clear BK127; clear HB; have BK101 := n0_; have BK123 := n1_; have BK127 := n2_; have HB := n3_; clear n0_ n1_ n2_ n3_; (try clear hb); (try clear hb2); (try clear hk); (try clear hi); have hnb100 := NB123_127.out; have hnc100 := NB127_123.out; have hcz101_0 : w99.cell? ⟨gb123, 0, none⟩ = some (.int .i64 t120) := (blk_cell BK123.out 0).trans rfl; have hcz101_1 : w99.cell? ⟨gb123, 1, none⟩ = some (.int .i64 t121) := (blk_cell BK123.out 1).trans rfl; have hfz101_0 := blk_frozen BK123.out 0; have hfz101_1 := blk_frozen BK123.out 1; have hcz102_0 : w99.cell? ⟨gb101, 0, none⟩ = some (.int .i64 a0_0) := (blk_cell BK101.out 0).trans rfl; have hcz102_1 : w99.cell? ⟨gb101, 1, none⟩ = some (.slice A0_1 l0_1.length c0_1) := (blk_cell BK101.out 1).trans rfl; have hcz102_2 : w99.cell? ⟨gb101, 2, none⟩ = some (.int .i64 a0_2) := (blk_cell BK101.out 2).trans rfl; have hcz102_3 : w99.cell? ⟨gb101, 3, none⟩ = some (.int .i64 a0_3) := (blk_cell BK101.out 3).trans rfl; have hfz102_0 := blk_frozen BK101.out 0; have hfz102_1 := blk_frozen BK101.out 1; have hfz102_2 := blk_frozen BK101.out 2; have hfz102_3 := blk_frozen BK101.out 3) | ((with_reducible refine gate_callee (f := 36) rfl ?_); refine goesL_ (some 111) rfl rfl Try.func36 (by kernel_rfl) rfl #[.agg #[.int .i64 a0_0, .slice A0_1 l0_1.length c0_1, .int .i64 a0_2, .int .i64 a0_3], .slice A1 l1.length c1, .bool a2] rfl (by (try simp only [List.map_toArray, List.map_cons, List.map_nil]); first | done | rfl | (simp only [List.length_drop, List.length_take]; rfl)) ?_; (with_reducible refine (isobathref02_Knock.calls kj39 a0_0 _ _ l0_1 a0_2 a0_3 _ _ l1 a2 t135 t136 t137 _ ?side1 ?side2 ?side3 ?side4 A81.out).mono ?_); (case side1 => exact Kd.C_below HR0_1.out (by repeat (first | (with_reducible first | exact HB.out | apply below_alloc | apply pw_below_drewN | apply below_drew1 | refine below_set ?_ GE101.out | refine below_set ?_ GE123.out | refine below_set ?_ GE127.out) | exact HB.out))); (case side2 => exact HC0_1.out); (case side3 => exact Kd.C_below HR1.out (by repeat (first | (with_reducible first | exact HB.out | apply below_alloc | apply pw_below_drewN | apply below_drew1 | refine below_set ?_ GE101.out | refine below_set ?_ GE123.out | refine below_set ?_ GE127.out) | exact HB.out))); (case side4 => exact HC1.out); rintro e w103 ⟨rfl, hb⟩; refine ⟨_, rfl, ?_⟩; have n0_ := Aside0.mk (blk_below (g := gb101) (o := .cells #[.int .i64 a0_0, .slice A0_1 l0_1.length c0_1, .int .i64 a0_2, .int .i64 a0_3] 37 (0, 0)) (by (with_reducible repeat (first | refine blk_drewN ?_ _ | refine blk_drew ?_ | refine blk_alloc ?_ _)); refine blk_far ?_ NB101_123.out _; (with_reducible repeat (first | refine blk_drewN ?_ _ | refine blk_drew ?_ | refine blk_alloc ?_ _)); refine blk_far ?_ NB101_123.out _; (with_reducible repeat (first | refine blk_drewN ?_ _ | refine blk_drew ?_ | refine blk_alloc ?_ _)); exact BK101.out) hb); have n1_ := Aside0.mk (blk_below (g := gb123) (o := .cells #[.int .i64 t132, .int .i64 t133] 57 (0, 0)) (by (with_reducible repeat (first | refine blk_drewN ?_ _ | refine blk_drew ?_ | refine blk_alloc ?_ _)); refine blk_put (cs := #[.int .i64 t132, .int .i64 t121]) ?_ 1 _ rfl; (with_reducible repeat (first | refine blk_drewN ?_ _ | refine blk_drew ?_ | refine blk_alloc ?_ _)); refine blk_put (cs := #[.int .i64 t120, .int .i64 t121]) ?_ 0 _ rfl; (with_reducible repeat (first | refine blk_drewN ?_ _ | refine blk_drew ?_ | refine blk_alloc ?_ _)); exact BK123.out) hb); have n2_ := Aside0.mk (blk_below (g := gb127) (o := .cells #[.int .i64 t124, .int .i64 t125] 57 (0, 0)) (by (with_reducible repeat (first | refine blk_drewN ?_ _ | refine blk_drew ?_ | refine blk_alloc ?_ _)); refine blk_far ?_ NB127_123.out _; (with_reducible repeat (first | refine blk_drewN ?_ _ | refine blk_drew ?_ | refine blk_alloc ?_ _)); refine blk_far ?_ NB127_123.out _; (with_reducible repeat (first | refine blk_drewN ?_ _ | refine blk_drew ?_ | refine blk_alloc ?_ _)); exact BK127.out) hb); have n3_ := Aside0.mk (below_step (by repeat (first | (with_reducible first | exact HB.out | apply below_alloc | apply pw_below_drewN | apply below_drew1 | refine below_set ?_ GE101.out | refine below_set ?_ GE123.out | refine below_set ?_ GE127.out) | exact HB.out)) hb); clear BK101; clear BK123; clear BK127; clear HB; have BK101 := n0_; have BK123 := n1_; have BK127 := n2_; have HB := n3_; clear n0_ n1_ n2_ n3_; (try clear hb); (try clear hb2); (try clear hk); (try clear hi); have hcz104_0 : w103.cell? ⟨gb127, 0, none⟩ = some (.int .i64 t124) := (blk_cell BK127.out 0).trans rfl; have hcz104_1 : w103.cell? ⟨gb127, 1, none⟩ = some (.int .i64 t125) := (blk_cell BK127.out 1).trans rfl; have hfz104_0 := blk_frozen BK127.out 0; have hfz104_1 := blk_frozen BK127.out 1; have hcz105_0 : w103.cell? ⟨gb123, 0, none⟩ = some (.int .i64 t132) := (blk_cell BK123.out 0).trans rfl; have hcz105_1 : w103.cell? ⟨gb123, 1, none⟩ = some (.int .i64 t133) := (blk_cell BK123.out 1).trans rfl; have hfz105_0 := blk_frozen BK123.out 0; have hfz105_1 := blk_frozen BK123.out 1))
                    go_ret
                    exact ⟨by first | rfl | (simp [errW_none, errW_some] <;> rfl) | (simp [*, errW_none, errW_some] <;> rfl), by repeat (first | (with_reducible first | exact HB.out | apply below_alloc | apply pw_below_drewN | apply below_drew1 | refine below_set ?_ GE101.out | refine below_set ?_ GE123.out | refine below_set ?_ GE127.out) | exact HB.out)⟩
                · rw [if_neg c82] at H
                  have c82b0 : (t132 == t135 && (t133 == t136)) = false := by simpa using c82
                  (try (have c82b1 : decide (t132 = t135 && (t133 == t136)) = false := by simpa using c82))
                  (try (have c82b2 : (t132 == t135 && (t133 == t136)) = false := by simpa using c82))
                  (try (have c82b3 : ¬ (t132 = t135 && (t133 == t136)) := by simpa using c82))
                  clear c82
                  obtain rfl := Option.some.inj H
                  have hnb106 := NB101_123.out
                  have hnc106 := NB123_101.out
                  have hnb107 := NB101_127.out
                  have hnc107 := NB127_101.out
                  have hcz108_0 : wc.cell? ⟨gb101, 0, none⟩ = some (.int .i64 a0_0) := (blk_cell BK101.out 0).trans rfl
                  have hcz108_1 : wc.cell? ⟨gb101, 1, none⟩ = some (.slice A0_1 l0_1.length c0_1) := (blk_cell BK101.out 1).trans rfl
                  have hcz108_2 : wc.cell? ⟨gb101, 2, none⟩ = some (.int .i64 a0_2) := (blk_cell BK101.out 2).trans rfl
                  have hcz108_3 : wc.cell? ⟨gb101, 3, none⟩ = some (.int .i64 a0_3) := (blk_cell BK101.out 3).trans rfl
                  have hfz108_0 := blk_frozen BK101.out 0
                  have hfz108_1 := blk_frozen BK101.out 1
                  have hfz108_2 := blk_frozen BK101.out 2
                  have hfz108_3 := blk_frozen BK101.out 3
                  go_wp2_with (first | ((with_reducible refine gate_callee (f := 35) rfl ?_); refine goesL_ (some 104) rfl rfl Try.func35 (by kernel_rfl) rfl #[.agg #[.int .i64 a0_0, .slice A0_1 l0_1.length c0_1, .int .i64 a0_2, .int .i64 a0_3], .slice A1 l1.length c1, .bool a2] rfl (by (try simp only [List.map_toArray, List.map_cons, List.map_nil]); first | done | rfl | (simp only [List.length_drop, List.length_take]; rfl)) ?_; (with_reducible refine (mooring_Knock.calls a0_0 _ _ l0_1 a0_2 a0_3 _ _ l1 a2 t132 t133 t134 _ ?side1 ?side2 ?side3 ?side4 A80.out).mono ?_); (case side1 => repeat (first | exact (Kd.C_below HR0_1.out HB.out) | (with_reducible refine Kd.C_alloc ?_ _) | (with_reducible refine Kd.C_drewN ?_ _) | (with_reducible refine Kd.C_drew ?_))); (case side2 => exact HC0_1.out); (case side3 => repeat (first | exact (Kd.C_below HR1.out HB.out) | (with_reducible refine Kd.C_alloc ?_ _) | (with_reducible refine Kd.C_drewN ?_ _) | (with_reducible refine Kd.C_drew ?_))); (case side4 => exact HC1.out); rintro e w109 ⟨rfl, hb⟩; refine ⟨_, rfl, ?_⟩; have n0_ := Aside0.mk (blk_below (g := gb101) (o := .cells #[.int .i64 a0_0, .slice A0_1 l0_1.length c0_1, .int .i64 a0_2, .int .i64 a0_3] 37 (0, 0)) (by (with_reducible repeat (first | refine blk_drewN ?_ _ | refine blk_drew ?_ | refine blk_alloc ?_ _)); exact BK101.out) hb); have n1_ := Aside0.mk (blk_below (g := gb123) (o := .cells #[.int .i64 t120, .int .i64 t121] 57 (0, 0)) (by (with_reducible repeat (first | refine blk_drewN ?_ _ | refine blk_drew ?_ | refine blk_alloc ?_ _)); exact BK123.out) hb); have n2_ := Aside0.mk (blk_below (g := gb127) (o := .cells #[.int .i64 t124, .int .i64 t125] 57 (0, 0)) (by (with_reducible repeat (first | refine blk_drewN ?_ _ | refine blk_drew ?_ | refine blk_alloc ?_ _)); exact BK127.out) hb); have n3_ := Aside0.mk (below_step (by repeat (first | (with_reducible first | exact HB.out | apply below_alloc | apply pw_below_drewN | apply below_drew1 | refine below_set ?_ GE101.out | refine below_set ?_ GE123.out | refine below_set ?_ GE127.out) | exact HB.out)) hb); clear BK101; clear BK123; clear BK127; clear HB; have BK101 := n0_; have BK123 := n1_; have BK127 := n2_; have HB := n3_; clear n0_ n1_ n2_ n3_; (try clear hb); (try clear hb2); (try clear hk); (try clear hi); have hnb110 := NB123_127.out; have hnc110 := NB127_123.out; have hcz111_0 : w109.cell? ⟨gb123, 0, none⟩ = some (.int .i64 t120) := (blk_cell BK123.out 0).trans rfl; have hcz111_1 : w109.cell? ⟨gb123, 1, none⟩ = some (.int .i64 t121) := (blk_cell BK123.out 1).trans rfl; have hfz111_0 := blk_frozen BK123.out 0; have hfz111_1 := blk_frozen BK123.out 1; have hcz112_0 : w109.cell? ⟨gb101, 0, none⟩ = some (.int .i64 a0_0) := (blk_cell BK101.out 0).trans rfl; have hcz112_1 : w109.cell? ⟨gb101, 1, none⟩ = some (.slice A0_1 l0_1.length c0_1) := (blk_cell BK101.out 1).trans rfl; have hcz112_2 : w109.cell? ⟨gb101, 2, none⟩ = some (.int .i64 a0_2) := (blk_cell BK101.out 2).trans rfl; have hcz112_3 : w109.cell? ⟨gb101, 3, none⟩ = some (.int .i64 a0_3) := (blk_cell BK101.out 3).trans rfl; have hfz112_0 := blk_frozen BK101.out 0; have hfz112_1 := blk_frozen BK101.out 1; have hfz112_2 := blk_frozen BK101.out 2; have hfz112_3 := blk_frozen BK101.out 3) | ((with_reducible refine gate_callee (f := 36) rfl ?_); refine goesL_ (some 111) rfl rfl Try.func36 (by kernel_rfl) rfl #[.agg #[.int .i64 a0_0, .slice A0_1 l0_1.length c0_1, .int .i64 a0_2, .int .i64 a0_3], .slice A1 l1.length c1, .bool a2] rfl (by (try simp only [List.map_toArray, List.map_cons, List.map_nil]); first | done | rfl | (simp only [List.length_drop, List.length_take]; rfl)) ?_; (with_reducible refine (isobathref02_Knock.calls kj39 a0_0 _ _ l0_1 a0_2 a0_3 _ _ l1 a2 t135 t136 t137 _ ?side1 ?side2 ?side3 ?side4 A81.out).mono ?_); (case side1 => exact Kd.C_below HR0_1.out (by repeat (first | (with_reducible first | exact HB.out | apply below_alloc | apply pw_below_drewN | apply below_drew1 | refine below_set ?_ GE101.out | refine below_set ?_ GE123.out | refine below_set ?_ GE127.out) | exact HB.out))); (case side2 => exact HC0_1.out); (case side3 => exact Kd.C_below HR1.out (by repeat (first | (with_reducible first | exact HB.out | apply below_alloc | apply pw_below_drewN | apply below_drew1 | refine below_set ?_ GE101.out | refine below_set ?_ GE123.out | refine below_set ?_ GE127.out) | exact HB.out))); (case side4 => exact HC1.out); rintro e w113 ⟨rfl, hb⟩; refine ⟨_, rfl, ?_⟩; have n0_ := Aside0.mk (blk_below (g := gb101) (o := .cells #[.int .i64 a0_0, .slice A0_1 l0_1.length c0_1, .int .i64 a0_2, .int .i64 a0_3] 37 (0, 0)) (by (with_reducible repeat (first | refine blk_drewN ?_ _ | refine blk_drew ?_ | refine blk_alloc ?_ _)); refine blk_far ?_ NB101_123.out _; (with_reducible repeat (first | refine blk_drewN ?_ _ | refine blk_drew ?_ | refine blk_alloc ?_ _)); refine blk_far ?_ NB101_123.out _; (with_reducible repeat (first | refine blk_drewN ?_ _ | refine blk_drew ?_ | refine blk_alloc ?_ _)); exact BK101.out) hb); have n1_ := Aside0.mk (blk_below (g := gb123) (o := .cells #[.int .i64 t132, .int .i64 t133] 57 (0, 0)) (by (with_reducible repeat (first | refine blk_drewN ?_ _ | refine blk_drew ?_ | refine blk_alloc ?_ _)); refine blk_put (cs := #[.int .i64 t132, .int .i64 t121]) ?_ 1 _ rfl; (with_reducible repeat (first | refine blk_drewN ?_ _ | refine blk_drew ?_ | refine blk_alloc ?_ _)); refine blk_put (cs := #[.int .i64 t120, .int .i64 t121]) ?_ 0 _ rfl; (with_reducible repeat (first | refine blk_drewN ?_ _ | refine blk_drew ?_ | refine blk_alloc ?_ _)); exact BK123.out) hb); have n2_ := Aside0.mk (blk_below (g := gb127) (o := .cells #[.int .i64 t124, .int .i64 t125] 57 (0, 0)) (by (with_reducible repeat (first | refine blk_drewN ?_ _ | refine blk_drew ?_ | refine blk_alloc ?_ _)); refine blk_far ?_ NB127_123.out _; (with_reducible repeat (first | refine blk_drewN ?_ _ | refine blk_drew ?_ | refine blk_alloc ?_ _)); refine blk_far ?_ NB127_123.out _; (with_reducible repeat (first | refine blk_drewN ?_ _ | refine blk_drew ?_ | refine blk_alloc ?_ _)); exact BK127.out) hb); have n3_ := Aside0.mk (below_step (by repeat (first | (with_reducible first | exact HB.out | apply below_alloc | apply pw_below_drewN | apply below_drew1 | refine below_set ?_ GE101.out | refine below_set ?_ GE123.out | refine below_set ?_ GE127.out) | exact HB.out)) hb); clear BK101; clear BK123; clear BK127; clear HB; have BK101 := n0_; have BK123 := n1_; have BK127 := n2_; have HB := n3_; clear n0_ n1_ n2_ n3_; (try clear hb); (try clear hb2); (try clear hk); (try clear hi); have hcz114_0 : w113.cell? ⟨gb127, 0, none⟩ = some (.int .i64 t124) := (blk_cell BK127.out 0).trans rfl; have hcz114_1 : w113.cell? ⟨gb127, 1, none⟩ = some (.int .i64 t125) := (blk_cell BK127.out 1).trans rfl; have hfz114_0 := blk_frozen BK127.out 0; have hfz114_1 := blk_frozen BK127.out 1; have hcz115_0 : w113.cell? ⟨gb123, 0, none⟩ = some (.int .i64 t132) := (blk_cell BK123.out 0).trans rfl; have hcz115_1 : w113.cell? ⟨gb123, 1, none⟩ = some (.int .i64 t133) := (blk_cell BK123.out 1).trans rfl; have hfz115_0 := blk_frozen BK123.out 0; have hfz115_1 := blk_frozen BK123.out 1))
                  go_ret
                  exact ⟨by first | rfl | (simp [errW_none, errW_some] <;> rfl) | (simp [*, errW_none, errW_some] <;> rfl), by repeat (first | (with_reducible first | exact HB.out | apply below_alloc | apply pw_below_drewN | apply below_drew1 | refine below_set ?_ GE101.out | refine below_set ?_ GE123.out | refine below_set ?_ GE127.out) | exact HB.out)⟩
end Go.Proofs.Ytebcmhajbjkojaa.P
namespace Go.Proofs.Ytebcmhajbjkojaa.P
open Go.RowKit Go.Proofs.YtebcmhajbjkojaaW.PrintWords Go.Proofs.YtebcmhajbjkojaaW.PrintLast Go.Proofs.YtebcmhajbjkojaaW.PrintMore
attribute [local go_sem] max2_int min2_int max_two min_two max_three min_three max_four min_four   -- for this text's walks alone
set_option linter.unusedVariables false
set_option linter.unusedSimpArgs false
structure Opens {α : Type} (P : Program) (t : TypeId) (d : Kd α) (B : α → Prop) : Prop where
  run : ∀ {H : Type} {enc : TypeId × Value → H} {W : World} {fuel : Nat} {cs : List Value} {x : DataW H × List MemPlace}, DataW.trod enc P W 0 (fun _ => true) true fuel t cs = some x → ∃ a : α, d.K W a cs ∧ B a
theorem Opens.int {P : Program} {t : TypeId} {k : IntKind} (ht : P.underlying t = some (.int k)) : Opens P t (Kd.int k) (fun n => (Lit.int k n).wf = true) :=
  ⟨fun h => by
    obtain ⟨n, rfl, _, hw⟩ := DataW.trod_int ht h
    exact ⟨n, rfl, hw⟩⟩
theorem Opens.bool {P : Program} {t : TypeId} (ht : P.underlying t = some .bool) : Opens P t Kd.bool (fun _ => True) :=
  ⟨fun h => by
    obtain ⟨n, rfl, _⟩ := DataW.trod_bool ht h
    exact ⟨n, rfl, trivial⟩⟩
theorem Opens.slice {α : Type} {P : Program} {t e : TypeId} {d : Kd α} {B : α → Prop} (ht : P.underlying t = some (.slice e)) (hc : P.cellsOf e = d.sz) (he : Opens P e d B) :
    Opens P t (Kd.slice e d) (fun xs => xs.length ≤ 9223372036854775807 ∧ ∀ x ∈ xs, B x) := by
  refine ⟨fun {H enc W fuel cs x} h => ?_⟩
  rcases Deep.open_slice ht h with ⟨rfl, _⟩ | ⟨a, len, cap, m, n, D, Pl, rfl, _, hl, hm, hmm, _, hx⟩
  · exact ⟨[], ⟨none, 0, rfl, Nat.le_refl _, Kd.C_nil _ _⟩, by simp, by simp⟩
  · have hm' : cap ≤ 9223372036854775807 := by unfold maxLen at hm; exact hm
    have hme : m = cap := by simpa using hmm
    have hel : ∀ i, i < len → ∃ y : α, (∃ cs', W.cells? 0 (a.add (i * P.cellsOf e)) (P.cellsOf e) = some cs' ∧ d.K W y cs') ∧ B y := by
      intro i hi
      obtain ⟨cs', h1, h2⟩ := hx i (by omega)
      obtain ⟨y, hy, hB⟩ := he.run h2
      exact ⟨y, ⟨cs', h1, hy⟩, hB⟩
    rcases Nat.eq_zero_or_pos len with h0 | h0
    · subst h0
      exact ⟨[], ⟨some a, cap, rfl, Nat.zero_le _, rfl, Nat.zero_le _, fun hp => absurd hp (Nat.lt_irrefl 0)⟩, by simp, by simp⟩
    · have : Inhabited α := ⟨Classical.choose (hel 0 h0)⟩
      obtain ⟨f, hf⟩ := Deep.choose_lt (p := fun i y => (∃ cs', W.cells? 0 (a.add (i * P.cellsOf e)) (P.cellsOf e) = some cs' ∧ d.K W y cs') ∧ B y) hel
      have hlen : ((List.range len).map f).length = len := by simp
      refine ⟨(List.range len).map f, ⟨some a, cap, by rw [hlen], by rw [hlen]; exact hl, hlen ▸ rfl, by rw [hlen]; omega, fun _ => ⟨a, rfl, ?_⟩⟩, by rw [hlen]; omega, ?_⟩
      · intro j p hj
        have hjl : j < len := by
          have := (List.getElem?_eq_some_iff.1 hj).1
          rwa [hlen] at this
        have hp : p = f j := by
          rw [List.getElem?_map, List.getElem?_range hjl] at hj
          exact (Option.some.inj hj).symm
        subst hp
        obtain ⟨⟨cs', h1, h2⟩, _⟩ := hf j hjl
        obtain ⟨_, h3, h4⟩ := World.cells?_some h1
        rw [hc] at h3 h4
        refine ⟨cs', h3, h2, fun i u hu => ?_⟩
        have hi : i < d.sz := by
          have := (List.getElem?_eq_some_iff.1 hu).1
          omega
        rw [← Deep.add_add]
        exact (h4 i hi).trans hu
      · intro y hy
        obtain ⟨i, hi, rfl⟩ := List.mem_map.1 hy
        exact (hf i (List.mem_range.1 hi)).2
structure OpensF {α : Type} (P : Program) (fs : List Field) (off tot : Nat) (d : Kd α) (B : α → Prop) : Prop where
  run : ∀ {H : Type} {enc : TypeId × Value → H} {W : World} {n : Nat} {cs : List Value}, cs.length = tot → (∀ (i : Nat) (f : Field), fs[i]? = some f → ∃ y, DataW.trod enc P W 0 (fun _ => true) true n f.type ((cs.drop f.offset).take (P.cellsOf f.type)) = some y) → ∃ a : α, d.K W a (cs.drop off) ∧ B a
theorem OpensF.last {α : Type} {P : Program} {f : Field} {off tot : Nat} {d : Kd α} {B : α → Prop} (ho : f.offset = off) (ht : off + P.cellsOf f.type = tot) (h : Opens P f.type d B) : OpensF P [f] off tot d B := by
  refine ⟨fun {H enc W n cs} hl hy => ?_⟩
  obtain ⟨y, hy⟩ := hy 0 f rfl
  obtain ⟨a, ha, hB⟩ := h.run hy
  rw [ho, List.take_of_length_le (by rw [List.length_drop]; omega)] at ha
  exact ⟨a, ha, hB⟩
theorem OpensF.cons {α β : Type} {P : Program} {f : Field} {fs : List Field} {off tot : Nat} {d1 : Kd α} {d2 : Kd β} {B1 : α → Prop} {B2 : β → Prop} (ho : f.offset = off) (hs : P.cellsOf f.type = d1.sz) (h : Opens P f.type d1 B1) (hr : OpensF P fs (off + d1.sz) tot d2 B2) :
    OpensF P (f :: fs) off tot (Kd.pair d1 d2) (fun x => B1 x.1 ∧ B2 x.2) := by
  refine ⟨fun {H enc W n cs} hl hy => ?_⟩
  obtain ⟨y, hy0⟩ := hy 0 f rfl
  obtain ⟨a, ha, hB⟩ := h.run hy0
  obtain ⟨b, hb, hB2⟩ := hr.run hl (fun i g hg => hy (i + 1) g hg)
  rw [ho, hs] at ha
  refine ⟨(a, b), ⟨(cs.drop off).take d1.sz, cs.drop (off + d1.sz), ?_, ha, hb⟩, hB, hB2⟩
  rw [← List.drop_drop, List.take_append_drop]
theorem Opens.struct {α β : Type} {P : Program} {t : TypeId} {fs : Array Field} {d : Kd α} {B : α → Prop} (ht : P.underlying t = some (.struct fs)) (f : β → α) (g : α → β) (hg : ∀ a, f (g a) = a) (hF : OpensF P fs.toList 0 (P.cellsOf t) d B) : Opens P t (Kd.iso d f) (fun x => B (f x)) := by
  refine ⟨fun {H enc W fuel cs x} h => ?_⟩
  obtain ⟨xs, n, _, _, hl, hlen, hf⟩ := DataW.trod_struct ht h
  obtain ⟨a, ha, hB⟩ := hF.run (n := n) hl (fun i fl hfl => by
    have hfl' : fs[i]? = some fl := by simpa using hfl
    have hi : i < fs.size := (Array.getElem?_eq_some_iff.1 hfl').1
    exact ⟨xs[i]'(by omega), (hf i fl hfl').trans (List.getElem?_eq_getElem (by omega))⟩)
  refine ⟨g a, ?_, ?_⟩
  · show d.K W (f (g a)) cs
    rw [hg]
    simpa using ha
  · show B (f (g a))
    rw [hg]
    exact hB
theorem cells_agg {v : Value} {l : List Value} (h : v.cells.toList = l) (hl : 2 ≤ l.length) : v = .agg l.toArray := by
  subst h
  cases v <;> simp [Value.cells] at hl ⊢
end Go.Proofs.Ytebcmhajbjkojaa.P
namespace Go.Proofs.Ytebcmhajbjkojaa.P
open Go.RowKit Go.Proofs.YtebcmhajbjkojaaW.PrintWords Go.Proofs.YtebcmhajbjkojaaW.PrintLast Go.Proofs.YtebcmhajbjkojaaW.PrintMore
namespace mooringShapes
open Go.ChangeShapes Go.WideShapes Go.ChangeAt
set_option linter.unusedVariables false
set_option linter.unusedSimpArgs false
def B46 (x : S46) : Prop := (fun n : Int => (Lit.int .i64 n).wf = true) x.f0 ∧ (fun n : Int => (Lit.int .i64 n).wf = true) x.f1 ∧ (fun n : Int => (Lit.int .i64 n).wf = true) x.f2 ∧ (fun n : Int => (Lit.int .i64 n).wf = true) x.f3
theorem opens46 : Opens Try.prog 46 k46 B46 := Opens.struct (fs := _) Try.underlying46 (fun x : S46 => (x.f0, x.f1, x.f2, x.f3)) (fun t => ⟨t.1, t.2.1, t.2.2.1, t.2.2.2⟩) (fun _ => rfl) (OpensF.cons rfl (by kernel_rfl) (Opens.int Try.underlying2) (OpensF.cons rfl (by kernel_rfl) (Opens.int Try.underlying2) (OpensF.cons rfl (by kernel_rfl) (Opens.int Try.underlying2) (OpensF.last rfl (by kernel_rfl) (Opens.int Try.underlying2)))))
def B37 (x : S37) : Prop := (fun n : Int => (Lit.int .i64 n).wf = true) x.f0 ∧ (fun xs : List S46 => xs.length ≤ 9223372036854775807 ∧ ∀ x ∈ xs, B46 x) x.f1 ∧ (fun n : Int => (Lit.int .i64 n).wf = true) x.f2 ∧ (fun n : Int => (Lit.int .i64 n).wf = true) x.f3
theorem opens37 : Opens Try.prog 37 k37 B37 := Opens.struct (fs := _) Try.underlying37 (fun x : S37 => (x.f0, x.f1, x.f2, x.f3)) (fun t => ⟨t.1, t.2.1, t.2.2.1, t.2.2.2⟩) (fun _ => rfl) (OpensF.cons rfl (by kernel_rfl) (Opens.int Try.underlying2) (OpensF.cons rfl (by kernel_rfl) (Opens.slice Try.underlying35 (by kernel_rfl) opens46) (OpensF.cons rfl (by kernel_rfl) (Opens.int Try.underlying2) (OpensF.last rfl (by kernel_rfl) (Opens.int Try.underlying2)))))
def B57 (x : S57) : Prop := (fun n : Int => (Lit.int .i64 n).wf = true) x.f0 ∧ (fun n : Int => (Lit.int .i64 n).wf = true) x.f1
theorem opens57 : Opens Try.prog 57 k57 B57 := Opens.struct (fs := _) Try.underlying57 (fun x : S57 => (x.f0, x.f1)) (fun t => ⟨t.1, t.2⟩) (fun _ => rfl) (OpensF.cons rfl (by kernel_rfl) (Opens.int Try.underlying2) (OpensF.last rfl (by kernel_rfl) (Opens.int Try.underlying2)))
def Pure : Prop := ∀ (x0 : S37) (x1 : (List S57)) (x2 : Bool), B37 x0 → (fun xs : List S57 => xs.length ≤ 9223372036854775807 ∧ ∀ x ∈ xs, B57 x) x1 → ∃ k, isobathlaw02_MooringShapes.f k x0.f0 x0.f1 x0.f2 x0.f3 x1 x2 = some true
theorem own : ownKnob Try.prog.godebug = none := by kernel_rfl
theorem laidOut : laidOutB Try.prog = true := by kernel_rfl
set_option maxRecDepth 100000 in
theorem lifted (hP : Pure) (os : Os) (started : os.Started) (H : Type) (enc : TypeId × Value → H) :
    ReturnsInHanded {} Try.checked os 7 .any (Rows.mooringShapesSpec.pre6 enc Try.prog Try.f7 Rows.mooringShapesRow.domain false) (Rows.mooringShapesSpec.post enc Try.prog Try.f7 false true false false) := by
  refine returnsInHanded_of_change_sized (C := Try.checked) own started (by kernel_rfl) Try.func7
    (ChangeSpec.witness6 (enc := enc) (C := Try.checked) false ⟨#[], #[.agg #[.int .i64 0, .slice none 0 0, .int .i64 0, .int .i64 0], .slice none 0 0, .bool false], []⟩ 8 (by kernel_rfl) (by kernel_rfl) (by kernel_rfl) (by kernel_rfl)) ?_
  intro W base args ds gs before hval0 hW hcnd hsz0 _
  have hval : ∀ (j : Nat) t v, Try.f7.params[j]? = some t → args[j]? = some v → Value.okWide Try.prog W .any base t v := hval0
  have hW' := hW
  obtain ⟨p, q, hA0, hV, rfl, hfz, hnd⟩ := hW
  have hA : DataW.TrodAll enc Try.prog W 0 (fun _ => true) true Try.f7.params.toList args.toList ds p := hA0
  rw [Try.params7] at hA hval
  obtain ⟨v0, vs0, d0, ds0, p0, q0, hargs, rfl, rfl, h0, r0⟩ := trodAll_cons hA
  obtain ⟨v1, vs1, d1, ds1, p1, q1, rfl, rfl, rfl, h1, r1⟩ := trodAll_cons r0
  obtain ⟨v2, vs2, d2, ds2, p2, q2, rfl, rfl, rfl, h2, r2⟩ := trodAll_cons r1
  obtain ⟨rfl, rfl, rfl⟩ := trodAll_nil r2
  obtain rfl : args = #[v0, v1, v2] := by cases args; simp_all
  obtain ⟨rfl, rfl⟩ := trodVars_none hV
  have k0 := h0
  have lt0 : ∀ x ∈ p0, x.block < W.heap.size := by obtain ⟨m, hm⟩ := k0; exact DataW.trod_lt m _ _ _ hm
  obtain ⟨m0, hm0⟩ := h0
  obtain ⟨x0, hk0, w0⟩ := Opens.run opens37 hm0
  obtain ⟨A0_1, c0_1, hcs0, hc0_1, hr0_1⟩ := k37_open hk0
  obtain rfl := cells_agg hcs0 (by simp)
  have k1 := h1
  have lt1 : ∀ x ∈ p1, x.block < W.heap.size := by obtain ⟨m, hm⟩ := k1; exact DataW.trod_lt m _ _ _ hm
  obtain ⟨m1, hm1⟩ := h1
  obtain ⟨x1, hk1, w1⟩ := Opens.run (Opens.slice Try.underlying48 (by kernel_rfl) opens57) hm1
  obtain ⟨a1, len1, cap1, rfl⟩ := okWide_slice Try.underlying48 (hval 1 48 v1 rfl rfl)
  obtain ⟨A1, c1, hcs1, hc1, hr1⟩ := hk1
  simp [Value.cells] at hcs1
  obtain ⟨rfl, rfl, rfl⟩ := hcs1
  obtain ⟨x2, rfl, rfl, rfl⟩ := open_bool Try.underlying4 (hval 2 4 v2 rfl rfl) h2
  clear hA0 hval0 hsz0
  obtain ⟨k, hf⟩ := hP x0 x1 x2 w0 w1
  refine (isobathlaw02_MooringShapes.calls (k := k) (a0_0 := x0.f0) (A0_1 := A0_1) (c0_1 := c0_1) (l0_1 := x0.f1) (a0_2 := x0.f2) (a0_3 := x0.f3) (A1 := a1) (c1 := cap1) (l1 := x1) (a2 := x2) (r := true) (w := W) (hr0_1 := hr0_1) (hc0_1 := hc0_1) (hr1 := hr1) (hc1 := hc1) (h := hf)).mono fun e W' ⟨he, hd⟩ => ?_
  have bel : Below W.heap.size W W' := by first | exact hd | (obtain ⟨m, rfl⟩ := hd; exact pw_below_drewN (Below.refl _ _) m)
  subst he
  exact ⟨_, rfl, _, _, _, [], _, [], hW', trodAll_mk1 (shut_bool Try.underlying4 _), (trodAll_cons_mk (Below.trod laidOut (by kernel_rfl) (of_decide_eq_true (by kernel_rfl)) k0 bel lt0) (trodAll_cons_mk (Below.trod laidOut (by kernel_rfl) (of_decide_eq_true (by kernel_rfl)) k1 bel lt1) (trodAll_cons_mk (shut_bool Try.underlying4 _) trodAll_mk0))), rfl, bel.frame _, fun h => by cases h⟩
theorem over (hP : Pure) : Rows.mooringShapesRow.holds Try.pinned (OpenSpec.ofChange Rows.mooringShapesSpec) :=
  OpenClaim.holds_of_wide 7 Try.f7 rfl rfl rfl rfl rfl rfl rfl ⟨rfl, rfl, rfl, rfl, rfl⟩ rfl rfl rfl rfl rfl (by kernel_rfl) Try.func7 (by kernel_rfl)
    (of_decide_eq_true (by kernel_rfl)) (by unfold Func.isWrapper; first | (rw [if_pos (by decide +kernel)]; kernel_rfl) | (rw [if_neg (by decide +kernel)]; exact ⟨rfl, rfl⟩))
    (fun os started H enc _ => lifted hP os started H enc)
theorem proved (hP : Pure) : Rows.MooringShapesSaid := over hP
end mooringShapes
end Go.Proofs.Ytebcmhajbjkojaa.P
namespace Go.Proofs.Ytebcmhajbjkojaa.P
open Go.RowKit Go.Proofs.YtebcmhajbjkojaaW.PrintWords Go.Proofs.YtebcmhajbjkojaaW.PrintLast Go.Proofs.YtebcmhajbjkojaaW.PrintMore
attribute [local go_sem] max2_int min2_int max_two min_two max_three min_three max_four min_four   -- for this text's walks alone
set_option linter.unusedVariables false
set_option linter.unusedSimpArgs false
theorem Law2.fine60 : isobathlaw02_fine.f 60 = some true := by kernel_rfl
theorem Law2.fine {k : Nat} (hk : 60 ≤ k) : isobathlaw02_fine.f k = some true := LeO.up (fun k => isobathlaw02_fine.mono k) hk Law2.fine60
end Go.Proofs.Ytebcmhajbjkojaa.P
namespace Go.Proofs.Ytebcmhajbjkojaa.P
open Go.RowKit Go.Proofs.YtebcmhajbjkojaaW.PrintWords Go.Proofs.YtebcmhajbjkojaaW.PrintLast Go.Proofs.YtebcmhajbjkojaaW.PrintMore
attribute [local go_sem] max2_int min2_int max_two min_two max_three min_three max_four min_four   -- for this text's walks alone
set_option linter.unusedVariables false
set_option linter.unusedSimpArgs false
def Lifts.T1 : Bool × List (List Nat × List Nat) := (true, [([], []), ([], []), ([1], [1]), ([2], [2]), ([3, 3], [3]), ([0, 4], [0, 4]), ([5], [5]), ([6], [6]), ([6], [6]), ([7, 5, 0, 1, 2, 3, 4, 5, 6, 7], [7]), ([8, 9, 0, 1, 2, 3, 4, 5, 6, 7, 8, 9], [8])])
def Lifts.B1 : List Nat := [0, 0, 2, 6, 14, 31, 63, 127, 127, 255, 1023]
theorem Lifts.tab1 : rtab .any (opsOf Try.f24 1) = Lifts.T1 := by kernel_rfl
theorem Lifts.bits1 : waitsOk Lifts.T1.2 Lifts.B1 = true := by kernel_rfl
end Go.Proofs.Ytebcmhajbjkojaa.P
namespace Go.Proofs.Ytebcmhajbjkojaa.P
open Go.RowKit Go.Proofs.YtebcmhajbjkojaaW.PrintWords Go.Proofs.YtebcmhajbjkojaaW.PrintLast Go.Proofs.YtebcmhajbjkojaaW.PrintMore
attribute [local go_sem] max2_int min2_int max_two min_two max_three min_three max_four min_four   -- for this text's walks alone
set_option linter.unusedVariables false
set_option linter.unusedSimpArgs false
theorem Law2.spans_l0 {xs : List S57} (hn : xs.length ≤ 9223372036854775807) (n : Nat) : ∀ (k i : Nat), i + n = xs.length → n < k → isobathlaw02_spans.l0 k xs xs (i : Int) = some true := by
  induction n with
  | zero =>
    intro k i hi hk
    obtain ⟨k, rfl⟩ : ∃ m, k = m + 1 := ⟨k - 1, by omega⟩
    simp only [isobathlaw02_spans.l0]
    rw [if_neg (by omega)]
  | succ n ih =>
    intro k i hi hk
    obtain ⟨k, rfl⟩ : ∃ m, k = m + 1 := ⟨k - 1, by omega⟩
    have hlt : i < xs.length := by omega
    simp only [isobathlaw02_spans.l0]
    rw [if_pos (by omega), if_pos (by omega), if_pos (by omega), if_neg (by simp), wrap_succ hlt hn]
    exact ih k (i + 1) (by omega) (by omega)
theorem Law2.spans_same {xs : List S57} (hn : xs.length ≤ 60) {k : Nat} (hk : 61 ≤ k) : isobathlaw02_spans.f k xs xs = some true := by
  unfold isobathlaw02_spans.f
  rw [if_pos rfl]
  exact Law2.spans_l0 (by omega) xs.length k 0 (by omega) (by omega)
theorem Law2.long (d : Int) (els : List S46) (an fr : Int) (cs : List S57) : isobathlaw02_long.f d els an fr cs = some (decide (60 < els.length ∨ 60 < cs.length)) := by
  unfold isobathlaw02_long.f
  by_cases h : 60 < els.length
  · rw [if_pos (by omega), decide_eq_true (by omega)]
  · rw [if_neg (by omega)]
    by_cases h2 : 60 < cs.length
    · rw [decide_eq_true (by omega), decide_eq_true (by omega)]
    · rw [decide_eq_false (by omega), decide_eq_false (by omega)]
theorem Moor.shape_some (d : Int) (els : List S46) (an fr : Int) (cs : List S57) (free : Bool) (hn : els.length ≤ 60) : ∃ xs ys e, mooring_Shape.f d els an fr cs free = some (xs, ys, e) ∧ xs.length ≤ 60 ∧ ys.length ≤ 60 := by
  unfold mooring_Shape.f
  by_cases h : Moor.err d els an fr cs true = 0
  · rw [if_pos h]; exact ⟨_, _, _, rfl, by rw [Moor.list_length]; exact hn, by rw [Moor.list_length]; exact hn⟩
  · rw [if_neg h]; exact ⟨_, _, _, rfl, by simp, by simp⟩
theorem Moor.top_some (d : Int) (els : List S46) (an fr : Int) (cs : List S57) (free : Bool) : ∃ a b e, mooring_Top.f d els an fr cs free = some (a, b, e) := by
  unfold mooring_Top.f
  by_cases h : Moor.err d els an fr cs true = 0
  · rw [if_pos h]; exact ⟨_, _, _, rfl⟩
  · rw [if_neg h]; exact ⟨_, _, _, rfl⟩
theorem Moor.knock_some (d : Int) (els : List S46) (an fr : Int) (cs : List S57) (free : Bool) : ∃ a b e, mooring_Knock.f d els an fr cs free = some (a, b, e) := by
  unfold mooring_Knock.f
  by_cases h : Moor.err d els an fr cs true = 0
  · rw [if_pos h]; exact ⟨_, _, _, rfl⟩
  · rw [if_neg h]; exact ⟨_, _, _, rfl⟩
theorem Moor.circle_some (d : Int) (els : List S46) (an fr : Int) (cs : List S57) (free : Bool) : ∃ a e, mooring_Circle.f d els an fr cs free = some (a, e) := by
  unfold mooring_Circle.f
  by_cases h : Moor.err d els an fr cs true = 0
  · rw [if_pos h]; exact ⟨_, _, rfl⟩
  · rw [if_neg h]; exact ⟨_, _, rfl⟩
end Go.Proofs.Ytebcmhajbjkojaa.P
namespace Go.Proofs.Ytebcmhajbjkojaa.P
open Go.RowKit Go.Proofs.YtebcmhajbjkojaaW.PrintWords Go.Proofs.YtebcmhajbjkojaaW.PrintLast Go.Proofs.YtebcmhajbjkojaaW.PrintMore
attribute [local go_sem] max2_int min2_int max_two min_two max_three min_three max_four min_four   -- for this text's walks alone
set_option linter.unusedVariables false
set_option linter.unusedSimpArgs false
theorem Moor.within (x lo hi : Int) : isobathref02_within.f x lo hi = some (decide (lo ≤ x) && decide (x ≤ hi)) := by
  unfold isobathref02_within.f
  by_cases h : lo ≤ x
  · rw [if_pos h, decide_eq_true h, Bool.true_and]
  · rw [if_neg h, decide_eq_false h, Bool.false_and]
theorem Moor.refCheck_l0 {d an fr : Int} {els : List S46} (hn : els.length ≤ 9223372036854775807) (n : Nat) : ∀ (k i : Nat), i + n = els.length → n < k →
    isobathref02_Check.l0 k (i : Int) d els an fr = some (if (els.drop i).all Moor.elB = true then 0 else 2) := by
  induction n with
  | zero =>
    intro k i hi hk
    obtain ⟨k, rfl⟩ : ∃ m, k = m + 1 := ⟨k - 1, by omega⟩
    simp only [isobathref02_Check.l0]
    rw [if_neg (by omega), List.drop_of_length_le (by omega)]
    rfl
  | succ n ih =>
    intro k i hi hk
    obtain ⟨k, rfl⟩ : ∃ m, k = m + 1 := ⟨k - 1, by omega⟩
    have hlt : i < els.length := by omega
    simp only [isobathref02_Check.l0]
    rw [if_pos (by omega), if_pos (by omega), wrap_succ hlt hn, ih k (i + 1) (by omega) (by omega), Moor.rdE hlt, drop_cons hlt, List.all_cons]
    simp only [Moor.within, Option.bind_some]
    generalize els[i] = e
    have hE : Moor.elB e = ((decide (0 ≤ e.f0) && decide (e.f0 ≤ 1048576)) && ((decide (-1048576 ≤ e.f1) && decide (e.f1 ≤ 1048576)) && ((decide (0 ≤ e.f2) && decide (e.f2 ≤ 65536)) && (decide (1 ≤ e.f3) && decide (e.f3 ≤ 16777216))))) := by
      unfold Moor.elB
      simp only [Bool.and_assoc]
    rw [hE]
    generalize (decide (0 ≤ e.f0) && decide (e.f0 ≤ 1048576)) = b0
    generalize (decide (-1048576 ≤ e.f1) && decide (e.f1 ≤ 1048576)) = b1
    generalize (decide (0 ≤ e.f2) && decide (e.f2 ≤ 65536)) = b2
    generalize (decide (1 ≤ e.f3) && decide (e.f3 ≤ 16777216)) = b3
    cases b0 <;> cases b1 <;> cases b2 <;> cases b3 <;> simp
theorem Moor.refCheck {d : Int} {els : List S46} {an fr : Int} (hn : els.length ≤ 9223372036854775807) {k : Nat} (hk : 44 ≤ k) : isobathref02_Check.f k d els an fr = some (Moor.chk d els an fr) := by
  obtain ⟨k, rfl⟩ : ∃ m, k = m + 1 := ⟨k - 1, by omega⟩
  unfold isobathref02_Check.f Moor.chk
  by_cases h0 : 40 < els.length
  · rw [if_pos (by omega), if_pos h0]
  rw [if_neg (by omega), if_neg h0]
  have hj : ∀ b, isobathref02_Check.j0 (k + 1) b d els an fr = some (if b = true then 2 else if els.all Moor.elB = true then 0 else 2) := by
    intro b
    simp only [isobathref02_Check.j0]
    cases b with
    | true => rfl
    | false =>
      have h := Moor.refCheck_l0 (d := d) (an := an) (fr := fr) hn els.length k 0 (by omega) (by omega)
      rw [List.drop_zero] at h
      simpa using h
  simp only [Moor.within, Option.bind_some]
  by_cases h1 : els.length = 0
  · rw [if_pos (by omega), hj, if_pos rfl, if_pos (by omega)]
  rw [if_neg (by omega)]
  by_cases h2 : 1 ≤ d ∧ d ≤ 1048576
  · rw [if_pos (by simpa using h2)]
    by_cases h3 : 0 ≤ an ∧ an ≤ 1048576
    · rw [if_pos (by simpa using h3)]
      by_cases h4 : 0 ≤ fr ∧ fr ≤ 1000
      · have e : (decide (0 ≤ fr) && decide (fr ≤ 1000)) = true := by simpa using h4
        rw [e, hj, if_neg (show ¬ ((!true) = true) by decide), if_neg (show ¬ (els.length = 0 ∨ d < 1 ∨ 1048576 < d ∨ an < 0 ∨ 1048576 < an ∨ fr < 0 ∨ 1000 < fr) by omega)]
      · have e : (decide (0 ≤ fr) && decide (fr ≤ 1000)) = false := by
          cases h : (decide (0 ≤ fr) && decide (fr ≤ 1000)) with
          | false => rfl
          | true => exact absurd (by simpa using h) h4
        rw [e, hj, if_pos (show (!false) = true by decide), if_pos (show els.length = 0 ∨ d < 1 ∨ 1048576 < d ∨ an < 0 ∨ 1048576 < an ∨ fr < 0 ∨ 1000 < fr by omega)]
    · rw [if_neg (by simpa using h3), hj, if_pos rfl, if_pos (show els.length = 0 ∨ d < 1 ∨ 1048576 < d ∨ an < 0 ∨ 1048576 < an ∨ fr < 0 ∨ 1000 < fr by omega)]
  · rw [if_neg (by simpa using h2), hj, if_pos rfl, if_pos (show els.length = 0 ∨ d < 1 ∨ 1048576 < d ∨ an < 0 ∨ 1048576 < an ∨ fr < 0 ∨ 1000 < fr by omega)]
theorem Moor.refCurrents_l0 {cs : List S57} (hn : cs.length ≤ 9223372036854775807) (n : Nat) : ∀ (k i : Nat), i + n = cs.length → n < k → isobathref02_currents.l0 k cs (i : Int) = some (if (cs.drop i).all Moor.curB = true then 0 else 2) := by
  induction n with
  | zero =>
    intro k i hi hk
    obtain ⟨k, rfl⟩ : ∃ m, k = m + 1 := ⟨k - 1, by omega⟩
    simp only [isobathref02_currents.l0]
    rw [if_neg (by omega), List.drop_of_length_le (by omega)]
    rfl
  | succ n ih =>
    intro k i hi hk
    obtain ⟨k, rfl⟩ : ∃ m, k = m + 1 := ⟨k - 1, by omega⟩
    have hlt : i < cs.length := by omega
    simp only [isobathref02_currents.l0]
    rw [if_pos (by omega), if_pos (by omega), wrap_succ hlt hn, ih k (i + 1) (by omega) (by omega), Moor.rdS hlt, drop_cons hlt, List.all_cons]
    generalize cs[i] = s
    unfold Moor.curB
    by_cases h0 : s.f0 > s.f1
    · rw [if_pos h0, if_neg (by simp; omega)]
    rw [if_neg h0]
    by_cases h1 : s.f0 < 0
    · rw [if_pos h1, if_neg (by simp; omega)]
    rw [if_neg h1]
    by_cases h2 : s.f1 > 3000
    · rw [if_pos h2, if_neg (by simp; omega)]
    rw [if_neg h2]
    have : (decide (s.f0 ≤ s.f1) && (decide (0 ≤ s.f0) && decide (s.f1 ≤ 3000))) = true := by simp; omega
    rw [this, Bool.true_and]
theorem Moor.err_chk {d an fr : Int} {els : List S46} {cs : List S57} {stand : Bool} (h : Moor.chk d els an fr ≠ 0) : Moor.err d els an fr cs stand = Moor.chk d els an fr := by
  unfold Moor.err
  rw [if_pos h]
theorem Moor.err_len {d an fr : Int} {els : List S46} {cs : List S57} {stand : Bool} (h : Moor.chk d els an fr = 0) (h2 : cs.length ≠ els.length) : Moor.err d els an fr cs stand = 17 := by
  unfold Moor.err
  rw [if_neg (fun e => e h), if_pos h2]
theorem Moor.err_both {d an fr : Int} {els : List S46} {cs : List S57} {stand : Bool} (h : Moor.chk d els an fr = 0) (h2 : cs.length = els.length) : Moor.err d els an fr cs stand = Moor.err2 els cs stand := by
  unfold Moor.err
  rw [if_neg (fun e => e h), if_neg (fun e => e h2)]
theorem Moor.refCurrents {d : Int} {els : List S46} {an fr : Int} {cs : List S57} (hn : els.length ≤ 9223372036854775807) {k : Nat} (hk : 44 ≤ k) : isobathref02_currents.f k d els an fr cs = some (Moor.err d els an fr cs false) := by
  unfold isobathref02_currents.f
  rw [Moor.refCheck hn hk, Option.bind_some]
  by_cases h : Moor.chk d els an fr = 0
  · rw [if_pos h]
    obtain ⟨h40, _⟩ := Moor.chk_ok h
    by_cases h2 : cs.length = els.length
    · rw [if_pos (show (cs.length : Int) = (els.length : Int) by omega), Moor.err_both h h2]
      have h3 := Moor.refCurrents_l0 (cs := cs) (by omega) cs.length k 0 (by omega) (by omega)
      rw [List.drop_zero] at h3
      unfold Moor.err2
      rw [show ((0 : Nat) : Int) = 0 from rfl] at h3
      rw [h3]
      by_cases h4 : cs.all Moor.curB = true
      · rw [if_pos h4, if_pos h4, if_neg (by simp)]
      · rw [if_neg h4, if_neg h4]
    · rw [if_neg (show ¬ (cs.length : Int) = (els.length : Int) by omega), Moor.err_len h h2]
  · rw [if_neg h, Moor.err_chk h]
theorem Moor.refDown {a b : Int} (h : 0 ≤ a) (h1 : a ≤ 9223372036854775807) (hb : 1 ≤ b) : isobathref02_Down.f a b = some (a / b) := by
  have h2 : a / b ≤ a := Int.ediv_le_self _ h
  have h3 : 0 ≤ a / b := Int.ediv_nonneg h (by omega)
  unfold isobathref02_Down.f
  rw [if_neg (by omega), tdiv_pos h, wrap_id (by omega) (by omega)]
theorem Moor.refUp {a b : Int} (h : 0 ≤ a) (h1 : a ≤ 1152921504606846976) (hb : 1 ≤ b) (h2 : b ≤ 1152921504606846976) : isobathref02_Up.f a b = some ((a + b - 1) / b) := by
  have h4 : (a + b - 1) / b ≤ a + b - 1 := Int.ediv_le_self _ (by omega)
  have h3 : 0 ≤ (a + b - 1) / b := Int.ediv_nonneg (by omega) (by omega)
  unfold isobathref02_Up.f
  rw [if_neg (by omega), wrap_id (n := a + b) (by omega) (by omega), wrap_id (n := a + b - 1) (by omega) (by omega), tdiv_pos (by omega), wrap_id (by omega) (by omega)]
theorem Moor.refForces_l0 {d an fr : Int} {els : List S46} {cs : List S57} (h40 : els.length ≤ 40) (hel : ∀ e ∈ els, Moor.elB e = true) (hl : cs.length = els.length) (hc : cs.all Moor.curB = true) (n : Nat) : ∀ (k i : Nat), i + n = els.length → n < k →
    isobathref02_forces.l0 k cs (Moor.on (els.take i) (cs.take i)) (i : Int) d els an fr = some (Moor.on els cs) := by
  induction n with
  | zero =>
    intro k i hi hk
    obtain ⟨k, rfl⟩ : ∃ m, k = m + 1 := ⟨k - 1, by omega⟩
    simp only [isobathref02_forces.l0]
    rw [if_neg (by omega), List.take_of_length_le (by omega), List.take_of_length_le (by omega)]
  | succ n ih =>
    intro k i hi hk
    obtain ⟨k, rfl⟩ : ∃ m, k = m + 1 := ⟨k - 1, by omega⟩
    have h1 : i < els.length := by omega
    have h2 : i < cs.length := by omega
    have ih' := ih k (i + 1) (by omega) (by omega)
    rw [Moor.on_take h1 h2] at ih'
    have he := Moor.elB_iff.1 (hel _ (List.getElem_mem h1))
    have hs := List.all_eq_true.1 hc _ (List.getElem_mem h2)
    unfold Moor.curB at hs
    simp at hs
    have hsm := Moor.on_small (els := els) (cs := cs) (i := i) h40
    simp only [isobathref02_forces.l0]
    rw [if_pos (by omega), if_pos (by omega), if_pos (by omega), Moor.rdE h1, Moor.rdS h2]
    have p0 := Moor.prod_bound (a := els[i].f2) (b := cs[i].f0) (by omega) (by omega) (by omega) (by omega)
    have p1 := Moor.prod_bound (a := els[i].f2) (b := cs[i].f1) (by omega) (by omega) (by omega) (by omega)
    rw [wrap_id (n := els[i].f2 * cs[i].f0) (by omega) (by omega), wrap_id (n := els[i].f2 * cs[i].f0 * cs[i].f0) (by omega) (by omega), Moor.refDown (by omega) (by omega) (by omega), Option.bind_some, wrap_id (n := els[i].f2 * cs[i].f1) (by omega) (by omega), wrap_id (n := els[i].f2 * cs[i].f1 * cs[i].f1) (by omega) (by omega), Moor.refUp (by omega) (by omega) (by omega) (by omega), Option.bind_some, if_pos (by omega), wrap_succ h1 (by omega)]
    have e : (⟨els[i].f2 * cs[i].f0 * cs[i].f0 / 1000000, (els[i].f2 * cs[i].f1 * cs[i].f1 + 1000000 - 1) / 1000000⟩ : S57) = Moor.force els[i] cs[i] := by
      unfold Moor.force
      rw [show els[i].f2 * cs[i].f1 * cs[i].f1 + 1000000 - 1 = els[i].f2 * cs[i].f1 * cs[i].f1 + 999999 by omega]
    rw [e]
    exact ih'
theorem Moor.refForces {d an fr : Int} {els : List S46} {cs : List S57} (h : Moor.Ok d els an fr cs) {k : Nat} (hk : 44 ≤ k) : isobathref02_forces.f k d els an fr cs = some (Moor.on els cs) := by
  have := Moor.refForces_l0 (d := d) (an := an) (fr := fr) h.n40 h.elok h.len h.cur els.length k 0 (by omega) (by have := h.n40; omega)
  exact this
theorem Moor.refLifts_l0 {d an fr : Int} {els : List S46} (h40 : els.length ≤ 40) (hel : ∀ e ∈ els, Moor.elB e = true) (n : Nat) : ∀ (k i : Nat), i + n = els.length → n < k →
    isobathref02_lifts.l0 k (Moor.lifts (els.take i)) (Moor.sumL (els.take i)) (i : Int) d els an fr = some (Moor.lifts els) := by
  induction n with
  | zero =>
    intro k i hi hk
    obtain ⟨k, rfl⟩ : ∃ m, k = m + 1 := ⟨k - 1, by omega⟩
    simp only [isobathref02_lifts.l0]
    rw [if_neg (by omega), List.take_of_length_le (by omega)]
  | succ n ih =>
    intro k i hi hk
    obtain ⟨k, rfl⟩ : ∃ m, k = m + 1 := ⟨k - 1, by omega⟩
    have h1 : i < els.length := by omega
    have ih' := ih k (i + 1) (by omega) (by omega)
    rw [Moor.lifts_take h1, Moor.sumL_take h1] at ih'
    have he := Moor.elB_iff.1 (hel _ (List.getElem_mem h1))
    have hb := Moor.sumL_take_bound hel h40 i
    have hsm := Moor.lifts_small (els := els) (i := i) h40
    simp only [isobathref02_lifts.l0]
    rw [if_pos (by omega), if_pos (by omega), if_pos (by omega), Moor.rdE h1, wrap_id (n := Moor.sumL (els.take i) + els[i].f1) (by omega) (by omega), wrap_succ h1 (by omega)]
    exact ih'
theorem Moor.refLifts {d an fr : Int} {els : List S46} (h40 : els.length ≤ 40) (hel : ∀ e ∈ els, Moor.elB e = true) {k : Nat} (hk : 44 ≤ k) : isobathref02_lifts.f k d els an fr = some (Moor.lifts els) :=
  Moor.refLifts_l0 (d := d) (an := an) (fr := fr) h40 hel els.length k 0 (by omega) (by omega)
theorem Moor.refStands_l0 {xs : List Int} (hn : xs.length ≤ 40) (n : Nat) : ∀ (k i : Nat), i + n = xs.length → n < k → isobathref02_Stands.l0 k xs (i : Int) = some ((xs.drop i).all (fun x => decide (1 ≤ x))) := by
  induction n with
  | zero =>
    intro k i hi hk
    obtain ⟨k, rfl⟩ : ∃ m, k = m + 1 := ⟨k - 1, by omega⟩
    simp only [isobathref02_Stands.l0]
    rw [if_neg (by omega), List.drop_of_length_le (by omega)]
    rfl
  | succ n ih =>
    intro k i hi hk
    obtain ⟨k, rfl⟩ : ∃ m, k = m + 1 := ⟨k - 1, by omega⟩
    have h1 : i < xs.length := by omega
    simp only [isobathref02_Stands.l0]
    rw [if_pos (by omega), if_pos (by omega), rd_nat h1, drop_cons h1, List.all_cons]
    by_cases c : xs[i] < 1
    · rw [if_pos c, decide_eq_false (by omega), Bool.false_and]
    · rw [if_neg c, decide_eq_true (by omega), Bool.true_and, wrap_succ h1 (by omega)]
      exact ih k (i + 1) (by omega) (by omega)
theorem Moor.refStands {d an fr : Int} {els : List S46} (h40 : els.length ≤ 40) (hel : ∀ e ∈ els, Moor.elB e = true) {k : Nat} (hk : 44 ≤ k) : isobathref02_Stands.f k d els an fr = some (Moor.stands els) := by
  unfold isobathref02_Stands.f
  rw [Moor.refLifts h40 hel hk, Option.bind_some]
  have h := Moor.refStands_l0 (xs := Moor.lifts els) (by rw [Moor.lifts_length]; exact h40) (Moor.lifts els).length k 0 (by omega) (by rw [Moor.lifts_length]; omega)
  rw [List.drop_zero] at h
  exact h
theorem Moor.refAll {d an fr : Int} {els : List S46} {cs : List S57} (hn : els.length ≤ 9223372036854775807) {k : Nat} (hk : 44 ≤ k) : isobathref02_all.f k d els an fr cs = some (Moor.err d els an fr cs true) := by
  unfold isobathref02_all.f
  rw [Moor.refCurrents hn hk, Option.bind_some]
  by_cases h : Moor.err d els an fr cs false = 0
  · rw [if_pos h]
    obtain ⟨ho, _⟩ := Moor.err_ok h
    rw [Moor.refStands ho.n40 ho.elok hk, Option.bind_some]
    have e : Moor.err d els an fr cs true = if Moor.stands els = true then 0 else 10 := by
      rw [Moor.err_both ho.chk ho.len]
      unfold Moor.err2
      rw [if_pos ho.cur]
      cases Moor.stands els <;> simp
    rw [e]
    cases Moor.stands els <;> rfl
  · rw [if_neg h]
    have e : Moor.err d els an fr cs true = Moor.err d els an fr cs false := by
      by_cases h1 : Moor.chk d els an fr = 0
      · by_cases h2 : cs.length = els.length
        · rw [Moor.err_both h1 h2] at h ⊢
          rw [Moor.err_both h1 h2]
          unfold Moor.err2 at h ⊢
          by_cases h3 : cs.all Moor.curB = true
          · rw [if_pos h3, if_neg (by simp)] at h; exact absurd rfl h
          · rw [if_neg h3, if_neg h3]
        · rw [Moor.err_len h1 h2, Moor.err_len h1 h2]
      · rw [Moor.err_chk h1, Moor.err_chk h1]
    rw [e]
end Go.Proofs.Ytebcmhajbjkojaa.P
namespace Go.Proofs.Ytebcmhajbjkojaa.P
open Go.RowKit Go.Proofs.YtebcmhajbjkojaaW.PrintWords Go.Proofs.YtebcmhajbjkojaaW.PrintLast Go.Proofs.YtebcmhajbjkojaaW.PrintMore
attribute [local go_sem] max2_int min2_int max_two min_two max_three min_three max_four min_four   -- for this text's walks alone
set_option linter.unusedVariables false
set_option linter.unusedSimpArgs false
theorem mx_max (a b : Int) : mx a b = max a b := by
  unfold mx
  by_cases h : a < b
  · rw [if_pos h]; omega
  · rw [if_neg h]; omega
theorem mn_min (a b : Int) : mn a b = min a b := by
  unfold mn
  by_cases h : b < a
  · rw [if_pos h]; omega
  · rw [if_neg h]; omega
theorem Moor.take_bound {on : List S57} (h40 : on.length ≤ 40) (hon : ∀ x ∈ on, Moor.onB x) (i : Nat) : 0 ≤ Moor.slo (on.take i) ∧ Moor.slo (on.take i) ≤ 24000000 ∧ 0 ≤ Moor.shi (on.take i) ∧ Moor.shi (on.take i) ≤ 24000000 ∧ 0 ≤ Moor.most 0 (on.take i) ∧ Moor.most 0 (on.take i) ≤ 1200000 := by
  have b1 := Moor.slo_bound (on := on.take i) (fun y hy => hon y (List.mem_of_mem_take hy))
  have b2 := Moor.most_bound (on := on.take i) (fun y hy => hon y (List.mem_of_mem_take hy)) 0 (by omega) (by omega)
  have b3 : (on.take i).length ≤ 40 := by rw [List.length_take]; omega
  omega
theorem Moor.refPulls_l1 {on : List S57} (h40 : on.length ≤ 40) (hon : ∀ x ∈ on, Moor.onB x) {i : Nat} (hi : i < on.length) (out : List S57) (hout : out.length < 8796093022208) (lo : Int) (n : Nat) : ∀ (k m : Nat) (y : Int), m + n = i + 1 → n < k → y = max 0 (Moor.most 0 (on.take m) - Moor.shi (on.take (i + 1))) →
    ∃ k', k = k' + n + 1 ∧ isobathref02_pulls.l1 k true on out lo (Moor.shi (on.take (i + 1))) (i : Int) (m : Int) y (Moor.shi (on.take (i + 1))) = isobathref02_pulls.l0 k' true on (out ++ [⟨max 0 (Moor.most 0 (on.take (i + 1)) - Moor.shi (on.take (i + 1))), Moor.shi (on.take (i + 1))⟩]) lo (Moor.shi (on.take (i + 1))) ((i + 1 : Nat) : Int) := by
  induction n with
  | zero =>
    intro k m y hm hk hy
    obtain ⟨k, rfl⟩ : ∃ x, k = x + 1 := ⟨k - 1, by omega⟩
    refine ⟨k, rfl, ?_⟩
    simp only [isobathref02_pulls.l1]
    have e : m = i + 1 := by omega
    rw [if_neg (by omega), if_pos hout, wrap_succ hi (by omega), hy, e]
  | succ n ih =>
    intro k m y hm hk hy
    obtain ⟨k, rfl⟩ : ∃ x, k = x + 1 := ⟨k - 1, by omega⟩
    have hlt : m < on.length := by omega
    have t1 := Moor.take_bound h40 hon (i + 1)
    have t2 := Moor.take_bound h40 hon m
    have hx := hon _ (List.getElem_mem hlt)
    have hm' := Moor.most_take (List.getElem?_eq_getElem hlt)
    unfold Moor.onB at hx
    obtain ⟨k', h1, h2⟩ := ih k (m + 1) (max y (on[m].f0 - (Moor.shi (on.take (i + 1)) - on[m].f1))) (by omega) (by omega) (by
      rw [hm', hy]
      omega)
    refine ⟨k', by omega, ?_⟩
    simp only [isobathref02_pulls.l1]
    rw [if_pos (by omega), if_pos (by omega), if_pos (by omega), Moor.rdS hlt, wrap_id (n := Moor.shi (on.take (i + 1)) - on[m].f1) (by omega) (by omega), wrap_id (n := on[m].f0 - (Moor.shi (on.take (i + 1)) - on[m].f1)) (by omega) (by omega), mx_max, wrap_succ (n := on.length) (by omega) (by omega)]
    exact h2
theorem Moor.refPulls_l0 {on : List S57} (h40 : on.length ≤ 40) (hon : ∀ x ∈ on, Moor.onB x) (free : Bool) (n : Nat) : ∀ (k i : Nat), i + n = on.length → n * 50 + 1 ≤ k →
    isobathref02_pulls.l0 k free on (Moor.pulls free (on.take i)) (Moor.slo (on.take i)) (Moor.shi (on.take i)) (i : Int) = some (Moor.pulls free on) := by
  induction n with
  | zero =>
    intro k i hi hk
    obtain ⟨k, rfl⟩ : ∃ m, k = m + 1 := ⟨k - 1, by omega⟩
    simp only [isobathref02_pulls.l0]
    rw [if_neg (by omega), List.take_of_length_le (by omega)]
  | succ n ih =>
    intro k i hi hk
    obtain ⟨k, rfl⟩ : ∃ m, k = m + 1 := ⟨k - 1, by omega⟩
    have hlt : i < on.length := by omega
    have t1 := Moor.take_bound h40 hon (i + 1)
    have t2 := Moor.take_bound h40 hon i
    have g := List.getElem?_eq_getElem hlt
    have s0 := Moor.slo_take g
    have s1 := Moor.shi_take g
    have s2 := Moor.most_take g
    have s3 := Moor.pulls_take free g
    have hsm : (Moor.pulls free (on.take i)).length < 8796093022208 := by rw [Moor.pulls_length, List.length_take]; omega
    simp only [isobathref02_pulls.l0]
    rw [if_pos (by omega), if_pos (by omega), Moor.rdS hlt, wrap_id (n := Moor.slo (on.take i) + on[i].f0) (by omega) (by omega), wrap_id (n := Moor.shi (on.take i) + on[i].f1) (by omega) (by omega), ← s0, ← s1]
    cases free with
    | true =>
      rw [if_pos rfl]
      obtain ⟨k', h1, h2⟩ := Moor.refPulls_l1 h40 hon hlt (Moor.pulls true (on.take i)) hsm (Moor.slo (on.take (i + 1))) (i + 1) k 0 0 (by omega) (by omega) (by
        simp only [List.take_zero, Moor.most]
        omega)
      rw [show ((0 : Nat) : Int) = 0 from rfl] at h2
      rw [h2]
      have ih' := ih k' (i + 1) (by omega) (by omega)
      rw [s3, if_pos rfl, ← s2, ← s1] at ih'
      exact ih'
    | false =>
      rw [if_neg (by decide), if_pos hsm, wrap_succ hlt (by omega)]
      have ih' := ih k (i + 1) (by omega) (by omega)
      rw [s3, if_neg (by decide), ← s0, ← s1] at ih'
      exact ih'
theorem Moor.refPulls {d an fr : Int} {els : List S46} {cs : List S57} (h : Moor.Ok d els an fr cs) (free : Bool) {k : Nat} (hk : 2100 ≤ k) : isobathref02_pulls.f k d els an fr cs free = some (Moor.pulls free (Moor.on els cs)) := by
  unfold isobathref02_pulls.f
  rw [Moor.refForces h (by omega), Option.bind_some]
  have hl := h.onlen
  have h40 := h.n40
  have h1 := Moor.refPulls_l0 (on := Moor.on els cs) (by omega) (Moor.on_onB h.elok h.cur) free (Moor.on els cs).length k 0 (by omega) (by omega)
  exact h1
end Go.Proofs.Ytebcmhajbjkojaa.P
namespace Go.Proofs.Ytebcmhajbjkojaa.P
open Go.RowKit Go.Proofs.YtebcmhajbjkojaaW.PrintWords Go.Proofs.YtebcmhajbjkojaaW.PrintLast Go.Proofs.YtebcmhajbjkojaaW.PrintMore
attribute [local go_sem] max2_int min2_int max_two min_two max_three min_three max_four min_four   -- for this text's walks alone
set_option linter.unusedVariables false
set_option linter.unusedSimpArgs false
theorem Moor.refShape_l0 {d an fr : Int} {els : List S46} {cs : List S57} (h : Moor.Ok d els an fr cs) (hs : Moor.stands els = true) (free : Bool) (n : Nat) : ∀ (k i : Nat), i + n = els.length → n + 40 ≤ k →
    isobathref02_Shape.l0 k (Moor.pulls free (Moor.on els cs)) (Moor.lifts els) (Moor.list (Moor.offsAt els (Moor.pulls free (Moor.on els cs)) (Moor.lifts els)) i) (Moor.list (Moor.riseAt els (Moor.pulls free (Moor.on els cs)) (Moor.lifts els)) i) (i : Int) d els an fr = some (Moor.list (Moor.offsAt els (Moor.pulls free (Moor.on els cs)) (Moor.lifts els)) els.length, Moor.list (Moor.riseAt els (Moor.pulls free (Moor.on els cs)) (Moor.lifts els)) els.length, 0) := by
  have hpl := h.pulllen free
  have hll := Moor.lifts_length els
  have h40 := h.n40
  induction n with
  | zero =>
    intro k i hi hk
    obtain ⟨k, rfl⟩ : ∃ m, k = m + 1 := ⟨k - 1, by omega⟩
    have e : i = els.length := by omega
    simp only [isobathref02_Shape.l0]
    rw [if_neg (by omega), e]
  | succ n ih =>
    intro k i hi hk
    obtain ⟨k, rfl⟩ : ∃ m, k = m + 1 := ⟨k - 1, by omega⟩
    have hlt : i < els.length := by omega
    obtain ⟨-, -, -, h4, h5, h6⟩ := h.at hs free hlt
    have hsm := Moor.list_small (val := Moor.offsAt els (Moor.pulls free (Moor.on els cs)) (Moor.lifts els)) h40 hlt
    have hsm2 := Moor.list_small (val := Moor.riseAt els (Moor.pulls free (Moor.on els cs)) (Moor.lifts els)) h40 hlt
    obtain ⟨r1, r2, r3, r4, _⟩ := Moor.sq_range h4
    have hb := h4
    obtain ⟨b1, b2, b3, b4, b5⟩ := hb
    have m0 := Moor.prod_range h5 h6 (x := (rd_T57 (Moor.pulls free (Moor.on els cs)) (i : Int)).f0) (by omega) (by omega)
    have m1 := Moor.prod_range h5 h6 (x := (rd_T57 (Moor.pulls free (Moor.on els cs)) (i : Int)).f1) (by omega) (by omega)
    have m2 := Moor.prod_range h5 h6 (x := rd (Moor.lifts els) (i : Int)) (by omega) (by omega)
    have u0 := Moor.root_pos r1 r2
    have u1 := Moor.root_pos r3 r4
    have u2 := Moor.rootUp_is (Int.le_trans (by decide) r1) r2
    have u3 := Moor.rootUp_is (Int.le_trans (by decide) r3) r4
    have ih' := ih k (i + 1) (by omega) (by omega)
    rw [Moor.list_succ, Moor.list_succ] at ih'
    simp only [isobathref02_Shape.l0]
    rw [if_pos (by omega), if_pos (by omega), if_pos (by omega), if_pos (by omega), Moor.sqL_wrap h4, Moor.sqH_wrap h4]
    rw [Moor.refRootUp (n := Moor.sqL _ _) (by omega) (by omega) (by omega), Option.bind_some, wrap_id (n := (rd_T46 els (i : Int)).f0 * (rd_T57 (Moor.pulls free (Moor.on els cs)) (i : Int)).f0) (by omega) (by omega), Moor.refDown (by omega) (by omega) (by omega), Option.bind_some]
    rw [Moor.refRoot (n := Moor.sqH _ _) (by omega) (by omega) (by omega), Option.bind_some, wrap_id (n := (rd_T46 els (i : Int)).f0 * (rd_T57 (Moor.pulls free (Moor.on els cs)) (i : Int)).f1) (by omega) (by omega), Moor.refUp (by omega) (by omega) (by omega) (by omega), Option.bind_some, if_pos (by omega)]
    rw [Moor.refRootUp (n := Moor.sqH _ _) (by omega) (by omega) (by omega), Option.bind_some, wrap_id (n := (rd_T46 els (i : Int)).f0 * rd (Moor.lifts els) (i : Int)) (by omega) (by omega), Moor.refDown (by omega) (by omega) (by omega), Option.bind_some]
    rw [Moor.refRoot (n := Moor.sqL _ _) (by omega) (by omega) (by omega), Option.bind_some, Moor.refUp (by omega) (by omega) (by omega) (by omega), Option.bind_some, if_pos (by omega), wrap_succ hlt (by omega), mn_min, mn_min]
    exact ih'
theorem Moor.refShape {d an fr : Int} {els : List S46} {cs : List S57} (hn : els.length ≤ 9223372036854775807) (free : Bool) {k : Nat} (hk : 2200 ≤ k) : isobathref02_Shape.f k d els an fr cs free = mooring_Shape.f d els an fr cs free := by
  unfold isobathref02_Shape.f mooring_Shape.f
  rw [Moor.refAll hn (by omega), Option.bind_some]
  by_cases he : Moor.err d els an fr cs true = 0
  · rw [if_pos he, if_pos he]
    obtain ⟨ho, hs⟩ := Moor.err_ok he
    have h40 := ho.n40
    rw [Moor.refPulls ho free (by omega), Option.bind_some, Moor.refLifts ho.n40 ho.elok (by omega), Option.bind_some]
    exact Moor.refShape_l0 ho (hs rfl) free els.length k 0 (by omega) (by omega)
  · rw [if_neg he, if_neg he]
theorem Moor.refSum_l0 {xs : List S57} (h40 : xs.length ≤ 40) (hm : ∀ x ∈ xs, Moor.midB x) (n : Nat) : ∀ (k i : Nat), i + n = xs.length → n < k →
    isobathref02_sum.l0 k xs (i : Int) (Moor.slo (xs.take i)) (Moor.shi (xs.take i)) = some (Moor.slo xs, Moor.shi xs) := by
  induction n with
  | zero =>
    intro k i hi hk
    obtain ⟨k, rfl⟩ : ∃ m, k = m + 1 := ⟨k - 1, by omega⟩
    simp only [isobathref02_sum.l0]
    rw [if_neg (by omega), List.take_of_length_le (by omega)]
  | succ n ih =>
    intro k i hi hk
    obtain ⟨k, rfl⟩ : ∃ m, k = m + 1 := ⟨k - 1, by omega⟩
    have hlt : i < xs.length := by omega
    have g := List.getElem?_eq_getElem hlt
    have b1 := Moor.mid_bound (on := xs.take i) (fun y hy => hm y (List.mem_of_mem_take hy))
    have b3 : (xs.take i).length ≤ 40 := by rw [List.length_take]; omega
    have hx := hm _ (List.getElem_mem hlt)
    unfold Moor.midB at hx
    have ih' := ih k (i + 1) (by omega) (by omega)
    rw [Moor.slo_take g, Moor.shi_take g] at ih'
    simp only [isobathref02_sum.l0]
    rw [if_pos (by omega), if_pos (by omega), Moor.rdS hlt, wrap_id (n := Moor.slo (xs.take i) + xs[i].f0) (by omega) (by omega), wrap_id (n := Moor.shi (xs.take i) + xs[i].f1) (by omega) (by omega), wrap_succ hlt (by omega)]
    exact ih'
theorem Moor.refSum {xs : List S57} (h40 : xs.length ≤ 40) (hm : ∀ x ∈ xs, Moor.midB x) {k : Nat} (hk : 41 ≤ k) : isobathref02_sum.f k xs = some (Moor.slo xs, Moor.shi xs) :=
  Moor.refSum_l0 h40 hm xs.length k 0 (by omega) (by omega)
theorem Moor.refTop {d an fr : Int} {els : List S46} {cs : List S57} (hn : els.length ≤ 9223372036854775807) (free : Bool) {k : Nat} (hk : 2200 ≤ k) : isobathref02_Top.f k d els an fr cs free = mooring_Top.f d els an fr cs free := by
  unfold isobathref02_Top.f mooring_Top.f
  rw [Moor.refShape hn free hk]
  unfold mooring_Shape.f
  by_cases he : Moor.err d els an fr cs true = 0
  · rw [if_pos he, if_pos he, Option.bind_some]
    obtain ⟨ho, hs⟩ := Moor.err_ok he
    simp only [if_true]
    rw [Moor.refSum (by rw [Moor.list_length]; exact ho.n40) (ho.rises_mid (hs rfl) free) (by omega), Option.bind_some]
  · rw [if_neg he, if_neg he, Option.bind_some]
    simp only
    rw [if_neg he]
theorem Moor.refCircle {d an fr : Int} {els : List S46} {cs : List S57} (hn : els.length ≤ 9223372036854775807) (free : Bool) {k : Nat} (hk : 2200 ≤ k) : isobathref02_Circle.f k d els an fr cs free = mooring_Circle.f d els an fr cs free := by
  unfold isobathref02_Circle.f mooring_Circle.f
  rw [Moor.refShape hn free hk]
  unfold mooring_Shape.f
  by_cases he : Moor.err d els an fr cs true = 0
  · rw [if_pos he, if_pos he, Option.bind_some]
    obtain ⟨ho, hs⟩ := Moor.err_ok he
    simp only [if_true]
    rw [Moor.refSum (by rw [Moor.list_length]; exact ho.n40) (ho.offs_mid (hs rfl) free) (by omega), Option.bind_some]
  · rw [if_neg he, if_neg he, Option.bind_some]
    simp only
    rw [if_neg he]
theorem Moor.refKnock_l0 {d an fr : Int} {els : List S46} {xs : List S57} (h40 : els.length ≤ 40) (hel : ∀ e ∈ els, Moor.elB e = true) (hx40 : xs.length ≤ 40) (hm : ∀ x ∈ xs, Moor.midB x) (n : Nat) : ∀ (k i : Nat), i + n = els.length → n + 45 ≤ k →
    isobathref02_Knock.l0 k xs (Moor.long (els.take i)) (i : Int) d els an fr = some (wrap64 (Moor.long els - Moor.shi xs), wrap64 (Moor.long els - Moor.slo xs), 0) := by
  induction n with
  | zero =>
    intro k i hi hk
    obtain ⟨k, rfl⟩ : ∃ m, k = m + 1 := ⟨k - 1, by omega⟩
    simp only [isobathref02_Knock.l0]
    rw [if_neg (by omega), List.take_of_length_le (by omega), Moor.refSum hx40 hm (by omega), Option.bind_some]
  | succ n ih =>
    intro k i hi hk
    obtain ⟨k, rfl⟩ : ∃ m, k = m + 1 := ⟨k - 1, by omega⟩
    have hlt : i < els.length := by omega
    have g := List.getElem?_eq_getElem hlt
    have b1 := Moor.long_bound (els := els.take i) (fun y hy => hel y (List.mem_of_mem_take hy))
    have b3 : (els.take i).length ≤ 40 := by rw [List.length_take]; omega
    have hx := Moor.elB_iff.1 (hel _ (List.getElem_mem hlt))
    have ih' := ih k (i + 1) (by omega) (by omega)
    rw [Moor.long_take g] at ih'
    simp only [isobathref02_Knock.l0]
    rw [if_pos (by omega), if_pos (by omega), Moor.rdE hlt, wrap_id (n := Moor.long (els.take i) + els[i].f0) (by omega) (by omega), wrap_succ hlt (by omega)]
    exact ih'
theorem Moor.refKnock {d an fr : Int} {els : List S46} {cs : List S57} (hn : els.length ≤ 9223372036854775807) (free : Bool) {k : Nat} (hk : 2200 ≤ k) : isobathref02_Knock.f k d els an fr cs free = mooring_Knock.f d els an fr cs free := by
  unfold isobathref02_Knock.f mooring_Knock.f
  rw [Moor.refShape hn free hk]
  unfold mooring_Shape.f
  by_cases he : Moor.err d els an fr cs true = 0
  · rw [if_pos he, if_pos he, Option.bind_some]
    obtain ⟨ho, hs⟩ := Moor.err_ok he
    have h40 := ho.n40
    simp only [if_true]
    exact Moor.refKnock_l0 ho.n40 ho.elok (by rw [Moor.list_length]; exact ho.n40) (ho.rises_mid (hs rfl) free) els.length k 0 (by omega) (by omega)
  · rw [if_neg he, if_neg he, Option.bind_some]
    simp only
    rw [if_neg he]
end Go.Proofs.Ytebcmhajbjkojaa.P
namespace Go.Proofs.Ytebcmhajbjkojaa.P
open Go.RowKit Go.Proofs.YtebcmhajbjkojaaW.PrintWords Go.Proofs.YtebcmhajbjkojaaW.PrintLast Go.Proofs.YtebcmhajbjkojaaW.PrintMore
attribute [local go_sem] max2_int min2_int max_two min_two max_three min_three max_four min_four   -- for this text's walks alone
set_option linter.unusedVariables false
set_option linter.unusedSimpArgs false
theorem Law2.shapes_j1 {d an fr : Int} {els : List S46} {cs : List S57} (free : Bool) (hn : els.length ≤ 60) {k : Nat} (hk : 2500 ≤ k) : isobathlaw02_MooringShapes.j1 k cs free false d els an fr = some true := by
  obtain ⟨k, rfl⟩ : ∃ m, k = m + 1 := ⟨k - 1, by omega⟩
  simp only [isobathlaw02_MooringShapes.j1]
  rw [if_neg (by decide), Moor.refKnock (by omega) free (by omega)]
  obtain ⟨a, b, e, h1⟩ := Moor.knock_some d els an fr cs free
  rw [h1]
  simp only [Option.bind_some, beq_self_eq_true, Bool.and_self, if_true]
  rw [Law2.fine (by omega), Option.bind_some]
theorem Law2.shapes_j0 {d an fr : Int} {els : List S46} {cs : List S57} (free : Bool) (hn : els.length ≤ 60) {k : Nat} (hk : 2501 ≤ k) : isobathlaw02_MooringShapes.j0 k cs free false d els an fr = some true := by
  obtain ⟨k, rfl⟩ : ∃ m, k = m + 1 := ⟨k - 1, by omega⟩
  simp only [isobathlaw02_MooringShapes.j0]
  rw [if_neg (by decide), Moor.refTop (by omega) free (by omega), Moor.refCircle (by omega) free (by omega)]
  obtain ⟨a, b, e, h1⟩ := Moor.top_some d els an fr cs free
  obtain ⟨c, g, h2⟩ := Moor.circle_some d els an fr cs free
  rw [h1, h2]
  simp only [Option.bind_some, beq_self_eq_true, Bool.not_true, Bool.or_self, Bool.false_eq_true, if_false, if_true, bne_self_eq_false]
  exact Law2.shapes_j1 free hn (by omega)
theorem Law2.shapes (d : Int) (els : List S46) (an fr : Int) (cs : List S57) (free : Bool) : isobathlaw02_MooringShapes.f 3000 d els an fr cs free = some true := by
  unfold isobathlaw02_MooringShapes.f
  rw [Law2.long, Option.bind_some]
  by_cases h : 60 < els.length ∨ 60 < cs.length
  · rw [decide_eq_true h, if_pos rfl, Law2.fine (by omega), Option.bind_some]
  rw [decide_eq_false h, if_neg (by decide), Moor.refShape (by omega) free (by omega)]
  obtain ⟨xs, ys, e, h1, h2, h3⟩ := Moor.shape_some d els an fr cs free (by omega)
  rw [h1]
  simp only [Option.bind_some]
  rw [Law2.spans_same h2 (by omega)]
  simp only [Option.bind_some, if_true]
  rw [Law2.spans_same h3 (by omega)]
  simp only [Option.bind_some, if_true, bne_self_eq_false]
  exact Law2.shapes_j0 free (by omega) (by omega)
theorem mooringShapes_holds : Rows.MooringShapesSaid := mooringShapes.proved fun m cs free _ _ => ⟨3000, Law2.shapes m.f0 m.f1 m.f2 m.f3 cs free⟩
#print axioms mooringShapes_holds
end Go.Proofs.Ytebcmhajbjkojaa.P
