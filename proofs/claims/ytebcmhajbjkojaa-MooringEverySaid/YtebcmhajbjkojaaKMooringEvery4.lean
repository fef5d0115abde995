/- The forces, tensions, offsets and rises of all moorings with pieces of a rig lie within the spans that the document tells. Part 5 of 6. -/
-- Put together by wip/tools/shake.py, a program of this work: out of the words that the kit's print tool (print.sh) writes for a claim and what wip/tools/xprint.py prints, those that this claim reaches, and this work's own texts.
import Derived.Deep.Slices
import Derived.Test.YtebcmhajbjkojaaRows
import Derived.WalkKit
import Derived.ProofKit
import Derived.OpenShut
import Derived.ShutString
import Derived.ChangeOld
import Derived.Below
import Derived.SizedLaws
import Derived.Carry
import Derived.Test.YtebcmhajbjkojaaKMooringEvery3
namespace Go.Proofs.Ytebcmhajbjkojaa.P
open Go.RowKit Go.Proofs.YtebcmhajbjkojaaW.PrintWords Go.Proofs.YtebcmhajbjkojaaW.PrintLast Go.Proofs.YtebcmhajbjkojaaW.PrintMore
attribute [local go_sem] max2_int min2_int max_two min_two max_three min_three max_four min_four   -- for this text's walks alone
set_option linter.unusedVariables false
set_option linter.unusedSimpArgs false
mutual
def isobathlaw02_MooringEvery.j0 : Nat → List (S69) → Bool → List Int → List (S57) → List (S57) → List (S57) → List (S57) → List Int → Int → Bool → Int → List (S46) → Int → Int → Option (Bool)
 | 0, _, _, _, _, _, _, _, _, _, _, _, _, _, _ => none
 | k + 1, x0, x3, x11, x12, x14, x16, x17, x19, x21, x116, x114000, x114001, x114002, x114003 => if x116 = true then (none) else (isobathlaw02_MooringEvery.l0 k x0 x3 x11 x12 x14 x16 x17 x19 x21 0 0 0 x114000 x114001 x114002 x114003)
def isobathlaw02_MooringEvery.l0 : Nat → List (S69) → Bool → List Int → List (S57) → List (S57) → List (S57) → List (S57) → List Int → Int → Int → Int → Int → Int → List (S46) → Int → Int → Option (Bool)
 | 0, _, _, _, _, _, _, _, _, _, _, _, _, _, _, _, _ => none
 | k + 1, x0, x3, x11, x12, x14, x16, x17, x19, x21, x22, x23, x24, x114000, x114001, x114002, x114003 => if x24 < x21 then (if x3 = true then (if 0 ≤ x24 then (if x24 < (x0.length : Int) then ((isobathlaw02_direction.f ((rd_T69 x0 x24).f7)).bind fun bt137 => (isobathlaw02_MooringEvery.j2 k x0 x3 x11 x12 x14 x16 x17 x19 x21 x22 x23 x24 bt137.1 bt137.2 x114000 x114001 x114002 x114003)) else (none)) else (none)) else (isobathlaw02_MooringEvery.j2 k x0 x3 x11 x12 x14 x16 x17 x19 x21 x22 x23 x24 5 0 x114000 x114001 x114002 x114003)) else ((isobathlaw02_fine.f k).bind fun t135 => (some t135))
def isobathlaw02_MooringEvery.j2 : Nat → List (S69) → Bool → List Int → List (S57) → List (S57) → List (S57) → List (S57) → List Int → Int → Int → Int → Int → Int → Int → Int → List (S46) → Int → Int → Option (Bool)
 | 0, _, _, _, _, _, _, _, _, _, _, _, _, _, _, _, _, _, _ => none
 | k + 1, x0, x3, x11, x12, x14, x16, x17, x19, x21, x22, x23, x24, x25, x26, x114000, x114001, x114002, x114003 => if 0 ≤ x24 then (if x24 < (x114001.length : Int) then (if x24 < (x11.length : Int) then (isobathlaw02_MooringEvery.j3 k x0 x3 x11 x12 x14 x16 x17 x19 x21 x22 x23 x24 x25 x26 (wrap64 ((wrap64 (((rd_T46 x114001 x24).f2) * (rd x11 x24))) * (rd x11 x24))) x114000 x114001 x114002 x114003) else (none)) else (none)) else (none)
def isobathlaw02_MooringEvery.j3 : Nat → List (S69) → Bool → List Int → List (S57) → List (S57) → List (S57) → List (S57) → List Int → Int → Int → Int → Int → Int → Int → Int → Int → List (S46) → Int → Int → Option (Bool)
 | 0, _, _, _, _, _, _, _, _, _, _, _, _, _, _, _, _, _, _, _ => none
 | k + 1, x0, x3, x11, x12, x14, x16, x17, x19, x21, x22, x23, x24, x25, x26, x27, x114000, x114001, x114002, x114003 => isobathlaw02_MooringEvery.j4 k x0 x3 x11 x12 x14 x16 x17 x19 x21 (wrap64 (x22 + (wrap64 (x25 * x27)))) (wrap64 (x23 + (wrap64 (x26 * x27)))) x24 x114000 x114001 x114002 x114003
def isobathlaw02_MooringEvery.j4 : Nat → List (S69) → Bool → List Int → List (S57) → List (S57) → List (S57) → List (S57) → List Int → Int → Int → Int → Int → Int → List (S46) → Int → Int → Option (Bool)
 | 0, _, _, _, _, _, _, _, _, _, _, _, _, _, _, _, _ => none
 | k + 1, x0, x3, x11, x12, x14, x16, x17, x19, x21, x22, x23, x24, x114000, x114001, x114002, x114003 => if 0 ≤ x24 then (if x24 < (x19.length : Int) then (isobathlaw02_MooringEvery.j5 k x0 x3 x11 x12 x14 x16 x17 x19 x21 x22 x23 x24 (wrap64 ((wrap64 (x22 * x22)) + (wrap64 (x23 * x23)))) (wrap64 ((wrap64 ((wrap64 (x22 * x22)) + (wrap64 (x23 * x23)))) + (wrap64 ((wrap64 (25 * (rd x19 x24))) * (rd x19 x24))))) x114000 x114001 x114002 x114003) else (none)) else (none)
def isobathlaw02_MooringEvery.j5 : Nat → List (S69) → Bool → List Int → List (S57) → List (S57) → List (S57) → List (S57) → List Int → Int → Int → Int → Int → Int → Int → Int → List (S46) → Int → Int → Option (Bool)
 | 0, _, _, _, _, _, _, _, _, _, _, _, _, _, _, _, _, _, _ => none
 | k + 1, x0, x3, x11, x12, x14, x16, x17, x19, x21, x22, x23, x24, x28, x29, x114000, x114001, x114002, x114003 => if 0 ≤ x24 then (if x24 < (x12.length : Int) then (if x28 < (wrap64 ((wrap64 (25 * ((rd_T57 x12 x24).f0))) * ((rd_T57 x12 x24).f0))) then (none) else (if x28 > (wrap64 ((wrap64 (25 * ((rd_T57 x12 x24).f1))) * ((rd_T57 x12 x24).f1))) then (none) else (if x24 < (x14.length : Int) then (if x29 < (wrap64 ((wrap64 (25 * ((rd_T57 x14 x24).f0))) * ((rd_T57 x14 x24).f0))) then (none) else (isobathlaw02_MooringEvery.j6 k x0 x3 x11 x12 x14 x16 x17 x19 x21 x22 x23 x24 x28 x29 (decide (x29 > (wrap64 ((wrap64 (25 * ((rd_T57 x14 x24).f1))) * ((rd_T57 x14 x24).f1))))) x114000 x114001 x114002 x114003)) else (none)))) else (none)) else (none)
def isobathlaw02_MooringEvery.j6 : Nat → List (S69) → Bool → List Int → List (S57) → List (S57) → List (S57) → List (S57) → List Int → Int → Int → Int → Int → Int → Int → Bool → Int → List (S46) → Int → Int → Option (Bool)
 | 0, _, _, _, _, _, _, _, _, _, _, _, _, _, _, _, _, _, _, _ => none
 | k + 1, x0, x3, x11, x12, x14, x16, x17, x19, x21, x22, x23, x24, x28, x29, x238, x114000, x114001, x114002, x114003 => if x238 = true then (none) else (if 0 ≤ x24 then (if x24 < (x114001.length : Int) then (if x24 < (x16.length : Int) then (if (wrap64 ((wrap64 (((rd_T57 x16 x24).f0) * ((rd_T57 x16 x24).f0))) * x29)) > (wrap64 ((wrap64 (((rd_T46 x114001 x24).f0) * ((rd_T46 x114001 x24).f0))) * x28)) then (none) else (isobathlaw02_MooringEvery.j7 k x0 x3 x11 x12 x14 x16 x17 x19 x21 x22 x23 x24 x29 ((rd_T46 x114001 x24).f0) (decide ((wrap64 ((wrap64 (((rd_T57 x16 x24).f1) * ((rd_T57 x16 x24).f1))) * x29)) < (wrap64 ((wrap64 (((rd_T46 x114001 x24).f0) * ((rd_T46 x114001 x24).f0))) * x28)))) x114000 x114001 x114002 x114003)) else (none)) else (none)) else (none))
def isobathlaw02_MooringEvery.j7 : Nat → List (S69) → Bool → List Int → List (S57) → List (S57) → List (S57) → List (S57) → List Int → Int → Int → Int → Int → Int → Int → Bool → Int → List (S46) → Int → Int → Option (Bool)
 | 0, _, _, _, _, _, _, _, _, _, _, _, _, _, _, _, _, _, _, _ => none
 | k + 1, x0, x3, x11, x12, x14, x16, x17, x19, x21, x22, x23, x24, x29, x30, x284, x114000, x114001, x114002, x114003 => if x284 = true then (none) else (if 0 ≤ x24 then (if x24 < (x17.length : Int) then (if x24 < (x19.length : Int) then (if (wrap64 ((wrap64 (((rd_T57 x17 x24).f0) * ((rd_T57 x17 x24).f0))) * x29)) > (wrap64 ((wrap64 ((wrap64 ((wrap64 (25 * x30)) * x30)) * (rd x19 x24))) * (rd x19 x24))) then (none) else (if (wrap64 ((wrap64 (((rd_T57 x17 x24).f1) * ((rd_T57 x17 x24).f1))) * x29)) < (wrap64 ((wrap64 ((wrap64 ((wrap64 (25 * x30)) * x30)) * (rd x19 x24))) * (rd x19 x24))) then (none) else (isobathlaw02_MooringEvery.l0 k x0 x3 x11 x12 x14 x16 x17 x19 x21 x22 x23 (wrap64 (x24 + 1)) x114000 x114001 x114002 x114003))) else (none)) else (none)) else (none))
end
def isobathlaw02_MooringEvery.f (k : Nat) (l0 : List (S69)) (a1 : Int) (a2 : Int) (a3 : Bool) : Option (Bool) := (isobathlaw02_rig.f k l0 a1 a2).bind fun bt101 => (if (bt101.2.1.length : Int) = 0 then ((mooring_Check.f k bt101.1 bt101.2.1 bt101.2.2.1 bt101.2.2.2.1).bind fun t114 => (if t114 = 2 then ((isobathlaw02_fine.f k).bind fun t115 => (some t115)) else (none))) else ((mooring_Pulls.f bt101.1 bt101.2.1 bt101.2.2.1 bt101.2.2.2.1 bt101.2.2.2.2.1 a3).bind fun bt116 => ((mooring_Tensions.f bt101.1 bt101.2.1 bt101.2.2.1 bt101.2.2.2.1 bt101.2.2.2.2.1 a3).bind fun bt120 => ((mooring_Shape.f bt101.1 bt101.2.1 bt101.2.2.1 bt101.2.2.2.1 bt101.2.2.2.2.1 a3).bind fun bt124 => ((mooring_Lifts.f bt101.1 bt101.2.1 bt101.2.2.1 bt101.2.2.2.1).bind fun bt131 => (if (wrap64 ((wrap64 ((wrap64 (bt116.2 + bt120.2)) + bt124.2.2)) + bt131.2)) = 0 then (if (bt116.1.length : Int) = (bt101.2.1.length : Int) then (if (bt120.1.length : Int) = (bt101.2.1.length : Int) then (if (bt124.1.length : Int) = (bt101.2.1.length : Int) then (if (bt124.2.1.length : Int) = (bt101.2.1.length : Int) then (isobathlaw02_MooringEvery.j0 k l0 a3 bt101.2.2.2.2.2 bt116.1 bt120.1 bt124.1 bt124.2.1 bt131.1 (bt101.2.1.length : Int) ((bt131.1.length : Int) != (bt101.2.1.length : Int)) bt101.1 bt101.2.1 bt101.2.2.1 bt101.2.2.2.1) else (none)) else (none)) else (none)) else (none)) else (none)))))))
set_option maxHeartbeats 8000000 in
set_option maxRecDepth 100000 in
theorem isobathlaw02_MooringEvery.calls (k : Nat) (A0 : Option Addr) (c0 : Nat) (l0 : List (S69)) (a1 : Int) (a2 : Int) (a3 : Bool) (r : Bool) (w : World) (hr0 : Kd.C k69 w A0 l0.length l0) (hc0 : l0.length ≤ c0) (h : isobathlaw02_MooringEvery.f k l0 a1 a2 a3 = some r) :
  Calls Try.prog 9 #[.slice A0 l0.length c0, .int .u16 a1, .int .u16 a2, .bool a3] w fun e w' => e = .returned (.bool r) ∧ Below w.heap.size w w' := by
 have hu37 := Try.underlying37
 have HR0 := Aside0.mk hr0
 have HC0 := Aside0.mk hc0
 clear hr0 hc0
 have HB := Aside0.mk (Below.refl w.heap.size w)
 have H : ((isobathlaw02_rig.f k l0 a1 a2).bind fun bt101 => (if (bt101.2.1.length : Int) = 0 then ((mooring_Check.f k bt101.1 bt101.2.1 bt101.2.2.1 bt101.2.2.2.1).bind fun t114 => (if t114 = 2 then ((isobathlaw02_fine.f k).bind fun t115 => (some t115)) else (none))) else ((mooring_Pulls.f bt101.1 bt101.2.1 bt101.2.2.1 bt101.2.2.2.1 bt101.2.2.2.2.1 a3).bind fun bt116 => ((mooring_Tensions.f bt101.1 bt101.2.1 bt101.2.2.1 bt101.2.2.2.1 bt101.2.2.2.2.1 a3).bind fun bt120 => ((mooring_Shape.f bt101.1 bt101.2.1 bt101.2.2.1 bt101.2.2.2.1 bt101.2.2.2.2.1 a3).bind fun bt124 => ((mooring_Lifts.f bt101.1 bt101.2.1 bt101.2.2.1 bt101.2.2.2.1).bind fun bt131 => (if (wrap64 ((wrap64 ((wrap64 (bt116.2 + bt120.2)) + bt124.2.2)) + bt131.2)) = 0 then (if (bt116.1.length : Int) = (bt101.2.1.length : Int) then (if (bt120.1.length : Int) = (bt101.2.1.length : Int) then (if (bt124.1.length : Int) = (bt101.2.1.length : Int) then (if (bt124.2.1.length : Int) = (bt101.2.1.length : Int) then (isobathlaw02_MooringEvery.j0 k l0 a3 bt101.2.2.2.2.2 bt116.1 bt120.1 bt124.1 bt124.2.1 bt131.1 (bt101.2.1.length : Int) ((bt131.1.length : Int) != (bt101.2.1.length : Int)) bt101.1 bt101.2.1 bt101.2.2.1 bt101.2.2.2.1) else (none)) else (none)) else (none)) else (none)) else (none)))))))) = some r := h
 clear h
 replace H := Option.bind_eq_some_iff.mp H
 obtain ⟨⟨t101, t102, t105, t106, t107, t110⟩, A50, H⟩ := H
 replace H : (if (t102.length : Int) = 0 then ((mooring_Check.f k t101 t102 t105 t106).bind fun t114 => (if t114 = 2 then ((isobathlaw02_fine.f k).bind fun t115 => (some t115)) else (none))) else ((mooring_Pulls.f t101 t102 t105 t106 t107 a3).bind fun bt116 => ((mooring_Tensions.f t101 t102 t105 t106 t107 a3).bind fun bt120 => ((mooring_Shape.f t101 t102 t105 t106 t107 a3).bind fun bt124 => ((mooring_Lifts.f t101 t102 t105 t106).bind fun bt131 => (if (wrap64 ((wrap64 ((wrap64 (bt116.2 + bt120.2)) + bt124.2.2)) + bt131.2)) = 0 then (if (bt116.1.length : Int) = (t102.length : Int) then (if (bt120.1.length : Int) = (t102.length : Int) then (if (bt124.1.length : Int) = (t102.length : Int) then (if (bt124.2.1.length : Int) = (t102.length : Int) then (isobathlaw02_MooringEvery.j0 k l0 a3 t110 bt116.1 bt120.1 bt124.1 bt124.2.1 bt131.1 (t102.length : Int) ((bt131.1.length : Int) != (t102.length : Int)) t101 t102 t105 t106) else (none)) else (none)) else (none)) else (none)) else (none))))))) = some r := H
 have A5 := Aside0.mk A50
 clear A50
 by_cases c6 : (t102.length : Int) = 0
 ·rw [if_pos c6] at H
  have c6b0 : ((t102.length : Int) == 0) = true := beq_iff_eq.mpr c6
  have c6b1 : ((t102.length : Int) != 0) = false := bne_eq_false_iff_eq.mpr c6
  clear c6
  replace H := Option.bind_eq_some_iff.mp H
  obtain ⟨t114, A70, H⟩ := H
  replace H : (if t114 = 2 then ((isobathlaw02_fine.f k).bind fun t115 => (some t115)) else (none)) = some r := H
  have A7 := Aside0.mk A70
  clear A70
  by_cases c8 : t114 = 2
  ·rw [if_pos c8] at H
   have c8b0 : (t114 == 2) = true := beq_iff_eq.mpr c8
   have c8b1 : (t114 != 2) = false := bne_eq_false_iff_eq.mpr c8
   clear c8
   replace H := Option.bind_eq_some_iff.mp H
   obtain ⟨t115, A90, H⟩ := H
   replace H : (some t115) = some r := H
   have A9 := Aside0.mk A90
   clear A90
   as_aux_lemma =>
    obtain rfl := Option.some.inj H
    go_enter Try.func9, Try.ntmps9
    iterate 4 (try (go_wp2_with (first | (go_at_call 44; (with_reducible refine (isobathlaw02_rig.calls k _ _ l0 a1 a2 t101 t102 t105 t106 t107 t110 _ ?side1 ?side2 A5.out).mono ?_); (case side1 => repeat (first | exact HR0.out | (with_reducible refine Kd.C_alloc ?_ _) | (with_reducible refine Kd.C_drewN ?_ _) | (with_reducible refine Kd.C_drew ?_))); (case side2 => exact HC0.out); rintro e w10 ⟨v103, v108, v111, rfl, ho0, ho1, ho2, hb⟩; have n0_ := Aside0.mk (Kd.R_lower ho0 (below_size (by repeat (first | (with_reducible first | exact HB.out | apply below_alloc | apply pw_below_drewN | apply below_drew1) | exact HB.out)))); have n1_ := Aside0.mk (Kd.R_lower ho1 (below_size (by repeat (first | (with_reducible first | exact HB.out | apply below_alloc | apply pw_below_drewN | apply below_drew1) | exact HB.out)))); have n2_ := Aside0.mk (Kd.R_lower ho2 (below_size (by repeat (first | (with_reducible first | exact HB.out | apply below_alloc | apply pw_below_drewN | apply below_drew1) | exact HB.out)))); have n3_ := Aside0.mk (below_step (by repeat (first | (with_reducible first | exact HB.out | apply below_alloc | apply pw_below_drewN | apply below_drew1) | exact HB.out)) hb); clear HB; have HO104 := n0_; have HO109 := n1_; have HO112 := n2_; have HB := n3_; clear n0_ n1_ n2_ n3_; (try clear hb); (try clear hb2); (try clear hk); (try clear hi); (try clear ho0); (try clear ho1); (try clear ho2)) | ((with_reducible refine gate_dst (N := 9) rfl ?_); (try (refine gate_guard (by rfl) ?_; dsimp only)); refine box_event ?hg (N := 9) ?hd (cs := #[.int .i64 0, .slice none 0 0, .int .i64 0, .int .i64 0]) (t := 37) ?hr ?_; (case hd => rfl); (case hg => rfl); (case hr => first | (go_simp; done) | (go_simp; rfl)); intro gb113 hg w11 hbox hb; have n0_ := Aside0.mk (Kd.R_below (by (with_reducible repeat (first | apply Kd.R_alloc | apply Kd.R_drewN | apply Kd.R_drew)); exact HO104.out) hb); have n1_ := Aside0.mk (Kd.R_below (by (with_reducible repeat (first | apply Kd.R_alloc | apply Kd.R_drewN | apply Kd.R_drew)); exact HO109.out) hb); have n2_ := Aside0.mk (Kd.R_below (by (with_reducible repeat (first | apply Kd.R_alloc | apply Kd.R_drewN | apply Kd.R_drew)); exact HO112.out) hb); have n3_ := Aside0.mk (below_step (by repeat (first | (with_reducible first | exact HB.out | apply below_alloc | apply pw_below_drewN | apply below_drew1) | exact HB.out)) hb); have n4_ := Aside0.mk (hbox); have n5_ := Aside0.mk ((by rw [hg]; exact (below_size (by repeat (first | (with_reducible first | exact HB.out | apply below_alloc | apply pw_below_drewN | apply below_drew1) | exact HB.out))) : w.heap.size ≤ gb113)); have n6_ := Aside0.mk ((by rw [hg]; exact (below_size (by repeat (first | (with_reducible first | exact HB.out | apply below_alloc | apply pw_below_drewN | apply below_drew1) | exact HB.out))) : w.heap.size ≤ gb113)); clear HO104; clear HO109; clear HO112; clear HB; have HO104 := n0_; have HO109 := n1_; have HO112 := n2_; have HB := n3_; have BK113 := n4_; have GW113 := n5_; have GE113 := n6_; clear n0_ n1_ n2_ n3_ n4_ n5_ n6_; clear hb hbox hg; have hcz12_0 : w11.cell? ⟨gb113, 0, none⟩ = some (.int .i64 0) := (blk_cell BK113.out 0).trans rfl; have hcz12_1 : w11.cell? ⟨gb113, 1, none⟩ = some (.slice none 0 0) := (blk_cell BK113.out 1).trans rfl; have hcz12_2 : w11.cell? ⟨gb113, 2, none⟩ = some (.int .i64 0) := (blk_cell BK113.out 2).trans rfl; have hcz12_3 : w11.cell? ⟨gb113, 3, none⟩ = some (.int .i64 0) := (blk_cell BK113.out 3).trans rfl; have hfz12_0 := blk_frozen BK113.out 0; have hfz12_1 := blk_frozen BK113.out 1; have hfz12_2 := blk_frozen BK113.out 2; have hfz12_3 := blk_frozen BK113.out 3; obtain ⟨Ao13, co13, eo13⟩ := Kd.R_slice HO104.out; subst eo13) | (go_at_call 38; (with_reducible refine (mooring_Check.calls k t101 _ _ t102 t105 t106 t114 _ ?side1 ?side2 A7.out).mono ?_); (case side1 => refine (Kd.R_reads' (e := 46) (base := w.heap.size) (ok := fun k_ => True) (n := t102.length) (c := co13) ?_).2.2; exact (by (with_reducible repeat (first | apply Kd.R_alloc | apply Kd.R_drewN | apply Kd.R_drew)); exact (Kd.R_mono (Kd.R_far (p := ⟨gb113, 3, none⟩) (Kd.R_far (p := ⟨gb113, 2, none⟩) (Kd.R_far (p := ⟨gb113, 1, none⟩) (Kd.R_far (p := ⟨gb113, 0, none⟩) (Kd.R_types HO104.out BK113.out (by decide)) (fun _ hk => hk.2) (.int .i64 t101)) (fun _ hk => hk.2) (.slice Ao13 t102.length co13)) (fun _ hk => hk.2) (.int .i64 t105)) (fun _ hk => hk.2) (.int .i64 t106)) (fun _ h_ => h_.1)))); (case side2 => exact (Kd.R_reads' HO104.out).2.1); rintro e w14 ⟨rfl, hb⟩; have n0_ := Aside0.mk (Kd.R_below (by (with_reducible repeat (first | apply Kd.R_alloc | apply Kd.R_drewN | apply Kd.R_drew)); exact (Kd.R_mono (Kd.R_far (p := ⟨gb113, 3, none⟩) (Kd.R_far (p := ⟨gb113, 2, none⟩) (Kd.R_far (p := ⟨gb113, 1, none⟩) (Kd.R_far (p := ⟨gb113, 0, none⟩) (Kd.R_types HO104.out BK113.out (by decide)) (fun _ hk => hk.2) (.int .i64 t101)) (fun _ hk => hk.2) (.slice Ao13 t102.length co13)) (fun _ hk => hk.2) (.int .i64 t105)) (fun _ hk => hk.2) (.int .i64 t106)) (fun _ h_ => h_.1))) hb); have n1_ := Aside0.mk (Kd.R_below (by (with_reducible repeat (first | apply Kd.R_alloc | apply Kd.R_drewN | apply Kd.R_drew)); exact (Kd.R_mono (Kd.R_far (p := ⟨gb113, 3, none⟩) (Kd.R_far (p := ⟨gb113, 2, none⟩) (Kd.R_far (p := ⟨gb113, 1, none⟩) (Kd.R_far (p := ⟨gb113, 0, none⟩) (Kd.R_types HO109.out BK113.out (by decide)) (fun _ hk => hk.2) (.int .i64 t101)) (fun _ hk => hk.2) (.slice Ao13 t102.length co13)) (fun _ hk => hk.2) (.int .i64 t105)) (fun _ hk => hk.2) (.int .i64 t106)) (fun _ h_ => h_.1))) hb); have n2_ := Aside0.mk (Kd.R_below (by (with_reducible repeat (first | apply Kd.R_alloc | apply Kd.R_drewN | apply Kd.R_drew)); exact (Kd.R_mono (Kd.R_far (p := ⟨gb113, 3, none⟩) (Kd.R_far (p := ⟨gb113, 2, none⟩) (Kd.R_far (p := ⟨gb113, 1, none⟩) (Kd.R_far (p := ⟨gb113, 0, none⟩) (Kd.R_types HO112.out BK113.out (by decide)) (fun _ hk => hk.2) (.int .i64 t101)) (fun _ hk => hk.2) (.slice Ao13 t102.length co13)) (fun _ hk => hk.2) (.int .i64 t105)) (fun _ hk => hk.2) (.int .i64 t106)) (fun _ h_ => h_.1))) hb); have n3_ := Aside0.mk (blk_below (g := gb113) (o := .cells #[.int .i64 t101, .slice Ao13 t102.length co13, .int .i64 t105, .int .i64 t106] 37 (0, 0)) (by (with_reducible repeat (first | refine blk_drewN ?_ _ | refine blk_drew ?_ | refine blk_alloc ?_ _)); refine blk_put (cs := #[.int .i64 t101, .slice Ao13 t102.length co13, .int .i64 t105, .int .i64 0]) ?_ 3 _ rfl; (with_reducible repeat (first | refine blk_drewN ?_ _ | refine blk_drew ?_ | refine blk_alloc ?_ _)); refine blk_put (cs := #[.int .i64 t101, .slice Ao13 t102.length co13, .int .i64 0, .int .i64 0]) ?_ 2 _ rfl; (with_reducible repeat (first | refine blk_drewN ?_ _ | refine blk_drew ?_ | refine blk_alloc ?_ _)); refine blk_put (cs := #[.int .i64 t101, .slice none 0 0, .int .i64 0, .int .i64 0]) ?_ 1 _ rfl; (with_reducible repeat (first | refine blk_drewN ?_ _ | refine blk_drew ?_ | refine blk_alloc ?_ _)); refine blk_put (cs := #[.int .i64 0, .slice none 0 0, .int .i64 0, .int .i64 0]) ?_ 0 _ rfl; (with_reducible repeat (first | refine blk_drewN ?_ _ | refine blk_drew ?_ | refine blk_alloc ?_ _)); exact BK113.out) hb); have n4_ := Aside0.mk (below_step (by repeat (first | (with_reducible first | exact HB.out | apply below_alloc | apply pw_below_drewN | apply below_drew1 | refine below_set ?_ GE113.out) | exact HB.out)) hb); clear HO104; clear HO109; clear HO112; clear BK113; clear HB; have HO104 := n0_; have HO109 := n1_; have HO112 := n2_; have BK113 := n3_; have HB := n4_; clear n0_ n1_ n2_ n3_ n4_; (try clear hb); (try clear hb2); (try clear hk); (try clear hi)) | (go_at_call 14; (with_reducible refine (isobathlaw02_fine.calls k  t115 _ A9.out).mono ?_); rintro e w15 ⟨rfl, hb⟩; have n0_ := Aside0.mk (Kd.R_below (by (with_reducible repeat (first | apply Kd.R_alloc | apply Kd.R_drewN | apply Kd.R_drew)); exact HO104.out) hb); have n1_ := Aside0.mk (Kd.R_below (by (with_reducible repeat (first | apply Kd.R_alloc | apply Kd.R_drewN | apply Kd.R_drew)); exact HO109.out) hb); have n2_ := Aside0.mk (Kd.R_below (by (with_reducible repeat (first | apply Kd.R_alloc | apply Kd.R_drewN | apply Kd.R_drew)); exact HO112.out) hb); have n3_ := Aside0.mk (blk_below (g := gb113) (o := .cells #[.int .i64 t101, .slice Ao13 t102.length co13, .int .i64 t105, .int .i64 t106] 37 (0, 0)) (by (with_reducible repeat (first | refine blk_drewN ?_ _ | refine blk_drew ?_ | refine blk_alloc ?_ _)); exact BK113.out) hb); have n4_ := Aside0.mk (below_step (by repeat (first | (with_reducible first | exact HB.out | apply below_alloc | apply pw_below_drewN | apply below_drew1 | refine below_set ?_ GE113.out) | exact HB.out)) hb); clear HO104; clear HO109; clear HO112; clear BK113; clear HB; have HO104 := n0_; have HO109 := n1_; have HO112 := n2_; have BK113 := n3_; have HB := n4_; clear n0_ n1_ n2_ n3_ n4_; (try clear hb); (try clear hb2); (try clear hk); (try clear hi))); try (go_quiet (fail))))
    go_ret
    exact ⟨by first | rfl | (simp [errW_none, errW_some] <;> rfl) | (simp [*, errW_none, errW_some] <;> rfl), by repeat (first | (with_reducible first | exact HB.out | apply below_alloc | apply pw_below_drewN | apply below_drew1 | refine below_set ?_ GE113.out) | exact HB.out)⟩
  ·rw [if_neg c8] at H
   exact absurd H (by simp)
 ·rw [if_neg c6] at H
  have c6b0 : ((t102.length : Int) == 0) = false := beq_eq_false_iff_ne.mpr c6
  have c6b1 : ((t102.length : Int) != 0) = true := bne_iff_ne.mpr c6
  have c6b2 : ¬ (t102 = []) := fun h_ => c6 (by rw [h_]; rfl)
  replace H := Option.bind_eq_some_iff.mp H
  obtain ⟨⟨t116, t119⟩, A160, H⟩ := H
  replace H : ((mooring_Tensions.f t101 t102 t105 t106 t107 a3).bind fun bt120 => ((mooring_Shape.f t101 t102 t105 t106 t107 a3).bind fun bt124 => ((mooring_Lifts.f t101 t102 t105 t106).bind fun bt131 => (if (wrap64 ((wrap64 ((wrap64 (t119 + bt120.2)) + bt124.2.2)) + bt131.2)) = 0 then (if (t116.length : Int) = (t102.length : Int) then (if (bt120.1.length : Int) = (t102.length : Int) then (if (bt124.1.length : Int) = (t102.length : Int) then (if (bt124.2.1.length : Int) = (t102.length : Int) then (isobathlaw02_MooringEvery.j0 k l0 a3 t110 t116 bt120.1 bt124.1 bt124.2.1 bt131.1 (t102.length : Int) ((bt131.1.length : Int) != (t102.length : Int)) t101 t102 t105 t106) else (none)) else (none)) else (none)) else (none)) else (none))))) = some r := H
  have A16 := Aside0.mk A160
  clear A160
  replace H := Option.bind_eq_some_iff.mp H
  obtain ⟨⟨t120, t123⟩, A170, H⟩ := H
  replace H : ((mooring_Shape.f t101 t102 t105 t106 t107 a3).bind fun bt124 => ((mooring_Lifts.f t101 t102 t105 t106).bind fun bt131 => (if (wrap64 ((wrap64 ((wrap64 (t119 + t123)) + bt124.2.2)) + bt131.2)) = 0 then (if (t116.length : Int) = (t102.length : Int) then (if (t120.length : Int) = (t102.length : Int) then (if (bt124.1.length : Int) = (t102.length : Int) then (if (bt124.2.1.length : Int) = (t102.length : Int) then (isobathlaw02_MooringEvery.j0 k l0 a3 t110 t116 t120 bt124.1 bt124.2.1 bt131.1 (t102.length : Int) ((bt131.1.length : Int) != (t102.length : Int)) t101 t102 t105 t106) else (none)) else (none)) else (none)) else (none)) else (none)))) = some r := H
  have A17 := Aside0.mk A170
  clear A170
  replace H := Option.bind_eq_some_iff.mp H
  obtain ⟨⟨t124, t127, t130⟩, A180, H⟩ := H
  replace H : ((mooring_Lifts.f t101 t102 t105 t106).bind fun bt131 => (if (wrap64 ((wrap64 ((wrap64 (t119 + t123)) + t130)) + bt131.2)) = 0 then (if (t116.length : Int) = (t102.length : Int) then (if (t120.length : Int) = (t102.length : Int) then (if (t124.length : Int) = (t102.length : Int) then (if (t127.length : Int) = (t102.length : Int) then (isobathlaw02_MooringEvery.j0 k l0 a3 t110 t116 t120 t124 t127 bt131.1 (t102.length : Int) ((bt131.1.length : Int) != (t102.length : Int)) t101 t102 t105 t106) else (none)) else (none)) else (none)) else (none)) else (none))) = some r := H
  have A18 := Aside0.mk A180
  clear A180
  replace H := Option.bind_eq_some_iff.mp H
  obtain ⟨⟨t131, t134⟩, A190, H⟩ := H
  replace H : (if (wrap64 ((wrap64 ((wrap64 (t119 + t123)) + t130)) + t134)) = 0 then (if (t116.length : Int) = (t102.length : Int) then (if (t120.length : Int) = (t102.length : Int) then (if (t124.length : Int) = (t102.length : Int) then (if (t127.length : Int) = (t102.length : Int) then (isobathlaw02_MooringEvery.j0 k l0 a3 t110 t116 t120 t124 t127 t131 (t102.length : Int) ((t131.length : Int) != (t102.length : Int)) t101 t102 t105 t106) else (none)) else (none)) else (none)) else (none)) else (none)) = some r := H
  have A19 := Aside0.mk A190
  clear A190
  have HC20 := Aside0.mk H
  clear H
  go_enter Try.func9, Try.ntmps9
  go_upto_region 9 with (first | (go_at_call 44; (with_reducible refine (isobathlaw02_rig.calls k _ _ l0 a1 a2 t101 t102 t105 t106 t107 t110 _ ?side1 ?side2 A5.out).mono ?_); (case side1 => repeat (first | exact HR0.out | (with_reducible refine Kd.C_alloc ?_ _) | (with_reducible refine Kd.C_drewN ?_ _) | (with_reducible refine Kd.C_drew ?_))); (case side2 => exact HC0.out); rintro e w21 ⟨v103, v108, v111, rfl, ho0, ho1, ho2, hb⟩; have n0_ := Aside0.mk (Kd.R_lower ho0 (below_size (by repeat (first | (with_reducible first | exact HB.out | apply below_alloc | apply pw_below_drewN | apply below_drew1) | exact HB.out)))); have n1_ := Aside0.mk (Kd.R_lower ho1 (below_size (by repeat (first | (with_reducible first | exact HB.out | apply below_alloc | apply pw_below_drewN | apply below_drew1) | exact HB.out)))); have n2_ := Aside0.mk (Kd.R_lower ho2 (below_size (by repeat (first | (with_reducible first | exact HB.out | apply below_alloc | apply pw_below_drewN | apply below_drew1) | exact HB.out)))); have n3_ := Aside0.mk (below_step (by repeat (first | (with_reducible first | exact HB.out | apply below_alloc | apply pw_below_drewN | apply below_drew1) | exact HB.out)) hb); clear HB; have HO104 := n0_; have HO109 := n1_; have HO112 := n2_; have HB := n3_; clear n0_ n1_ n2_ n3_; (try clear hb); (try clear hb2); (try clear hk); (try clear hi); (try clear ho0); (try clear ho1); (try clear ho2)) | ((with_reducible refine gate_dst (N := 9) rfl ?_); (try (refine gate_guard (by rfl) ?_; dsimp only)); refine box_event ?hg (N := 9) ?hd (cs := #[.int .i64 0, .slice none 0 0, .int .i64 0, .int .i64 0]) (t := 37) ?hr ?_; (case hd => rfl); (case hg => rfl); (case hr => first | (go_simp; done) | (go_simp; rfl)); intro gb113 hg w22 hbox hb; have n0_ := Aside0.mk (Kd.R_below (by (with_reducible repeat (first | apply Kd.R_alloc | apply Kd.R_drewN | apply Kd.R_drew)); exact HO104.out) hb); have n1_ := Aside0.mk (Kd.R_below (by (with_reducible repeat (first | apply Kd.R_alloc | apply Kd.R_drewN | apply Kd.R_drew)); exact HO109.out) hb); have n2_ := Aside0.mk (Kd.R_below (by (with_reducible repeat (first | apply Kd.R_alloc | apply Kd.R_drewN | apply Kd.R_drew)); exact HO112.out) hb); have n3_ := Aside0.mk (below_step (by repeat (first | (with_reducible first | exact HB.out | apply below_alloc | apply pw_below_drewN | apply below_drew1) | exact HB.out)) hb); have n4_ := Aside0.mk (hbox); have n5_ := Aside0.mk ((by rw [hg]; exact (below_size (by repeat (first | (with_reducible first | exact HB.out | apply below_alloc | apply pw_below_drewN | apply below_drew1) | exact HB.out))) : w.heap.size ≤ gb113)); have n6_ := Aside0.mk ((by rw [hg]; exact (below_size (by repeat (first | (with_reducible first | exact HB.out | apply below_alloc | apply pw_below_drewN | apply below_drew1) | exact HB.out))) : w.heap.size ≤ gb113)); clear HO104; clear HO109; clear HO112; clear HB; have HO104 := n0_; have HO109 := n1_; have HO112 := n2_; have HB := n3_; have BK113 := n4_; have GW113 := n5_; have GE113 := n6_; clear n0_ n1_ n2_ n3_ n4_ n5_ n6_; clear hb hbox hg; have hcz23_0 : w22.cell? ⟨gb113, 0, none⟩ = some (.int .i64 0) := (blk_cell BK113.out 0).trans rfl; have hcz23_1 : w22.cell? ⟨gb113, 1, none⟩ = some (.slice none 0 0) := (blk_cell BK113.out 1).trans rfl; have hcz23_2 : w22.cell? ⟨gb113, 2, none⟩ = some (.int .i64 0) := (blk_cell BK113.out 2).trans rfl; have hcz23_3 : w22.cell? ⟨gb113, 3, none⟩ = some (.int .i64 0) := (blk_cell BK113.out 3).trans rfl; have hfz23_0 := blk_frozen BK113.out 0; have hfz23_1 := blk_frozen BK113.out 1; have hfz23_2 := blk_frozen BK113.out 2; have hfz23_3 := blk_frozen BK113.out 3; obtain ⟨Ao24, co24, eo24⟩ := Kd.R_slice HO104.out; subst eo24; obtain ⟨Ao25, co25, eo25⟩ := Kd.R_slice HO109.out; subst eo25) | (go_at_call 26; (with_reducible refine (mooring_Pulls.calls t101 _ _ t102 t105 t106 _ _ t107 a3 t116 t119 _ ?side1 ?side2 ?side3 ?side4 A16.out).mono ?_); (case side1 => refine (Kd.R_reads' (e := 46) (base := w.heap.size) (ok := fun k_ => True) (n := t102.length) (c := co24) ?_).2.2; exact (by (with_reducible repeat (first | apply Kd.R_alloc | apply Kd.R_drewN | apply Kd.R_drew)); exact (Kd.R_mono (Kd.R_far (p := ⟨gb113, 3, none⟩) (Kd.R_far (p := ⟨gb113, 2, none⟩) (Kd.R_far (p := ⟨gb113, 1, none⟩) (Kd.R_far (p := ⟨gb113, 0, none⟩) (Kd.R_types HO104.out BK113.out (by decide)) (fun _ hk => hk.2) (.int .i64 t101)) (fun _ hk => hk.2) (.slice Ao24 t102.length co24)) (fun _ hk => hk.2) (.int .i64 t105)) (fun _ hk => hk.2) (.int .i64 t106)) (fun _ h_ => h_.1)))); (case side2 => exact (Kd.R_reads' HO104.out).2.1); (case side3 => refine (Kd.R_reads' (e := 57) (base := w.heap.size) (ok := fun k_ => True) (n := t107.length) (c := co25) ?_).2.2; exact (by (with_reducible repeat (first | apply Kd.R_alloc | apply Kd.R_drewN | apply Kd.R_drew)); exact (Kd.R_mono (Kd.R_far (p := ⟨gb113, 3, none⟩) (Kd.R_far (p := ⟨gb113, 2, none⟩) (Kd.R_far (p := ⟨gb113, 1, none⟩) (Kd.R_far (p := ⟨gb113, 0, none⟩) (Kd.R_types HO109.out BK113.out (by decide)) (fun _ hk => hk.2) (.int .i64 t101)) (fun _ hk => hk.2) (.slice Ao24 t102.length co24)) (fun _ hk => hk.2) (.int .i64 t105)) (fun _ hk => hk.2) (.int .i64 t106)) (fun _ h_ => h_.1)))); (case side4 => exact (Kd.R_reads' HO109.out).2.1); rintro e w26 ⟨v117, rfl, ho0, hb⟩; have n0_ := Aside0.mk (Kd.R_below (by (with_reducible repeat (first | apply Kd.R_alloc | apply Kd.R_drewN | apply Kd.R_drew)); exact (Kd.R_mono (Kd.R_far (p := ⟨gb113, 3, none⟩) (Kd.R_far (p := ⟨gb113, 2, none⟩) (Kd.R_far (p := ⟨gb113, 1, none⟩) (Kd.R_far (p := ⟨gb113, 0, none⟩) (Kd.R_types HO104.out BK113.out (by decide)) (fun _ hk => hk.2) (.int .i64 t101)) (fun _ hk => hk.2) (.slice Ao24 t102.length co24)) (fun _ hk => hk.2) (.int .i64 t105)) (fun _ hk => hk.2) (.int .i64 t106)) (fun _ h_ => h_.1))) hb); have n1_ := Aside0.mk (Kd.R_elder' (by (with_reducible repeat (first | apply Kd.R_alloc | apply Kd.R_drewN | apply Kd.R_drew)); exact (Kd.R_mono (Kd.R_far (p := ⟨gb113, 3, none⟩) (Kd.R_far (p := ⟨gb113, 2, none⟩) (Kd.R_far (p := ⟨gb113, 1, none⟩) (Kd.R_far (p := ⟨gb113, 0, none⟩) (Kd.R_types HO109.out BK113.out (by decide)) (fun _ hk => hk.2) (.int .i64 t101)) (fun _ hk => hk.2) (.slice Ao24 t102.length co24)) (fun _ hk => hk.2) (.int .i64 t105)) (fun _ hk => hk.2) (.int .i64 t106)) (fun _ h_ => h_.1))) (Kd.R_base ho0) hb); have n2_ := Aside0.mk (Kd.R_below (by (with_reducible repeat (first | apply Kd.R_alloc | apply Kd.R_drewN | apply Kd.R_drew)); exact (Kd.R_mono (Kd.R_far (p := ⟨gb113, 3, none⟩) (Kd.R_far (p := ⟨gb113, 2, none⟩) (Kd.R_far (p := ⟨gb113, 1, none⟩) (Kd.R_far (p := ⟨gb113, 0, none⟩) (Kd.R_types HO112.out BK113.out (by decide)) (fun _ hk => hk.2) (.int .i64 t101)) (fun _ hk => hk.2) (.slice Ao24 t102.length co24)) (fun _ hk => hk.2) (.int .i64 t105)) (fun _ hk => hk.2) (.int .i64 t106)) (fun _ h_ => h_.1))) hb); have n3_ := Aside0.mk (Kd.R_lower (Kd.R_new' ho0 (Kd.R_lt (by (with_reducible repeat (first | apply Kd.R_alloc | apply Kd.R_drewN | apply Kd.R_drew)); exact (Kd.R_mono (Kd.R_far (p := ⟨gb113, 3, none⟩) (Kd.R_far (p := ⟨gb113, 2, none⟩) (Kd.R_far (p := ⟨gb113, 1, none⟩) (Kd.R_far (p := ⟨gb113, 0, none⟩) (Kd.R_types HO109.out BK113.out (by decide)) (fun _ hk => hk.2) (.int .i64 t101)) (fun _ hk => hk.2) (.slice Ao24 t102.length co24)) (fun _ hk => hk.2) (.int .i64 t105)) (fun _ hk => hk.2) (.int .i64 t106)) (fun _ h_ => h_.1))))) (below_size (by repeat (first | (with_reducible first | exact HB.out | apply below_alloc | apply pw_below_drewN | apply below_drew1 | refine below_set ?_ GE113.out) | exact HB.out)))); have n4_ := Aside0.mk (blk_below (g := gb113) (o := .cells #[.int .i64 t101, .slice Ao24 t102.length co24, .int .i64 t105, .int .i64 t106] 37 (0, 0)) (by (with_reducible repeat (first | refine blk_drewN ?_ _ | refine blk_drew ?_ | refine blk_alloc ?_ _)); refine blk_put (cs := #[.int .i64 t101, .slice Ao24 t102.length co24, .int .i64 t105, .int .i64 0]) ?_ 3 _ rfl; (with_reducible repeat (first | refine blk_drewN ?_ _ | refine blk_drew ?_ | refine blk_alloc ?_ _)); refine blk_put (cs := #[.int .i64 t101, .slice Ao24 t102.length co24, .int .i64 0, .int .i64 0]) ?_ 2 _ rfl; (with_reducible repeat (first | refine blk_drewN ?_ _ | refine blk_drew ?_ | refine blk_alloc ?_ _)); refine blk_put (cs := #[.int .i64 t101, .slice none 0 0, .int .i64 0, .int .i64 0]) ?_ 1 _ rfl; (with_reducible repeat (first | refine blk_drewN ?_ _ | refine blk_drew ?_ | refine blk_alloc ?_ _)); refine blk_put (cs := #[.int .i64 0, .slice none 0 0, .int .i64 0, .int .i64 0]) ?_ 0 _ rfl; (with_reducible repeat (first | refine blk_drewN ?_ _ | refine blk_drew ?_ | refine blk_alloc ?_ _)); exact BK113.out) hb); have n5_ := Aside0.mk (below_step (by repeat (first | (with_reducible first | exact HB.out | apply below_alloc | apply pw_below_drewN | apply below_drew1 | refine below_set ?_ GE113.out) | exact HB.out)) hb); clear HO104; clear HO109; clear HO112; clear BK113; clear HB; have HO104 := n0_; have HO109 := n1_; have HO112 := n2_; have HO118 := n3_; have BK113 := n4_; have HB := n5_; clear n0_ n1_ n2_ n3_ n4_ n5_; (try clear hb); (try clear hb2); (try clear hk); (try clear hi); (try clear ho0); have hcz27_0 : w26.cell? ⟨gb113, 0, none⟩ = some (.int .i64 t101) := (blk_cell BK113.out 0).trans rfl; have hcz27_1 : w26.cell? ⟨gb113, 1, none⟩ = some (.slice Ao24 t102.length co24) := (blk_cell BK113.out 1).trans rfl; have hcz27_2 : w26.cell? ⟨gb113, 2, none⟩ = some (.int .i64 t105) := (blk_cell BK113.out 2).trans rfl; have hcz27_3 : w26.cell? ⟨gb113, 3, none⟩ = some (.int .i64 t106) := (blk_cell BK113.out 3).trans rfl; have hfz27_0 := blk_frozen BK113.out 0; have hfz27_1 := blk_frozen BK113.out 1; have hfz27_2 := blk_frozen BK113.out 2; have hfz27_3 := blk_frozen BK113.out 3) | (go_at_call 42; (with_reducible refine (mooring_Tensions.calls t101 _ _ t102 t105 t106 _ _ t107 a3 t120 t123 _ ?side1 ?side2 ?side3 ?side4 A17.out).mono ?_); (case side1 => repeat (first | exact (Kd.R_reads' HO104.out).2.2 | (with_reducible refine Kd.C_alloc ?_ _) | (with_reducible refine Kd.C_drewN ?_ _) | (with_reducible refine Kd.C_drew ?_))); (case side2 => exact (Kd.R_reads' HO104.out).2.1); (case side3 => repeat (first | exact (Kd.R_reads' HO109.out).2.2 | (with_reducible refine Kd.C_alloc ?_ _) | (with_reducible refine Kd.C_drewN ?_ _) | (with_reducible refine Kd.C_drew ?_))); (case side4 => exact (Kd.R_reads' HO109.out).2.1); rintro e w28 ⟨v121, rfl, ho0, hb⟩; have n0_ := Aside0.mk (Kd.R_below (by (with_reducible repeat (first | apply Kd.R_alloc | apply Kd.R_drewN | apply Kd.R_drew)); exact HO104.out) hb); have n1_ := Aside0.mk (Kd.R_elder' (by (with_reducible repeat (first | apply Kd.R_alloc | apply Kd.R_drewN | apply Kd.R_drew)); exact HO109.out) (Kd.R_base ho0) hb); have n2_ := Aside0.mk (Kd.R_below (by (with_reducible repeat (first | apply Kd.R_alloc | apply Kd.R_drewN | apply Kd.R_drew)); exact HO112.out) hb); have n3_ := Aside0.mk (Kd.R_elder' (by (with_reducible repeat (first | apply Kd.R_alloc | apply Kd.R_drewN | apply Kd.R_drew)); exact HO118.out) (Kd.R_base ho0) hb); have n4_ := Aside0.mk (Kd.R_lower (Kd.R_new' (Kd.R_new' ho0 (Kd.R_lt (by (with_reducible repeat (first | apply Kd.R_alloc | apply Kd.R_drewN | apply Kd.R_drew)); exact HO109.out))) (Kd.R_lt (by (with_reducible repeat (first | apply Kd.R_alloc | apply Kd.R_drewN | apply Kd.R_drew)); exact HO118.out))) (below_size (by repeat (first | (with_reducible first | exact HB.out | apply below_alloc | apply pw_below_drewN | apply below_drew1 | refine below_set ?_ GE113.out) | exact HB.out)))); have n5_ := Aside0.mk (blk_below (g := gb113) (o := .cells #[.int .i64 t101, .slice Ao24 t102.length co24, .int .i64 t105, .int .i64 t106] 37 (0, 0)) (by (with_reducible repeat (first | refine blk_drewN ?_ _ | refine blk_drew ?_ | refine blk_alloc ?_ _)); exact BK113.out) hb); have n6_ := Aside0.mk (below_step (by repeat (first | (with_reducible first | exact HB.out | apply below_alloc | apply pw_below_drewN | apply below_drew1 | refine below_set ?_ GE113.out) | exact HB.out)) hb); clear HO104; clear HO109; clear HO112; clear HO118; clear BK113; clear HB; have HO104 := n0_; have HO109 := n1_; have HO112 := n2_; have HO118 := n3_; have HO122 := n4_; have BK113 := n5_; have HB := n6_; clear n0_ n1_ n2_ n3_ n4_ n5_ n6_; (try clear hb); (try clear hb2); (try clear hk); (try clear hi); (try clear ho0); have hcz29_0 : w28.cell? ⟨gb113, 0, none⟩ = some (.int .i64 t101) := (blk_cell BK113.out 0).trans rfl; have hcz29_1 : w28.cell? ⟨gb113, 1, none⟩ = some (.slice Ao24 t102.length co24) := (blk_cell BK113.out 1).trans rfl; have hcz29_2 : w28.cell? ⟨gb113, 2, none⟩ = some (.int .i64 t105) := (blk_cell BK113.out 2).trans rfl; have hcz29_3 : w28.cell? ⟨gb113, 3, none⟩ = some (.int .i64 t106) := (blk_cell BK113.out 3).trans rfl; have hfz29_0 := blk_frozen BK113.out 0; have hfz29_1 := blk_frozen BK113.out 1; have hfz29_2 := blk_frozen BK113.out 2; have hfz29_3 := blk_frozen BK113.out 3) | (go_at_call 27; (with_reducible refine (mooring_Shape.calls t101 _ _ t102 t105 t106 _ _ t107 a3 t124 t127 t130 _ ?side1 ?side2 ?side3 ?side4 A18.out).mono ?_); (case side1 => repeat (first | exact (Kd.R_reads' HO104.out).2.2 | (with_reducible refine Kd.C_alloc ?_ _) | (with_reducible refine Kd.C_drewN ?_ _) | (with_reducible refine Kd.C_drew ?_))); (case side2 => exact (Kd.R_reads' HO104.out).2.1); (case side3 => repeat (first | exact (Kd.R_reads' HO109.out).2.2 | (with_reducible refine Kd.C_alloc ?_ _) | (with_reducible refine Kd.C_drewN ?_ _) | (with_reducible refine Kd.C_drew ?_))); (case side4 => exact (Kd.R_reads' HO109.out).2.1); rintro e w30 ⟨v125, v128, rfl, ho0, ho1, hb⟩; have n0_ := Aside0.mk (Kd.R_below (by (with_reducible repeat (first | apply Kd.R_alloc | apply Kd.R_drewN | apply Kd.R_drew)); exact HO104.out) hb); have n1_ := Aside0.mk (Kd.R_mono (Kd.R_told (Kd.R_told (Kd.R_old (by (with_reducible repeat (first | apply Kd.R_alloc | apply Kd.R_drewN | apply Kd.R_drew)); exact HO109.out) hb) (Kd.R_base ho0)) (Kd.R_base ho1)) (fun _ h_ => h_.1)); have n2_ := Aside0.mk (Kd.R_below (by (with_reducible repeat (first | apply Kd.R_alloc | apply Kd.R_drewN | apply Kd.R_drew)); exact HO112.out) hb); have n3_ := Aside0.mk (Kd.R_mono (Kd.R_told (Kd.R_told (Kd.R_old (by (with_reducible repeat (first | apply Kd.R_alloc | apply Kd.R_drewN | apply Kd.R_drew)); exact HO118.out) hb) (Kd.R_base ho0)) (Kd.R_base ho1)) (fun _ h_ => h_.1)); have n4_ := Aside0.mk (Kd.R_mono (Kd.R_told (Kd.R_told (Kd.R_old (by (with_reducible repeat (first | apply Kd.R_alloc | apply Kd.R_drewN | apply Kd.R_drew)); exact HO122.out) hb) (Kd.R_base ho0)) (Kd.R_base ho1)) (fun _ h_ => h_.1)); have n5_ := Aside0.mk (Kd.R_lower (Kd.R_new' (Kd.R_new' (Kd.R_new' ho0 (Kd.R_lt (by (with_reducible repeat (first | apply Kd.R_alloc | apply Kd.R_drewN | apply Kd.R_drew)); exact HO109.out))) (Kd.R_lt (by (with_reducible repeat (first | apply Kd.R_alloc | apply Kd.R_drewN | apply Kd.R_drew)); exact HO118.out))) (Kd.R_lt (by (with_reducible repeat (first | apply Kd.R_alloc | apply Kd.R_drewN | apply Kd.R_drew)); exact HO122.out))) (below_size (by repeat (first | (with_reducible first | exact HB.out | apply below_alloc | apply pw_below_drewN | apply below_drew1 | refine below_set ?_ GE113.out) | exact HB.out)))); have n6_ := Aside0.mk (Kd.R_lower (Kd.R_new' (Kd.R_new' (Kd.R_new' ho1 (Kd.R_lt (by (with_reducible repeat (first | apply Kd.R_alloc | apply Kd.R_drewN | apply Kd.R_drew)); exact HO109.out))) (Kd.R_lt (by (with_reducible repeat (first | apply Kd.R_alloc | apply Kd.R_drewN | apply Kd.R_drew)); exact HO118.out))) (Kd.R_lt (by (with_reducible repeat (first | apply Kd.R_alloc | apply Kd.R_drewN | apply Kd.R_drew)); exact HO122.out))) (below_size (by repeat (first | (with_reducible first | exact HB.out | apply below_alloc | apply pw_below_drewN | apply below_drew1 | refine below_set ?_ GE113.out) | exact HB.out)))); have n7_ := Aside0.mk (blk_below (g := gb113) (o := .cells #[.int .i64 t101, .slice Ao24 t102.length co24, .int .i64 t105, .int .i64 t106] 37 (0, 0)) (by (with_reducible repeat (first | refine blk_drewN ?_ _ | refine blk_drew ?_ | refine blk_alloc ?_ _)); exact BK113.out) hb); have n8_ := Aside0.mk (below_step (by repeat (first | (with_reducible first | exact HB.out | apply below_alloc | apply pw_below_drewN | apply below_drew1 | refine below_set ?_ GE113.out) | exact HB.out)) hb); clear HO104; clear HO109; clear HO112; clear HO118; clear HO122; clear BK113; clear HB; have HO104 := n0_; have HO109 := n1_; have HO112 := n2_; have HO118 := n3_; have HO122 := n4_; have HO126 := n5_; have HO129 := n6_; have BK113 := n7_; have HB := n8_; clear n0_ n1_ n2_ n3_ n4_ n5_ n6_ n7_ n8_; (try clear hb); (try clear hb2); (try clear hk); (try clear hi); (try clear ho0); (try clear ho1); have hcz31_0 : w30.cell? ⟨gb113, 0, none⟩ = some (.int .i64 t101) := (blk_cell BK113.out 0).trans rfl; have hcz31_1 : w30.cell? ⟨gb113, 1, none⟩ = some (.slice Ao24 t102.length co24) := (blk_cell BK113.out 1).trans rfl; have hcz31_2 : w30.cell? ⟨gb113, 2, none⟩ = some (.int .i64 t105) := (blk_cell BK113.out 2).trans rfl; have hcz31_3 : w30.cell? ⟨gb113, 3, none⟩ = some (.int .i64 t106) := (blk_cell BK113.out 3).trans rfl; have hfz31_0 := blk_frozen BK113.out 0; have hfz31_1 := blk_frozen BK113.out 1; have hfz31_2 := blk_frozen BK113.out 2; have hfz31_3 := blk_frozen BK113.out 3) | (go_at_call 24; (with_reducible refine (mooring_Lifts.calls t101 _ _ t102 t105 t106 t131 t134 _ ?side1 ?side2 A19.out).mono ?_); (case side1 => repeat (first | exact (Kd.R_reads' HO104.out).2.2 | (with_reducible refine Kd.C_alloc ?_ _) | (with_reducible refine Kd.C_drewN ?_ _) | (with_reducible refine Kd.C_drew ?_))); (case side2 => exact (Kd.R_reads' HO104.out).2.1); rintro e w32 ⟨v132, rfl, ho0, hb⟩; have n0_ := Aside0.mk (Kd.R_below (by (with_reducible repeat (first | apply Kd.R_alloc | apply Kd.R_drewN | apply Kd.R_drew)); exact HO104.out) hb); have n1_ := Aside0.mk (Kd.R_below (by (with_reducible repeat (first | apply Kd.R_alloc | apply Kd.R_drewN | apply Kd.R_drew)); exact HO109.out) hb); have n2_ := Aside0.mk (Kd.R_elder' (by (with_reducible repeat (first | apply Kd.R_alloc | apply Kd.R_drewN | apply Kd.R_drew)); exact HO112.out) (Kd.R_base ho0) hb); have n3_ := Aside0.mk (Kd.R_below (by (with_reducible repeat (first | apply Kd.R_alloc | apply Kd.R_drewN | apply Kd.R_drew)); exact HO118.out) hb); have n4_ := Aside0.mk (Kd.R_below (by (with_reducible repeat (first | apply Kd.R_alloc | apply Kd.R_drewN | apply Kd.R_drew)); exact HO122.out) hb); have n5_ := Aside0.mk (Kd.R_below (by (with_reducible repeat (first | apply Kd.R_alloc | apply Kd.R_drewN | apply Kd.R_drew)); exact HO126.out) hb); have n6_ := Aside0.mk (Kd.R_below (by (with_reducible repeat (first | apply Kd.R_alloc | apply Kd.R_drewN | apply Kd.R_drew)); exact HO129.out) hb); have n7_ := Aside0.mk (Kd.R_lower (Kd.R_new' ho0 (Kd.R_lt (by (with_reducible repeat (first | apply Kd.R_alloc | apply Kd.R_drewN | apply Kd.R_drew)); exact HO112.out))) (below_size (by repeat (first | (with_reducible first | exact HB.out | apply below_alloc | apply pw_below_drewN | apply below_drew1 | refine below_set ?_ GE113.out) | exact HB.out)))); have n8_ := Aside0.mk (blk_below (g := gb113) (o := .cells #[.int .i64 t101, .slice Ao24 t102.length co24, .int .i64 t105, .int .i64 t106] 37 (0, 0)) (by (with_reducible repeat (first | refine blk_drewN ?_ _ | refine blk_drew ?_ | refine blk_alloc ?_ _)); exact BK113.out) hb); have n9_ := Aside0.mk (below_step (by repeat (first | (with_reducible first | exact HB.out | apply below_alloc | apply pw_below_drewN | apply below_drew1 | refine below_set ?_ GE113.out) | exact HB.out)) hb); clear HO104; clear HO109; clear HO112; clear HO118; clear HO122; clear HO126; clear HO129; clear BK113; clear HB; have HO104 := n0_; have HO109 := n1_; have HO112 := n2_; have HO118 := n3_; have HO122 := n4_; have HO126 := n5_; have HO129 := n6_; have HO133 := n7_; have BK113 := n8_; have HB := n9_; clear n0_ n1_ n2_ n3_ n4_ n5_ n6_ n7_ n8_ n9_; (try clear hb); (try clear hb2); (try clear hk); (try clear hi); (try clear ho0); have hcz33_0 : w32.cell? ⟨gb113, 0, none⟩ = some (.int .i64 t101) := (blk_cell BK113.out 0).trans rfl; have hcz33_1 : w32.cell? ⟨gb113, 1, none⟩ = some (.slice Ao24 t102.length co24) := (blk_cell BK113.out 1).trans rfl; have hcz33_2 : w32.cell? ⟨gb113, 2, none⟩ = some (.int .i64 t105) := (blk_cell BK113.out 2).trans rfl; have hcz33_3 : w32.cell? ⟨gb113, 3, none⟩ = some (.int .i64 t106) := (blk_cell BK113.out 3).trans rfl; have hfz33_0 := blk_frozen BK113.out 0; have hfz33_1 := blk_frozen BK113.out 1; have hfz33_2 := blk_frozen BK113.out 2; have hfz33_3 := blk_frozen BK113.out 3))
  repeat (go_quiet (fail); go_upto_region 9 with (first | (go_at_call 44; (with_reducible refine (isobathlaw02_rig.calls k _ _ l0 a1 a2 t101 t102 t105 t106 t107 t110 _ ?side1 ?side2 A5.out).mono ?_); (case side1 => repeat (first | exact HR0.out | (with_reducible refine Kd.C_alloc ?_ _) | (with_reducible refine Kd.C_drewN ?_ _) | (with_reducible refine Kd.C_drew ?_))); (case side2 => exact HC0.out); rintro e w21 ⟨v103, v108, v111, rfl, ho0, ho1, ho2, hb⟩; have n0_ := Aside0.mk (Kd.R_lower ho0 (below_size (by repeat (first | (with_reducible first | exact HB.out | apply below_alloc | apply pw_below_drewN | apply below_drew1) | exact HB.out)))); have n1_ := Aside0.mk (Kd.R_lower ho1 (below_size (by repeat (first | (with_reducible first | exact HB.out | apply below_alloc | apply pw_below_drewN | apply below_drew1) | exact HB.out)))); have n2_ := Aside0.mk (Kd.R_lower ho2 (below_size (by repeat (first | (with_reducible first | exact HB.out | apply below_alloc | apply pw_below_drewN | apply below_drew1) | exact HB.out)))); have n3_ := Aside0.mk (below_step (by repeat (first | (with_reducible first | exact HB.out | apply below_alloc | apply pw_below_drewN | apply below_drew1) | exact HB.out)) hb); clear HB; have HO104 := n0_; have HO109 := n1_; have HO112 := n2_; have HB := n3_; clear n0_ n1_ n2_ n3_; (try clear hb); (try clear hb2); (try clear hk); (try clear hi); (try clear ho0); (try clear ho1); (try clear ho2)) | ((with_reducible refine gate_dst (N := 9) rfl ?_); (try (refine gate_guard (by rfl) ?_; dsimp only)); refine box_event ?hg (N := 9) ?hd (cs := #[.int .i64 0, .slice none 0 0, .int .i64 0, .int .i64 0]) (t := 37) ?hr ?_; (case hd => rfl); (case hg => rfl); (case hr => first | (go_simp; done) | (go_simp; rfl)); intro gb113 hg w22 hbox hb; have n0_ := Aside0.mk (Kd.R_below (by (with_reducible repeat (first | apply Kd.R_alloc | apply Kd.R_drewN | apply Kd.R_drew)); exact HO104.out) hb); have n1_ := Aside0.mk (Kd.R_below (by (with_reducible repeat (first | apply Kd.R_alloc | apply Kd.R_drewN | apply Kd.R_drew)); exact HO109.out) hb); have n2_ := Aside0.mk (Kd.R_below (by (with_reducible repeat (first | apply Kd.R_alloc | apply Kd.R_drewN | apply Kd.R_drew)); exact HO112.out) hb); have n3_ := Aside0.mk (below_step (by repeat (first | (with_reducible first | exact HB.out | apply below_alloc | apply pw_below_drewN | apply below_drew1) | exact HB.out)) hb); have n4_ := Aside0.mk (hbox); have n5_ := Aside0.mk ((by rw [hg]; exact (below_size (by repeat (first | (with_reducible first | exact HB.out | apply below_alloc | apply pw_below_drewN | apply below_drew1) | exact HB.out))) : w.heap.size ≤ gb113)); have n6_ := Aside0.mk ((by rw [hg]; exact (below_size (by repeat (first | (with_reducible first | exact HB.out | apply below_alloc | apply pw_below_drewN | apply below_drew1) | exact HB.out))) : w.heap.size ≤ gb113)); clear HO104; clear HO109; clear HO112; clear HB; have HO104 := n0_; have HO109 := n1_; have HO112 := n2_; have HB := n3_; have BK113 := n4_; have GW113 := n5_; have GE113 := n6_; clear n0_ n1_ n2_ n3_ n4_ n5_ n6_; clear hb hbox hg; have hcz23_0 : w22.cell? ⟨gb113, 0, none⟩ = some (.int .i64 0) := (blk_cell BK113.out 0).trans rfl; have hcz23_1 : w22.cell? ⟨gb113, 1, none⟩ = some (.slice none 0 0) := (blk_cell BK113.out 1).trans rfl; have hcz23_2 : w22.cell? ⟨gb113, 2, none⟩ = some (.int .i64 0) := (blk_cell BK113.out 2).trans rfl; have hcz23_3 : w22.cell? ⟨gb113, 3, none⟩ = some (.int .i64 0) := (blk_cell BK113.out 3).trans rfl; have hfz23_0 := blk_frozen BK113.out 0; have hfz23_1 := blk_frozen BK113.out 1; have hfz23_2 := blk_frozen BK113.out 2; have hfz23_3 := blk_frozen BK113.out 3; obtain ⟨Ao24, co24, eo24⟩ := Kd.R_slice HO104.out; subst eo24; obtain ⟨Ao25, co25, eo25⟩ := Kd.R_slice HO109.out; subst eo25) | (go_at_call 26; (with_reducible refine (mooring_Pulls.calls t101 _ _ t102 t105 t106 _ _ t107 a3 t116 t119 _ ?side1 ?side2 ?side3 ?side4 A16.out).mono ?_); (case side1 => refine (Kd.R_reads' (e := 46) (base := w.heap.size) (ok := fun k_ => True) (n := t102.length) (c := co24) ?_).2.2; exact (by (with_reducible repeat (first | apply Kd.R_alloc | apply Kd.R_drewN | apply Kd.R_drew)); exact (Kd.R_mono (Kd.R_far (p := ⟨gb113, 3, none⟩) (Kd.R_far (p := ⟨gb113, 2, none⟩) (Kd.R_far (p := ⟨gb113, 1, none⟩) (Kd.R_far (p := ⟨gb113, 0, none⟩) (Kd.R_types HO104.out BK113.out (by decide)) (fun _ hk => hk.2) (.int .i64 t101)) (fun _ hk => hk.2) (.slice Ao24 t102.length co24)) (fun _ hk => hk.2) (.int .i64 t105)) (fun _ hk => hk.2) (.int .i64 t106)) (fun _ h_ => h_.1)))); (case side2 => exact (Kd.R_reads' HO104.out).2.1); (case side3 => refine (Kd.R_reads' (e := 57) (base := w.heap.size) (ok := fun k_ => True) (n := t107.length) (c := co25) ?_).2.2; exact (by (with_reducible repeat (first | apply Kd.R_alloc | apply Kd.R_drewN | apply Kd.R_drew)); exact (Kd.R_mono (Kd.R_far (p := ⟨gb113, 3, none⟩) (Kd.R_far (p := ⟨gb113, 2, none⟩) (Kd.R_far (p := ⟨gb113, 1, none⟩) (Kd.R_far (p := ⟨gb113, 0, none⟩) (Kd.R_types HO109.out BK113.out (by decide)) (fun _ hk => hk.2) (.int .i64 t101)) (fun _ hk => hk.2) (.slice Ao24 t102.length co24)) (fun _ hk => hk.2) (.int .i64 t105)) (fun _ hk => hk.2) (.int .i64 t106)) (fun _ h_ => h_.1)))); (case side4 => exact (Kd.R_reads' HO109.out).2.1); rintro e w26 ⟨v117, rfl, ho0, hb⟩; have n0_ := Aside0.mk (Kd.R_below (by (with_reducible repeat (first | apply Kd.R_alloc | apply Kd.R_drewN | apply Kd.R_drew)); exact (Kd.R_mono (Kd.R_far (p := ⟨gb113, 3, none⟩) (Kd.R_far (p := ⟨gb113, 2, none⟩) (Kd.R_far (p := ⟨gb113, 1, none⟩) (Kd.R_far (p := ⟨gb113, 0, none⟩) (Kd.R_types HO104.out BK113.out (by decide)) (fun _ hk => hk.2) (.int .i64 t101)) (fun _ hk => hk.2) (.slice Ao24 t102.length co24)) (fun _ hk => hk.2) (.int .i64 t105)) (fun _ hk => hk.2) (.int .i64 t106)) (fun _ h_ => h_.1))) hb); have n1_ := Aside0.mk (Kd.R_elder' (by (with_reducible repeat (first | apply Kd.R_alloc | apply Kd.R_drewN | apply Kd.R_drew)); exact (Kd.R_mono (Kd.R_far (p := ⟨gb113, 3, none⟩) (Kd.R_far (p := ⟨gb113, 2, none⟩) (Kd.R_far (p := ⟨gb113, 1, none⟩) (Kd.R_far (p := ⟨gb113, 0, none⟩) (Kd.R_types HO109.out BK113.out (by decide)) (fun _ hk => hk.2) (.int .i64 t101)) (fun _ hk => hk.2) (.slice Ao24 t102.length co24)) (fun _ hk => hk.2) (.int .i64 t105)) (fun _ hk => hk.2) (.int .i64 t106)) (fun _ h_ => h_.1))) (Kd.R_base ho0) hb); have n2_ := Aside0.mk (Kd.R_below (by (with_reducible repeat (first | apply Kd.R_alloc | apply Kd.R_drewN | apply Kd.R_drew)); exact (Kd.R_mono (Kd.R_far (p := ⟨gb113, 3, none⟩) (Kd.R_far (p := ⟨gb113, 2, none⟩) (Kd.R_far (p := ⟨gb113, 1, none⟩) (Kd.R_far (p := ⟨gb113, 0, none⟩) (Kd.R_types HO112.out BK113.out (by decide)) (fun _ hk => hk.2) (.int .i64 t101)) (fun _ hk => hk.2) (.slice Ao24 t102.length co24)) (fun _ hk => hk.2) (.int .i64 t105)) (fun _ hk => hk.2) (.int .i64 t106)) (fun _ h_ => h_.1))) hb); have n3_ := Aside0.mk (Kd.R_lower (Kd.R_new' ho0 (Kd.R_lt (by (with_reducible repeat (first | apply Kd.R_alloc | apply Kd.R_drewN | apply Kd.R_drew)); exact (Kd.R_mono (Kd.R_far (p := ⟨gb113, 3, none⟩) (Kd.R_far (p := ⟨gb113, 2, none⟩) (Kd.R_far (p := ⟨gb113, 1, none⟩) (Kd.R_far (p := ⟨gb113, 0, none⟩) (Kd.R_types HO109.out BK113.out (by decide)) (fun _ hk => hk.2) (.int .i64 t101)) (fun _ hk => hk.2) (.slice Ao24 t102.length co24)) (fun _ hk => hk.2) (.int .i64 t105)) (fun _ hk => hk.2) (.int .i64 t106)) (fun _ h_ => h_.1))))) (below_size (by repeat (first | (with_reducible first | exact HB.out | apply below_alloc | apply pw_below_drewN | apply below_drew1 | refine below_set ?_ GE113.out) | exact HB.out)))); have n4_ := Aside0.mk (blk_below (g := gb113) (o := .cells #[.int .i64 t101, .slice Ao24 t102.length co24, .int .i64 t105, .int .i64 t106] 37 (0, 0)) (by (with_reducible repeat (first | refine blk_drewN ?_ _ | refine blk_drew ?_ | refine blk_alloc ?_ _)); refine blk_put (cs := #[.int .i64 t101, .slice Ao24 t102.length co24, .int .i64 t105, .int .i64 0]) ?_ 3 _ rfl; (with_reducible repeat (first | refine blk_drewN ?_ _ | refine blk_drew ?_ | refine blk_alloc ?_ _)); refine blk_put (cs := #[.int .i64 t101, .slice Ao24 t102.length co24, .int .i64 0, .int .i64 0]) ?_ 2 _ rfl; (with_reducible repeat (first | refine blk_drewN ?_ _ | refine blk_drew ?_ | refine blk_alloc ?_ _)); refine blk_put (cs := #[.int .i64 t101, .slice none 0 0, .int .i64 0, .int .i64 0]) ?_ 1 _ rfl; (with_reducible repeat (first | refine blk_drewN ?_ _ | refine blk_drew ?_ | refine blk_alloc ?_ _)); refine blk_put (cs := #[.int .i64 0, .slice none 0 0, .int .i64 0, .int .i64 0]) ?_ 0 _ rfl; (with_reducible repeat (first | refine blk_drewN ?_ _ | refine blk_drew ?_ | refine blk_alloc ?_ _)); exact BK113.out) hb); have n5_ := Aside0.mk (below_step (by repeat (first | (with_reducible first | exact HB.out | apply below_alloc | apply pw_below_drewN | apply below_drew1 | refine below_set ?_ GE113.out) | exact HB.out)) hb); clear HO104; clear HO109; clear HO112; clear BK113; clear HB; have HO104 := n0_; have HO109 := n1_; have HO112 := n2_; have HO118 := n3_; have BK113 := n4_; have HB := n5_; clear n0_ n1_ n2_ n3_ n4_ n5_; (try clear hb); (try clear hb2); (try clear hk); (try clear hi); (try clear ho0); have hcz27_0 : w26.cell? ⟨gb113, 0, none⟩ = some (.int .i64 t101) := (blk_cell BK113.out 0).trans rfl; have hcz27_1 : w26.cell? ⟨gb113, 1, none⟩ = some (.slice Ao24 t102.length co24) := (blk_cell BK113.out 1).trans rfl; have hcz27_2 : w26.cell? ⟨gb113, 2, none⟩ = some (.int .i64 t105) := (blk_cell BK113.out 2).trans rfl; have hcz27_3 : w26.cell? ⟨gb113, 3, none⟩ = some (.int .i64 t106) := (blk_cell BK113.out 3).trans rfl; have hfz27_0 := blk_frozen BK113.out 0; have hfz27_1 := blk_frozen BK113.out 1; have hfz27_2 := blk_frozen BK113.out 2; have hfz27_3 := blk_frozen BK113.out 3) | (go_at_call 42; (with_reducible refine (mooring_Tensions.calls t101 _ _ t102 t105 t106 _ _ t107 a3 t120 t123 _ ?side1 ?side2 ?side3 ?side4 A17.out).mono ?_); (case side1 => repeat (first | exact (Kd.R_reads' HO104.out).2.2 | (with_reducible refine Kd.C_alloc ?_ _) | (with_reducible refine Kd.C_drewN ?_ _) | (with_reducible refine Kd.C_drew ?_))); (case side2 => exact (Kd.R_reads' HO104.out).2.1); (case side3 => repeat (first | exact (Kd.R_reads' HO109.out).2.2 | (with_reducible refine Kd.C_alloc ?_ _) | (with_reducible refine Kd.C_drewN ?_ _) | (with_reducible refine Kd.C_drew ?_))); (case side4 => exact (Kd.R_reads' HO109.out).2.1); rintro e w28 ⟨v121, rfl, ho0, hb⟩; have n0_ := Aside0.mk (Kd.R_below (by (with_reducible repeat (first | apply Kd.R_alloc | apply Kd.R_drewN | apply Kd.R_drew)); exact HO104.out) hb); have n1_ := Aside0.mk (Kd.R_elder' (by (with_reducible repeat (first | apply Kd.R_alloc | apply Kd.R_drewN | apply Kd.R_drew)); exact HO109.out) (Kd.R_base ho0) hb); have n2_ := Aside0.mk (Kd.R_below (by (with_reducible repeat (first | apply Kd.R_alloc | apply Kd.R_drewN | apply Kd.R_drew)); exact HO112.out) hb); have n3_ := Aside0.mk (Kd.R_elder' (by (with_reducible repeat (first | apply Kd.R_alloc | apply Kd.R_drewN | apply Kd.R_drew)); exact HO118.out) (Kd.R_base ho0) hb); have n4_ := Aside0.mk (Kd.R_lower (Kd.R_new' (Kd.R_new' ho0 (Kd.R_lt (by (with_reducible repeat (first | apply Kd.R_alloc | apply Kd.R_drewN | apply Kd.R_drew)); exact HO109.out))) (Kd.R_lt (by (with_reducible repeat (first | apply Kd.R_alloc | apply Kd.R_drewN | apply Kd.R_drew)); exact HO118.out))) (below_size (by repeat (first | (with_reducible first | exact HB.out | apply below_alloc | apply pw_below_drewN | apply below_drew1 | refine below_set ?_ GE113.out) | exact HB.out)))); have n5_ := Aside0.mk (blk_below (g := gb113) (o := .cells #[.int .i64 t101, .slice Ao24 t102.length co24, .int .i64 t105, .int .i64 t106] 37 (0, 0)) (by (with_reducible repeat (first | refine blk_drewN ?_ _ | refine blk_drew ?_ | refine blk_alloc ?_ _)); exact BK113.out) hb); have n6_ := Aside0.mk (below_step (by repeat (first | (with_reducible first | exact HB.out | apply below_alloc | apply pw_below_drewN | apply below_drew1 | refine below_set ?_ GE113.out) | exact HB.out)) hb); clear HO104; clear HO109; clear HO112; clear HO118; clear BK113; clear HB; have HO104 := n0_; have HO109 := n1_; have HO112 := n2_; have HO118 := n3_; have HO122 := n4_; have BK113 := n5_; have HB := n6_; clear n0_ n1_ n2_ n3_ n4_ n5_ n6_; (try clear hb); (try clear hb2); (try clear hk); (try clear hi); (try clear ho0); have hcz29_0 : w28.cell? ⟨gb113, 0, none⟩ = some (.int .i64 t101) := (blk_cell BK113.out 0).trans rfl; have hcz29_1 : w28.cell? ⟨gb113, 1, none⟩ = some (.slice Ao24 t102.length co24) := (blk_cell BK113.out 1).trans rfl; have hcz29_2 : w28.cell? ⟨gb113, 2, none⟩ = some (.int .i64 t105) := (blk_cell BK113.out 2).trans rfl; have hcz29_3 : w28.cell? ⟨gb113, 3, none⟩ = some (.int .i64 t106) := (blk_cell BK113.out 3).trans rfl; have hfz29_0 := blk_frozen BK113.out 0; have hfz29_1 := blk_frozen BK113.out 1; have hfz29_2 := blk_frozen BK113.out 2; have hfz29_3 := blk_frozen BK113.out 3) | (go_at_call 27; (with_reducible refine (mooring_Shape.calls t101 _ _ t102 t105 t106 _ _ t107 a3 t124 t127 t130 _ ?side1 ?side2 ?side3 ?side4 A18.out).mono ?_); (case side1 => repeat (first | exact (Kd.R_reads' HO104.out).2.2 | (with_reducible refine Kd.C_alloc ?_ _) | (with_reducible refine Kd.C_drewN ?_ _) | (with_reducible refine Kd.C_drew ?_))); (case side2 => exact (Kd.R_reads' HO104.out).2.1); (case side3 => repeat (first | exact (Kd.R_reads' HO109.out).2.2 | (with_reducible refine Kd.C_alloc ?_ _) | (with_reducible refine Kd.C_drewN ?_ _) | (with_reducible refine Kd.C_drew ?_))); (case side4 => exact (Kd.R_reads' HO109.out).2.1); rintro e w30 ⟨v125, v128, rfl, ho0, ho1, hb⟩; have n0_ := Aside0.mk (Kd.R_below (by (with_reducible repeat (first | apply Kd.R_alloc | apply Kd.R_drewN | apply Kd.R_drew)); exact HO104.out) hb); have n1_ := Aside0.mk (Kd.R_mono (Kd.R_told (Kd.R_told (Kd.R_old (by (with_reducible repeat (first | apply Kd.R_alloc | apply Kd.R_drewN | apply Kd.R_drew)); exact HO109.out) hb) (Kd.R_base ho0)) (Kd.R_base ho1)) (fun _ h_ => h_.1)); have n2_ := Aside0.mk (Kd.R_below (by (with_reducible repeat (first | apply Kd.R_alloc | apply Kd.R_drewN | apply Kd.R_drew)); exact HO112.out) hb); have n3_ := Aside0.mk (Kd.R_mono (Kd.R_told (Kd.R_told (Kd.R_old (by (with_reducible repeat (first | apply Kd.R_alloc | apply Kd.R_drewN | apply Kd.R_drew)); exact HO118.out) hb) (Kd.R_base ho0)) (Kd.R_base ho1)) (fun _ h_ => h_.1)); have n4_ := Aside0.mk (Kd.R_mono (Kd.R_told (Kd.R_told (Kd.R_old (by (with_reducible repeat (first | apply Kd.R_alloc | apply Kd.R_drewN | apply Kd.R_drew)); exact HO122.out) hb) (Kd.R_base ho0)) (Kd.R_base ho1)) (fun _ h_ => h_.1)); have n5_ := Aside0.mk (Kd.R_lower (Kd.R_new' (Kd.R_new' (Kd.R_new' ho0 (Kd.R_lt (by (with_reducible repeat (first | apply Kd.R_alloc | apply Kd.R_drewN | apply Kd.R_drew)); exact HO109.out))) (Kd.R_lt (by (with_reducible repeat (first | apply Kd.R_alloc | apply Kd.R_drewN | apply Kd.R_drew)); exact HO118.out))) (Kd.R_lt (by (with_reducible repeat (first | apply Kd.R_alloc | apply Kd.R_drewN | apply Kd.R_drew)); exact HO122.out))) (below_size (by repeat (first | (with_reducible first | exact HB.out | apply below_alloc | apply pw_below_drewN | apply below_drew1 | refine below_set ?_ GE113.out) | exact HB.out)))); have n6_ := Aside0.mk (Kd.R_lower (Kd.R_new' (Kd.R_new' (Kd.R_new' ho1 (Kd.R_lt (by (with_reducible repeat (first | apply Kd.R_alloc | apply Kd.R_drewN | apply Kd.R_drew)); exact HO109.out))) (Kd.R_lt (by (with_reducible repeat (first | apply Kd.R_alloc | apply Kd.R_drewN | apply Kd.R_drew)); exact HO118.out))) (Kd.R_lt (by (with_reducible repeat (first | apply Kd.R_alloc | apply Kd.R_drewN | apply Kd.R_drew)); exact HO122.out))) (below_size (by repeat (first | (with_reducible first | exact HB.out | apply below_alloc | apply pw_below_drewN | apply below_drew1 | refine below_set ?_ GE113.out) | exact HB.out)))); have n7_ := Aside0.mk (blk_below (g := gb113) (o := .cells #[.int .i64 t101, .slice Ao24 t102.length co24, .int .i64 t105, .int .i64 t106] 37 (0, 0)) (by (with_reducible repeat (first | refine blk_drewN ?_ _ | refine blk_drew ?_ | refine blk_alloc ?_ _)); exact BK113.out) hb); have n8_ := Aside0.mk (below_step (by repeat (first | (with_reducible first | exact HB.out | apply below_alloc | apply pw_below_drewN | apply below_drew1 | refine below_set ?_ GE113.out) | exact HB.out)) hb); clear HO104; clear HO109; clear HO112; clear HO118; clear HO122; clear BK113; clear HB; have HO104 := n0_; have HO109 := n1_; have HO112 := n2_; have HO118 := n3_; have HO122 := n4_; have HO126 := n5_; have HO129 := n6_; have BK113 := n7_; have HB := n8_; clear n0_ n1_ n2_ n3_ n4_ n5_ n6_ n7_ n8_; (try clear hb); (try clear hb2); (try clear hk); (try clear hi); (try clear ho0); (try clear ho1); have hcz31_0 : w30.cell? ⟨gb113, 0, none⟩ = some (.int .i64 t101) := (blk_cell BK113.out 0).trans rfl; have hcz31_1 : w30.cell? ⟨gb113, 1, none⟩ = some (.slice Ao24 t102.length co24) := (blk_cell BK113.out 1).trans rfl; have hcz31_2 : w30.cell? ⟨gb113, 2, none⟩ = some (.int .i64 t105) := (blk_cell BK113.out 2).trans rfl; have hcz31_3 : w30.cell? ⟨gb113, 3, none⟩ = some (.int .i64 t106) := (blk_cell BK113.out 3).trans rfl; have hfz31_0 := blk_frozen BK113.out 0; have hfz31_1 := blk_frozen BK113.out 1; have hfz31_2 := blk_frozen BK113.out 2; have hfz31_3 := blk_frozen BK113.out 3) | (go_at_call 24; (with_reducible refine (mooring_Lifts.calls t101 _ _ t102 t105 t106 t131 t134 _ ?side1 ?side2 A19.out).mono ?_); (case side1 => repeat (first | exact (Kd.R_reads' HO104.out).2.2 | (with_reducible refine Kd.C_alloc ?_ _) | (with_reducible refine Kd.C_drewN ?_ _) | (with_reducible refine Kd.C_drew ?_))); (case side2 => exact (Kd.R_reads' HO104.out).2.1); rintro e w32 ⟨v132, rfl, ho0, hb⟩; have n0_ := Aside0.mk (Kd.R_below (by (with_reducible repeat (first | apply Kd.R_alloc | apply Kd.R_drewN | apply Kd.R_drew)); exact HO104.out) hb); have n1_ := Aside0.mk (Kd.R_below (by (with_reducible repeat (first | apply Kd.R_alloc | apply Kd.R_drewN | apply Kd.R_drew)); exact HO109.out) hb); have n2_ := Aside0.mk (Kd.R_elder' (by (with_reducible repeat (first | apply Kd.R_alloc | apply Kd.R_drewN | apply Kd.R_drew)); exact HO112.out) (Kd.R_base ho0) hb); have n3_ := Aside0.mk (Kd.R_below (by (with_reducible repeat (first | apply Kd.R_alloc | apply Kd.R_drewN | apply Kd.R_drew)); exact HO118.out) hb); have n4_ := Aside0.mk (Kd.R_below (by (with_reducible repeat (first | apply Kd.R_alloc | apply Kd.R_drewN | apply Kd.R_drew)); exact HO122.out) hb); have n5_ := Aside0.mk (Kd.R_below (by (with_reducible repeat (first | apply Kd.R_alloc | apply Kd.R_drewN | apply Kd.R_drew)); exact HO126.out) hb); have n6_ := Aside0.mk (Kd.R_below (by (with_reducible repeat (first | apply Kd.R_alloc | apply Kd.R_drewN | apply Kd.R_drew)); exact HO129.out) hb); have n7_ := Aside0.mk (Kd.R_lower (Kd.R_new' ho0 (Kd.R_lt (by (with_reducible repeat (first | apply Kd.R_alloc | apply Kd.R_drewN | apply Kd.R_drew)); exact HO112.out))) (below_size (by repeat (first | (with_reducible first | exact HB.out | apply below_alloc | apply pw_below_drewN | apply below_drew1 | refine below_set ?_ GE113.out) | exact HB.out)))); have n8_ := Aside0.mk (blk_below (g := gb113) (o := .cells #[.int .i64 t101, .slice Ao24 t102.length co24, .int .i64 t105, .int .i64 t106] 37 (0, 0)) (by (with_reducible repeat (first | refine blk_drewN ?_ _ | refine blk_drew ?_ | refine blk_alloc ?_ _)); exact BK113.out) hb); have n9_ := Aside0.mk (below_step (by repeat (first | (with_reducible first | exact HB.out | apply below_alloc | apply pw_below_drewN | apply below_drew1 | refine below_set ?_ GE113.out) | exact HB.out)) hb); clear HO104; clear HO109; clear HO112; clear HO118; clear HO122; clear HO126; clear HO129; clear BK113; clear HB; have HO104 := n0_; have HO109 := n1_; have HO112 := n2_; have HO118 := n3_; have HO122 := n4_; have HO126 := n5_; have HO129 := n6_; have HO133 := n7_; have BK113 := n8_; have HB := n9_; clear n0_ n1_ n2_ n3_ n4_ n5_ n6_ n7_ n8_ n9_; (try clear hb); (try clear hb2); (try clear hk); (try clear hi); (try clear ho0); have hcz33_0 : w32.cell? ⟨gb113, 0, none⟩ = some (.int .i64 t101) := (blk_cell BK113.out 0).trans rfl; have hcz33_1 : w32.cell? ⟨gb113, 1, none⟩ = some (.slice Ao24 t102.length co24) := (blk_cell BK113.out 1).trans rfl; have hcz33_2 : w32.cell? ⟨gb113, 2, none⟩ = some (.int .i64 t105) := (blk_cell BK113.out 2).trans rfl; have hcz33_3 : w32.cell? ⟨gb113, 3, none⟩ = some (.int .i64 t106) := (blk_cell BK113.out 3).trans rfl; have hfz33_0 := blk_frozen BK113.out 0; have hfz33_1 := blk_frozen BK113.out 1; have hfz33_2 := blk_frozen BK113.out 2; have hfz33_3 := blk_frozen BK113.out 3)))
  (try simp only [Act.put, List.setIfInBounds_toArray, List.set_cons_zero, List.set_cons_succ])
  go_cut [116] (fun v116 wc => ∃ (kq : Nat) (x116_19 : Bool), v116 = .bool x116_19 ∧ Aside0 (isobathlaw02_MooringEvery.j0 kq l0 a3 t110 t116 t120 t124 t127 t131 (t102.length : Int) x116_19 t101 t102 t105 t106 = some r) ∧ Aside0 (kq ≤ k) ∧ Aside0 (Kd.R (Kd.int .i64) 2 wc w.heap.size (fun k_ => some k_ ≠ (v132 : Value).ownBlock) v111 t110) ∧ Aside0 (Kd.R k57 57 wc w.heap.size (fun k_ => some k_ ≠ (v121 : Value).ownBlock ∧ some k_ ≠ (v125 : Value).ownBlock ∧ some k_ ≠ (v128 : Value).ownBlock) v117 t116) ∧ Aside0 (Kd.R k57 57 wc w.heap.size (fun k_ => some k_ ≠ (v117 : Value).ownBlock ∧ some k_ ≠ (v125 : Value).ownBlock ∧ some k_ ≠ (v128 : Value).ownBlock) v121 t120) ∧ Aside0 (Kd.R k57 57 wc w.heap.size (fun k_ => some k_ ≠ (v117 : Value).ownBlock ∧ some k_ ≠ (v121 : Value).ownBlock ∧ some k_ ≠ (v128 : Value).ownBlock) v125 t124) ∧ Aside0 (Kd.R k57 57 wc w.heap.size (fun k_ => some k_ ≠ (v117 : Value).ownBlock ∧ some k_ ≠ (v121 : Value).ownBlock ∧ some k_ ≠ (v125 : Value).ownBlock) v128 t127) ∧ Aside0 (Kd.R (Kd.int .i64) 2 wc w.heap.size (fun k_ => some k_ ≠ (v111 : Value).ownBlock) v132 t131) ∧ Aside0 (Kd.R k46 46 wc w.heap.size (fun _ => True) (.slice Ao24 t102.length co24) t102) ∧ Aside0 (wc.heap[gb113]? = some (.cells #[.int .i64 t101, (.slice Ao24 t102.length co24), .int .i64 t105, .int .i64 t106] 37 (0, 0))) ∧ Aside0 (Below w.heap.size w wc))
  case first =>
   have H := HC20.out
   clear HC20
   by_cases c34 : (wrap64 ((wrap64 ((wrap64 (t119 + t123)) + t130)) + t134)) = 0
   ·rw [if_pos c34] at H
    have c34b0 : ((wrap64 ((wrap64 ((wrap64 (t119 + t123)) + t130)) + t134)) == 0) = true := beq_iff_eq.mpr c34
    have c34b1 : ((wrap64 ((wrap64 ((wrap64 (t119 + t123)) + t130)) + t134)) != 0) = false := bne_eq_false_iff_eq.mpr c34
    clear c34
    (first | rw [c34b0] | (simp only [i64_w, i32_w]; rw [c34b0]) | skip)
    by_cases c35 : (t116.length : Int) = (t102.length : Int)
    ·rw [if_pos c35] at H
     have c35b0 : ((t116.length : Int) == (t102.length : Int)) = true := beq_iff_eq.mpr c35
     have c35b1 : ((t116.length : Int) != (t102.length : Int)) = false := bne_eq_false_iff_eq.mpr c35
     have c35b2 : (t116.length == t102.length) = true := by first | simpa using c35 | (simp at c35 ⊢; omega)
     clear c35
     by_cases c36 : (t120.length : Int) = (t102.length : Int)
     ·rw [if_pos c36] at H
      have c36b0 : ((t120.length : Int) == (t102.length : Int)) = true := beq_iff_eq.mpr c36
      have c36b1 : ((t120.length : Int) != (t102.length : Int)) = false := bne_eq_false_iff_eq.mpr c36
      have c36b2 : (t120.length == t102.length) = true := by first | simpa using c36 | (simp at c36 ⊢; omega)
      clear c36
      by_cases c37 : (t124.length : Int) = (t102.length : Int)
      ·rw [if_pos c37] at H
       have c37b0 : ((t124.length : Int) == (t102.length : Int)) = true := beq_iff_eq.mpr c37
       have c37b1 : ((t124.length : Int) != (t102.length : Int)) = false := bne_eq_false_iff_eq.mpr c37
       have c37b2 : (t124.length == t102.length) = true := by first | simpa using c37 | (simp at c37 ⊢; omega)
       clear c37
       by_cases c38 : (t127.length : Int) = (t102.length : Int)
       ·rw [if_pos c38] at H
        have c38b0 : ((t127.length : Int) == (t102.length : Int)) = true := beq_iff_eq.mpr c38
        have c38b1 : ((t127.length : Int) != (t102.length : Int)) = false := bne_eq_false_iff_eq.mpr c38
        have c38b2 : (t127.length == t102.length) = true := by first | simpa using c38 | (simp at c38 ⊢; omega)
        clear c38
        as_aux_lemma =>
         have H' := Aside0.mk H
         clear H
         obtain ⟨Ao39, co39, eo39⟩ := Kd.R_slice HO118.out
         subst eo39
         obtain ⟨Ao40, co40, eo40⟩ := Kd.R_slice HO122.out
         subst eo40
         obtain ⟨Ao41, co41, eo41⟩ := Kd.R_slice HO126.out
         subst eo41
         obtain ⟨Ao42, co42, eo42⟩ := Kd.R_slice HO129.out
         subst eo42
         obtain ⟨Ao43, co43, eo43⟩ := Kd.R_slice HO133.out
         subst eo43
         go_wp2
         repeat (go_quiet (fail); try go_wp2)
         go_meet
         case rel => exact ⟨_, (((t131.length : Int) != (t102.length : Int))), (by first | rfl | (simp; done) | (simp [*]; done)), H', ⟨by first | omega | exact Nat.le_refl _⟩, ⟨by (with_reducible repeat (first | apply Kd.R_alloc | apply Kd.R_drewN | apply Kd.R_drew)); exact Kd.R_mono HO112.out (fun _ hk => hk.2)⟩, ⟨by (with_reducible repeat (first | apply Kd.R_alloc | apply Kd.R_drewN | apply Kd.R_drew)); exact Kd.R_mono HO118.out (fun _ hk => ⟨hk.1.1.2, ⟨hk.1.2, hk.2⟩⟩)⟩, ⟨by (with_reducible repeat (first | apply Kd.R_alloc | apply Kd.R_drewN | apply Kd.R_drew)); exact Kd.R_mono HO122.out (fun _ hk => ⟨hk.1.1.2, ⟨hk.1.2, hk.2⟩⟩)⟩, ⟨by (with_reducible repeat (first | apply Kd.R_alloc | apply Kd.R_drewN | apply Kd.R_drew)); exact Kd.R_mono HO126.out (fun _ hk => ⟨hk.1.2, ⟨hk.2, hk.1.1.1⟩⟩)⟩, ⟨by (with_reducible repeat (first | apply Kd.R_alloc | apply Kd.R_drewN | apply Kd.R_drew)); exact Kd.R_mono HO129.out (fun _ hk => ⟨hk.1.2, ⟨hk.2, hk.1.1.1⟩⟩)⟩, ⟨by (with_reducible repeat (first | apply Kd.R_alloc | apply Kd.R_drewN | apply Kd.R_drew)); exact Kd.R_mono HO133.out (fun _ hk => hk.2)⟩, ⟨by (with_reducible repeat (first | apply Kd.R_alloc | apply Kd.R_drewN | apply Kd.R_drew)); exact HO104.out⟩, ⟨by (with_reducible repeat (first | refine blk_drewN ?_ _ | refine blk_drew ?_ | refine blk_alloc ?_ _)); exact BK113.out⟩, ⟨by repeat (first | (with_reducible first | exact HB.out | apply below_alloc | apply pw_below_drewN | apply below_drew1 | refine below_set ?_ GE113.out) | exact HB.out)⟩⟩
       ·rw [if_neg c38] at H
        exact absurd H (by simp)
      ·rw [if_neg c37] at H
       exact absurd H (by simp)
     ·rw [if_neg c36] at H
      exact absurd H (by simp)
    ·rw [if_neg c35] at H
     exact absurd H (by simp)
   ·rw [if_neg c34] at H
    exact absurd H (by simp)
  case rest =>
   clear HC20
   try clear p2
   try clear c3
   try clear c6
   try clear c6b0
   try clear c6b1
   try clear c6b2
   try clear p6
   try clear c8
   try clear c8b0
   try clear c8b1
   try clear c9
   try clear c34
   try clear c34b0
   try clear c34b1
   try clear c35
   try clear c35b0
   try clear c35b1
   try clear c35b2
   try clear c36
   try clear c36b0
   try clear c36b1
   try clear c36b2
   try clear c37
   try clear c37b0
   try clear c37b1
   try clear c37b2
   try clear c38
   try clear c38b0
   try clear c38b1
   try clear c38b2
   try clear hcz12_0
   try clear hcz12_1
   try clear hcz12_2
   try clear hcz12_3
   try clear hcz23_0
   try clear hcz23_1
   try clear hcz23_2
   try clear hcz23_3
   try clear hcz27_0
   try clear hcz27_1
   try clear hcz27_2
   try clear hcz27_3
   try clear hcz29_0
   try clear hcz29_1
   try clear hcz29_2
   try clear hcz29_3
   try clear hcz31_0
   try clear hcz31_1
   try clear hcz31_2
   try clear hcz31_3
   try clear hcz33_0
   try clear hcz33_1
   try clear hcz33_2
   try clear hcz33_3
   try clear hfz12_0
   try clear hfz12_1
   try clear hfz12_2
   try clear hfz12_3
   try clear hfz23_0
   try clear hfz23_1
   try clear hfz23_2
   try clear hfz23_3
   try clear hfz27_0
   try clear hfz27_1
   try clear hfz27_2
   try clear hfz27_3
   try clear hfz29_0
   try clear hfz29_1
   try clear hfz29_2
   try clear hfz29_3
   try clear hfz31_0
   try clear hfz31_1
   try clear hfz31_2
   try clear hfz31_3
   try clear hfz33_0
   try clear hfz33_1
   try clear hfz33_2
   try clear hfz33_3
   obtain ⟨kq, x116_19, rfl, HA, HJ19, HO_11, HO_12, HO_14, HO_16, HO_17, HO_19, HO_114001, BK113, HB⟩ := hcut
   as_aux_lemma =>
    cases kq with
    | zero => exact absurd HA.out (by simp [isobathlaw02_MooringEvery.j0])
    | succ kj19 =>
     have H := HA.out
     clear HA
     simp only [isobathlaw02_MooringEvery.j0] at H
     by_cases c44 : x116_19 = true
     ·subst c44
      have H1 : (none) = some r := by rw [if_pos rfl] at H; exact H
      clear H
      have H := H1
      clear H1
      exact absurd H (by simp)
     ·replace c44 := Bool.eq_false_iff.mpr c44
      subst c44
      have H1 : (isobathlaw02_MooringEvery.l0 kj19 l0 a3 t110 t116 t120 t124 t127 t131 (t102.length : Int) 0 0 0 t101 t102 t105 t106) = some r := by rw [if_neg (show ¬ (false = true) by decide)] at H; exact H
      clear H
      have H := H1
      clear H1
      have H' := Aside0.mk H
      clear H
      go_wp2
      repeat (go_quiet (fail); try go_wp2)
      go_loopg [22, 23, 24] kj19 (fun kq v22 v23 v24 w' => ∃ (x22_2 : Int) (x23_2 : Int) (x24_2 : Int), v22 = .int .i64 x22_2 ∧ v23 = .int .i64 x23_2 ∧ v24 = .int .i64 x24_2 ∧ Aside0 (isobathlaw02_MooringEvery.l0 kq l0 a3 t110 t116 t120 t124 t127 t131 (t102.length : Int) x22_2 x23_2 x24_2 t101 t102 t105 t106 = some r) ∧ Aside0 (kq ≤ kj19) ∧ Aside0 (Kd.R (Kd.int .i64) 2 w' w.heap.size (fun k_ => some k_ ≠ (v132 : Value).ownBlock) v111 t110) ∧ Aside0 (Kd.R k57 57 w' w.heap.size (fun k_ => some k_ ≠ (v121 : Value).ownBlock ∧ some k_ ≠ (v125 : Value).ownBlock ∧ some k_ ≠ (v128 : Value).ownBlock) v117 t116) ∧ Aside0 (Kd.R k57 57 w' w.heap.size (fun k_ => some k_ ≠ (v117 : Value).ownBlock ∧ some k_ ≠ (v125 : Value).ownBlock ∧ some k_ ≠ (v128 : Value).ownBlock) v121 t120) ∧ Aside0 (Kd.R k57 57 w' w.heap.size (fun k_ => some k_ ≠ (v117 : Value).ownBlock ∧ some k_ ≠ (v121 : Value).ownBlock ∧ some k_ ≠ (v128 : Value).ownBlock) v125 t124) ∧ Aside0 (Kd.R k57 57 w' w.heap.size (fun k_ => some k_ ≠ (v117 : Value).ownBlock ∧ some k_ ≠ (v121 : Value).ownBlock ∧ some k_ ≠ (v125 : Value).ownBlock) v128 t127) ∧ Aside0 (Kd.R (Kd.int .i64) 2 w' w.heap.size (fun k_ => some k_ ≠ (v111 : Value).ownBlock) v132 t131) ∧ Aside0 (Kd.R k46 46 w' w.heap.size (fun _ => True) (.slice Ao24 t102.length co24) t102) ∧ Aside0 (w'.heap[gb113]? = some (.cells #[.int .i64 t101, (.slice Ao24 t102.length co24), .int .i64 t105, .int .i64 t106] 37 (0, 0))) ∧ Aside0 (Below w.heap.size w w'))
      case atStart => exact ⟨(0), (0), (0), (by first | rfl | (simp; done) | (simp [*]; done)), (by first | rfl | (simp; done) | (simp [*]; done)), (by first | rfl | (simp; done) | (simp [*]; done)), H', ⟨Nat.le_refl _⟩, ⟨by (with_reducible repeat (first | apply Kd.R_alloc | apply Kd.R_drewN | apply Kd.R_drew)); exact HO_11.out⟩, ⟨by (with_reducible repeat (first | apply Kd.R_alloc | apply Kd.R_drewN | apply Kd.R_drew)); exact HO_12.out⟩, ⟨by (with_reducible repeat (first | apply Kd.R_alloc | apply Kd.R_drewN | apply Kd.R_drew)); exact HO_14.out⟩, ⟨by (with_reducible repeat (first | apply Kd.R_alloc | apply Kd.R_drewN | apply Kd.R_drew)); exact HO_16.out⟩, ⟨by (with_reducible repeat (first | apply Kd.R_alloc | apply Kd.R_drewN | apply Kd.R_drew)); exact HO_17.out⟩, ⟨by (with_reducible repeat (first | apply Kd.R_alloc | apply Kd.R_drewN | apply Kd.R_drew)); exact HO_19.out⟩, ⟨by (with_reducible repeat (first | apply Kd.R_alloc | apply Kd.R_drewN | apply Kd.R_drew)); exact HO_114001.out⟩, ⟨by (with_reducible repeat (first | refine blk_drewN ?_ _ | refine blk_drew ?_ | refine blk_alloc ?_ _)); exact BK113.out⟩, ⟨by repeat (first | (with_reducible first | exact HB.out | apply below_alloc | apply pw_below_drewN | apply below_drew1 | refine below_set ?_ GE113.out) | exact HB.out)⟩⟩
      case round =>
       clear H'
       try clear p2
       try clear c3
       try clear c4
       try clear c6
       try clear c6b0
       try clear c6b1
       try clear c6b2
       try clear p6
       try clear c8
       try clear c8b0
       try clear c8b1
       try clear c9
       try clear c34
       try clear c34b0
       try clear c34b1
       try clear c35
       try clear c35b0
       try clear c35b1
       try clear c35b2
       try clear c36
       try clear c36b0
       try clear c36b1
       try clear c36b2
       try clear c37
       try clear c37b0
       try clear c37b1
       try clear c37b2
       try clear c38
       try clear c38b0
       try clear c38b1
       try clear c38b2
       try clear c44
       try clear hcz12_0
       try clear hcz12_1
       try clear hcz12_2
       try clear hcz12_3
       try clear hcz23_0
       try clear hcz23_1
       try clear hcz23_2
       try clear hcz23_3
       try clear hcz27_0
       try clear hcz27_1
       try clear hcz27_2
       try clear hcz27_3
       try clear hcz29_0
       try clear hcz29_1
       try clear hcz29_2
       try clear hcz29_3
       try clear hcz31_0
       try clear hcz31_1
       try clear hcz31_2
       try clear hcz31_3
       try clear hcz33_0
       try clear hcz33_1
       try clear hcz33_2
       try clear hcz33_3
       try clear hfz12_0
       try clear hfz12_1
       try clear hfz12_2
       try clear hfz12_3
       try clear hfz23_0
       try clear hfz23_1
       try clear hfz23_2
       try clear hfz23_3
       try clear hfz27_0
       try clear hfz27_1
       try clear hfz27_2
       try clear hfz27_3
       try clear hfz29_0
       try clear hfz29_1
       try clear hfz29_2
       try clear hfz29_3
       try clear hfz31_0
       try clear hfz31_1
       try clear hfz31_2
       try clear hfz31_3
       try clear hfz33_0
       try clear hfz33_1
       try clear hfz33_2
       try clear hfz33_3
       try clear p2
       try clear p6
       obtain ⟨x22_2, x23_2, x24_2, rfl, rfl, rfl, HA, HK2, HO_11, HO_12, HO_14, HO_16, HO_17, HO_19, HO_114001, BK113, HB⟩ := hrel
       as_aux_lemma =>
        cases gk with
        | zero => exact absurd HA.out (by simp [isobathlaw02_MooringEvery.l0])
        | succ k2 =>
         have H := HA.out
         clear HA
         simp only [isobathlaw02_MooringEvery.l0] at H
         by_cases c45 : x24_2 < (t102.length : Int)
         ·rw [if_pos c45] at H
          have c45b0 : decide (x24_2 < (t102.length : Int)) = true := decide_eq_true c45
          clear c45
          have HC46 := Aside0.mk H
          clear H
          go_upto_if 122 with (fail)
          repeat (go_quiet (fail); go_upto_if 122 with (fail))
          go_cut [25, 26] (fun v25 v26 wc => ∃ (kq : Nat) (x25_45 : Int) (x26_45 : Int), v25 = .int .i64 x25_45 ∧ v26 = .int .i64 x26_45 ∧ Aside0 (isobathlaw02_MooringEvery.j2 kq l0 a3 t110 t116 t120 t124 t127 t131 (t102.length : Int) x22_2 x23_2 x24_2 x25_45 x26_45 t101 t102 t105 t106 = some r) ∧ Aside0 (kq ≤ k2) ∧ Aside0 (Kd.R (Kd.int .i64) 2 wc w.heap.size (fun k_ => some k_ ≠ (v132 : Value).ownBlock) v111 t110) ∧ Aside0 (Kd.R k57 57 wc w.heap.size (fun k_ => some k_ ≠ (v121 : Value).ownBlock ∧ some k_ ≠ (v125 : Value).ownBlock ∧ some k_ ≠ (v128 : Value).ownBlock) v117 t116) ∧ Aside0 (Kd.R k57 57 wc w.heap.size (fun k_ => some k_ ≠ (v117 : Value).ownBlock ∧ some k_ ≠ (v125 : Value).ownBlock ∧ some k_ ≠ (v128 : Value).ownBlock) v121 t120) ∧ Aside0 (Kd.R k57 57 wc w.heap.size (fun k_ => some k_ ≠ (v117 : Value).ownBlock ∧ some k_ ≠ (v121 : Value).ownBlock ∧ some k_ ≠ (v128 : Value).ownBlock) v125 t124) ∧ Aside0 (Kd.R k57 57 wc w.heap.size (fun k_ => some k_ ≠ (v117 : Value).ownBlock ∧ some k_ ≠ (v121 : Value).ownBlock ∧ some k_ ≠ (v125 : Value).ownBlock) v128 t127) ∧ Aside0 (Kd.R (Kd.int .i64) 2 wc w.heap.size (fun k_ => some k_ ≠ (v111 : Value).ownBlock) v132 t131) ∧ Aside0 (Kd.R k46 46 wc w.heap.size (fun _ => True) (.slice Ao24 t102.length co24) t102) ∧ Aside0 (wc.heap[gb113]? = some (.cells #[.int .i64 t101, (.slice Ao24 t102.length co24), .int .i64 t105, .int .i64 t106] 37 (0, 0))) ∧ Aside0 (Below w.heap.size w wc))
          case first =>
           have H := HC46.out
           clear HC46
           by_cases c47 : a3 = true
           ·subst c47
            have H1 : (if 0 ≤ x24_2 then (if x24_2 < (l0.length : Int) then ((isobathlaw02_direction.f ((rd_T69 l0 x24_2).f7)).bind fun bt137 => (isobathlaw02_MooringEvery.j2 k2 l0 true t110 t116 t120 t124 t127 t131 (t102.length : Int) x22_2 x23_2 x24_2 bt137.1 bt137.2 t101 t102 t105 t106)) else (none)) else (none)) = some r := by rw [if_pos rfl] at H; exact H
            clear H
            have H := H1
            clear H1
            by_cases c48 : 0 ≤ x24_2
            ·rw [if_pos c48] at H
             have c48b0 : decide (0 ≤ x24_2) = true := decide_eq_true c48
             clear c48
             (first | rw [c48b0] | (simp only [i64_w, i32_w]; rw [c48b0]) | skip)
             by_cases c49 : x24_2 < (l0.length : Int)
             ·rw [if_pos c49] at H
              have c49b0 : decide (x24_2 < (l0.length : Int)) = true := decide_eq_true c49
              clear c49
              replace H := Option.bind_eq_some_iff.mp H
              obtain ⟨⟨t137, t138⟩, A500, H⟩ := H
              replace H : (isobathlaw02_MooringEvery.j2 k2 l0 true t110 t116 t120 t124 t127 t131 (t102.length : Int) x22_2 x23_2 x24_2 t137 t138 t101 t102 t105 t106) = some r := H
              have A50 := Aside0.mk A500
              clear A500
              as_aux_lemma =>
               have H' := Aside0.mk H
               clear H
               have p136 : 0 ≤ (x24_2 : Int) := of_decide_eq_true (by first | (with_reducible assumption) | assumption)
               have q136 : x24_2 < (l0.length : Int) := of_decide_eq_true (by first | (with_reducible assumption) | assumption)
               obtain ⟨ad136, e136, hx136_0, hx136_1, hx136_2, hx136_3, hx136_4, hx136_5, hx136_6, hx136_7, hx136_8⟩ := at_T69 HR0.out x24_2 p136 q136
               cases e136
               replace hx136_0 := (HB.out.cell (World.block_lt_of_cell? w _ hx136_0)).trans hx136_0
               replace hx136_1 := (HB.out.cell (World.block_lt_of_cell? w _ hx136_1)).trans hx136_1
               replace hx136_2 := (HB.out.cell (World.block_lt_of_cell? w _ hx136_2)).trans hx136_2
               replace hx136_3 := (HB.out.cell (World.block_lt_of_cell? w _ hx136_3)).trans hx136_3
               replace hx136_4 := (HB.out.cell (World.block_lt_of_cell? w _ hx136_4)).trans hx136_4
               replace hx136_5 := (HB.out.cell (World.block_lt_of_cell? w _ hx136_5)).trans hx136_5
               replace hx136_6 := (HB.out.cell (World.block_lt_of_cell? w _ hx136_6)).trans hx136_6
               replace hx136_7 := (HB.out.cell (World.block_lt_of_cell? w _ hx136_7)).trans hx136_7
               replace hx136_8 := (HB.out.cell (World.block_lt_of_cell? w _ hx136_8)).trans hx136_8
               replace p136 := eq_true p136
               replace q136 := eq_true q136
               go_wp2_with (first | (go_at_call 45; (with_reducible refine (isobathlaw02_direction.calls ((rd_T69 l0 x24_2).f7) t137 t138 _ A50.out).mono ?_); rintro e w51 ⟨rfl, hb⟩; have n0_ := Aside0.mk (Kd.R_below (by (with_reducible repeat (first | apply Kd.R_alloc | apply Kd.R_drewN | apply Kd.R_drew)); exact HO_11.out) hb); have n1_ := Aside0.mk (Kd.R_below (by (with_reducible repeat (first | apply Kd.R_alloc | apply Kd.R_drewN | apply Kd.R_drew)); exact HO_12.out) hb); have n2_ := Aside0.mk (Kd.R_below (by (with_reducible repeat (first | apply Kd.R_alloc | apply Kd.R_drewN | apply Kd.R_drew)); exact HO_14.out) hb); have n3_ := Aside0.mk (Kd.R_below (by (with_reducible repeat (first | apply Kd.R_alloc | apply Kd.R_drewN | apply Kd.R_drew)); exact HO_16.out) hb); have n4_ := Aside0.mk (Kd.R_below (by (with_reducible repeat (first | apply Kd.R_alloc | apply Kd.R_drewN | apply Kd.R_drew)); exact HO_17.out) hb); have n5_ := Aside0.mk (Kd.R_below (by (with_reducible repeat (first | apply Kd.R_alloc | apply Kd.R_drewN | apply Kd.R_drew)); exact HO_19.out) hb); have n6_ := Aside0.mk (Kd.R_below (by (with_reducible repeat (first | apply Kd.R_alloc | apply Kd.R_drewN | apply Kd.R_drew)); exact HO_114001.out) hb); have n7_ := Aside0.mk (blk_below (g := gb113) (o := .cells #[.int .i64 t101, .slice Ao24 t102.length co24, .int .i64 t105, .int .i64 t106] 37 (0, 0)) (by (with_reducible repeat (first | refine blk_drewN ?_ _ | refine blk_drew ?_ | refine blk_alloc ?_ _)); exact BK113.out) hb); have n8_ := Aside0.mk (below_step (by repeat (first | (with_reducible first | exact HB.out | apply below_alloc | apply pw_below_drewN | apply below_drew1 | refine below_set ?_ GE113.out) | exact HB.out)) hb); clear HO_11; clear HO_12; clear HO_14; clear HO_16; clear HO_17; clear HO_19; clear HO_114001; clear BK113; clear HB; have HO_11 := n0_; have HO_12 := n1_; have HO_14 := n2_; have HO_16 := n3_; have HO_17 := n4_; have HO_19 := n5_; have HO_114001 := n6_; have BK113 := n7_; have HB := n8_; clear n0_ n1_ n2_ n3_ n4_ n5_ n6_ n7_ n8_; (try clear hb); (try clear hb2); (try clear hk); (try clear hi)))
               repeat (go_quiet (first | (go_at_call 45; (with_reducible refine (isobathlaw02_direction.calls ((rd_T69 l0 x24_2).f7) t137 t138 _ A50.out).mono ?_); rintro e w51 ⟨rfl, hb⟩; have n0_ := Aside0.mk (Kd.R_below (by (with_reducible repeat (first | apply Kd.R_alloc | apply Kd.R_drewN | apply Kd.R_drew)); exact HO_11.out) hb); have n1_ := Aside0.mk (Kd.R_below (by (with_reducible repeat (first | apply Kd.R_alloc | apply Kd.R_drewN | apply Kd.R_drew)); exact HO_12.out) hb); have n2_ := Aside0.mk (Kd.R_below (by (with_reducible repeat (first | apply Kd.R_alloc | apply Kd.R_drewN | apply Kd.R_drew)); exact HO_14.out) hb); have n3_ := Aside0.mk (Kd.R_below (by (with_reducible repeat (first | apply Kd.R_alloc | apply Kd.R_drewN | apply Kd.R_drew)); exact HO_16.out) hb); have n4_ := Aside0.mk (Kd.R_below (by (with_reducible repeat (first | apply Kd.R_alloc | apply Kd.R_drewN | apply Kd.R_drew)); exact HO_17.out) hb); have n5_ := Aside0.mk (Kd.R_below (by (with_reducible repeat (first | apply Kd.R_alloc | apply Kd.R_drewN | apply Kd.R_drew)); exact HO_19.out) hb); have n6_ := Aside0.mk (Kd.R_below (by (with_reducible repeat (first | apply Kd.R_alloc | apply Kd.R_drewN | apply Kd.R_drew)); exact HO_114001.out) hb); have n7_ := Aside0.mk (blk_below (g := gb113) (o := .cells #[.int .i64 t101, .slice Ao24 t102.length co24, .int .i64 t105, .int .i64 t106] 37 (0, 0)) (by (with_reducible repeat (first | refine blk_drewN ?_ _ | refine blk_drew ?_ | refine blk_alloc ?_ _)); exact BK113.out) hb); have n8_ := Aside0.mk (below_step (by repeat (first | (with_reducible first | exact HB.out | apply below_alloc | apply pw_below_drewN | apply below_drew1 | refine below_set ?_ GE113.out) | exact HB.out)) hb); clear HO_11; clear HO_12; clear HO_14; clear HO_16; clear HO_17; clear HO_19; clear HO_114001; clear BK113; clear HB; have HO_11 := n0_; have HO_12 := n1_; have HO_14 := n2_; have HO_16 := n3_; have HO_17 := n4_; have HO_19 := n5_; have HO_114001 := n6_; have BK113 := n7_; have HB := n8_; clear n0_ n1_ n2_ n3_ n4_ n5_ n6_ n7_ n8_; (try clear hb); (try clear hb2); (try clear hk); (try clear hi))); try go_wp2_with (first | (go_at_call 45; (with_reducible refine (isobathlaw02_direction.calls ((rd_T69 l0 x24_2).f7) t137 t138 _ A50.out).mono ?_); rintro e w51 ⟨rfl, hb⟩; have n0_ := Aside0.mk (Kd.R_below (by (with_reducible repeat (first | apply Kd.R_alloc | apply Kd.R_drewN | apply Kd.R_drew)); exact HO_11.out) hb); have n1_ := Aside0.mk (Kd.R_below (by (with_reducible repeat (first | apply Kd.R_alloc | apply Kd.R_drewN | apply Kd.R_drew)); exact HO_12.out) hb); have n2_ := Aside0.mk (Kd.R_below (by (with_reducible repeat (first | apply Kd.R_alloc | apply Kd.R_drewN | apply Kd.R_drew)); exact HO_14.out) hb); have n3_ := Aside0.mk (Kd.R_below (by (with_reducible repeat (first | apply Kd.R_alloc | apply Kd.R_drewN | apply Kd.R_drew)); exact HO_16.out) hb); have n4_ := Aside0.mk (Kd.R_below (by (with_reducible repeat (first | apply Kd.R_alloc | apply Kd.R_drewN | apply Kd.R_drew)); exact HO_17.out) hb); have n5_ := Aside0.mk (Kd.R_below (by (with_reducible repeat (first | apply Kd.R_alloc | apply Kd.R_drewN | apply Kd.R_drew)); exact HO_19.out) hb); have n6_ := Aside0.mk (Kd.R_below (by (with_reducible repeat (first | apply Kd.R_alloc | apply Kd.R_drewN | apply Kd.R_drew)); exact HO_114001.out) hb); have n7_ := Aside0.mk (blk_below (g := gb113) (o := .cells #[.int .i64 t101, .slice Ao24 t102.length co24, .int .i64 t105, .int .i64 t106] 37 (0, 0)) (by (with_reducible repeat (first | refine blk_drewN ?_ _ | refine blk_drew ?_ | refine blk_alloc ?_ _)); exact BK113.out) hb); have n8_ := Aside0.mk (below_step (by repeat (first | (with_reducible first | exact HB.out | apply below_alloc | apply pw_below_drewN | apply below_drew1 | refine below_set ?_ GE113.out) | exact HB.out)) hb); clear HO_11; clear HO_12; clear HO_14; clear HO_16; clear HO_17; clear HO_19; clear HO_114001; clear BK113; clear HB; have HO_11 := n0_; have HO_12 := n1_; have HO_14 := n2_; have HO_16 := n3_; have HO_17 := n4_; have HO_19 := n5_; have HO_114001 := n6_; have BK113 := n7_; have HB := n8_; clear n0_ n1_ n2_ n3_ n4_ n5_ n6_ n7_ n8_; (try clear hb); (try clear hb2); (try clear hk); (try clear hi))))
               go_meet
               case rel => exact ⟨_, (t137), (t138), (by first | rfl | (simp; done) | (simp [*]; done)), (by first | rfl | (simp; done) | (simp [*]; done)), H', ⟨by have := HJ19.out; have := HK2.out; first | omega | exact Nat.le_refl _⟩, ⟨by (with_reducible repeat (first | apply Kd.R_alloc | apply Kd.R_drewN | apply Kd.R_drew)); exact HO_11.out⟩, ⟨by (with_reducible repeat (first | apply Kd.R_alloc | apply Kd.R_drewN | apply Kd.R_drew)); exact HO_12.out⟩, ⟨by (with_reducible repeat (first | apply Kd.R_alloc | apply Kd.R_drewN | apply Kd.R_drew)); exact HO_14.out⟩, ⟨by (with_reducible repeat (first | apply Kd.R_alloc | apply Kd.R_drewN | apply Kd.R_drew)); exact HO_16.out⟩, ⟨by (with_reducible repeat (first | apply Kd.R_alloc | apply Kd.R_drewN | apply Kd.R_drew)); exact HO_17.out⟩, ⟨by (with_reducible repeat (first | apply Kd.R_alloc | apply Kd.R_drewN | apply Kd.R_drew)); exact HO_19.out⟩, ⟨by (with_reducible repeat (first | apply Kd.R_alloc | apply Kd.R_drewN | apply Kd.R_drew)); exact HO_114001.out⟩, ⟨by (with_reducible repeat (first | refine blk_drewN ?_ _ | refine blk_drew ?_ | refine blk_alloc ?_ _)); exact BK113.out⟩, ⟨by repeat (first | (with_reducible first | exact HB.out | apply below_alloc | apply pw_below_drewN | apply below_drew1 | refine below_set ?_ GE113.out) | exact HB.out)⟩⟩
             ·rw [if_neg c49] at H
              exact absurd H (by simp)
            ·rw [if_neg c48] at H
             exact absurd H (by simp)
           ·replace c47 := Bool.eq_false_iff.mpr c47
            subst c47
            have H1 : (isobathlaw02_MooringEvery.j2 k2 l0 false t110 t116 t120 t124 t127 t131 (t102.length : Int) x22_2 x23_2 x24_2 5 0 t101 t102 t105 t106) = some r := by rw [if_neg (show ¬ (false = true) by decide)] at H; exact H
            clear H
            have H := H1
            clear H1
            as_aux_lemma =>
             have H' := Aside0.mk H
             clear H
             go_wp2
             repeat (go_quiet (fail); try go_wp2)
             go_meet
             case rel => exact ⟨_, (5), (0), (by first | rfl | (simp; done) | (simp [*]; done)), (by first | rfl | (simp; done) | (simp [*]; done)), H', ⟨by have := HJ19.out; have := HK2.out; first | omega | exact Nat.le_refl _⟩, ⟨by (with_reducible repeat (first | apply Kd.R_alloc | apply Kd.R_drewN | apply Kd.R_drew)); exact HO_11.out⟩, ⟨by (with_reducible repeat (first | apply Kd.R_alloc | apply Kd.R_drewN | apply Kd.R_drew)); exact HO_12.out⟩, ⟨by (with_reducible repeat (first | apply Kd.R_alloc | apply Kd.R_drewN | apply Kd.R_drew)); exact HO_14.out⟩, ⟨by (with_reducible repeat (first | apply Kd.R_alloc | apply Kd.R_drewN | apply Kd.R_drew)); exact HO_16.out⟩, ⟨by (with_reducible repeat (first | apply Kd.R_alloc | apply Kd.R_drewN | apply Kd.R_drew)); exact HO_17.out⟩, ⟨by (with_reducible repeat (first | apply Kd.R_alloc | apply Kd.R_drewN | apply Kd.R_drew)); exact HO_19.out⟩, ⟨by (with_reducible repeat (first | apply Kd.R_alloc | apply Kd.R_drewN | apply Kd.R_drew)); exact HO_114001.out⟩, ⟨by (with_reducible repeat (first | refine blk_drewN ?_ _ | refine blk_drew ?_ | refine blk_alloc ?_ _)); exact BK113.out⟩, ⟨by repeat (first | (with_reducible first | exact HB.out | apply below_alloc | apply pw_below_drewN | apply below_drew1 | refine below_set ?_ GE113.out) | exact HB.out)⟩⟩
          case rest =>
           clear HC46
           try clear p1
           try clear q1
           try clear hx1
           try clear p2
           try clear c3
           try clear c4
           try clear c6
           try clear c6b0
           try clear c6b1
           try clear c6b2
           try clear p6
           try clear c8
           try clear c8b0
           try clear c8b1
           try clear c9
           try clear p13
           try clear q13
           try clear hx13
           try clear c34
           try clear c34b0
           try clear c34b1
           try clear c35
           try clear c35b0
           try clear c35b1
           try clear c35b2
           try clear c36
           try clear c36b0
           try clear c36b1
           try clear c36b2
           try clear c37
           try clear c37b0
           try clear c37b1
           try clear c37b2
           try clear c38
           try clear c38b0
           try clear c38b1
           try clear c38b2
           try clear c44
           try clear c45
           try clear c45b0
           try clear c47
           try clear c48
           try clear c48b0
           try clear c49
           try clear c49b0
           try clear hcz12_0
           try clear hcz12_1
           try clear hcz12_2
           try clear hcz12_3
           try clear hcz23_0
           try clear hcz23_1
           try clear hcz23_2
           try clear hcz23_3
           try clear hcz27_0
           try clear hcz27_1
           try clear hcz27_2
           try clear hcz27_3
           try clear hcz29_0
           try clear hcz29_1
           try clear hcz29_2
           try clear hcz29_3
           try clear hcz31_0
           try clear hcz31_1
           try clear hcz31_2
           try clear hcz31_3
           try clear hcz33_0
           try clear hcz33_1
           try clear hcz33_2
           try clear hcz33_3
           try clear hfz12_0
           try clear hfz12_1
           try clear hfz12_2
           try clear hfz12_3
           try clear hfz23_0
           try clear hfz23_1
           try clear hfz23_2
           try clear hfz23_3
           try clear hfz27_0
           try clear hfz27_1
           try clear hfz27_2
           try clear hfz27_3
           try clear hfz29_0
           try clear hfz29_1
           try clear hfz29_2
           try clear hfz29_3
           try clear hfz31_0
           try clear hfz31_1
           try clear hfz31_2
           try clear hfz31_3
           try clear hfz33_0
           try clear hfz33_1
           try clear hfz33_2
           try clear hfz33_3
           try clear hx136_0
           try clear hx136_1
           try clear hx136_2
           try clear hx136_3
           try clear hx136_4
           try clear hx136_5
           try clear hx136_6
           try clear hx136_7
           try clear hx136_8
           try clear p136
           try clear p2
           try clear p6
           try clear q136
           obtain ⟨kq, x25_45, x26_45, rfl, rfl, HA, HJ45, HO_11, HO_12, HO_14, HO_16, HO_17, HO_19, HO_114001, BK113, HB⟩ := hcut
           as_aux_lemma =>
            cases kq with
            | zero => exact absurd HA.out (by simp [isobathlaw02_MooringEvery.j2])
            | succ kj45 =>
             have H := HA.out
             clear HA
             simp only [isobathlaw02_MooringEvery.j2] at H
             have HC52 := Aside0.mk H
             clear H
             go_upto_region 18 with (fail)
             repeat (go_quiet (fail); go_upto_region 18 with (fail))
             go_cut [27] (fun v27 wc => ∃ (kq : Nat) (x27_51 : Int), v27 = .int .i64 x27_51 ∧ Aside0 (isobathlaw02_MooringEvery.j3 kq l0 a3 t110 t116 t120 t124 t127 t131 (t102.length : Int) x22_2 x23_2 x24_2 x25_45 x26_45 x27_51 t101 t102 t105 t106 = some r) ∧ Aside0 (kq ≤ kj45) ∧ Aside0 (Kd.R (Kd.int .i64) 2 wc w.heap.size (fun k_ => some k_ ≠ (v132 : Value).ownBlock) v111 t110) ∧ Aside0 (Kd.R k57 57 wc w.heap.size (fun k_ => some k_ ≠ (v121 : Value).ownBlock ∧ some k_ ≠ (v125 : Value).ownBlock ∧ some k_ ≠ (v128 : Value).ownBlock) v117 t116) ∧ Aside0 (Kd.R k57 57 wc w.heap.size (fun k_ => some k_ ≠ (v117 : Value).ownBlock ∧ some k_ ≠ (v125 : Value).ownBlock ∧ some k_ ≠ (v128 : Value).ownBlock) v121 t120) ∧ Aside0 (Kd.R k57 57 wc w.heap.size (fun k_ => some k_ ≠ (v117 : Value).ownBlock ∧ some k_ ≠ (v121 : Value).ownBlock ∧ some k_ ≠ (v128 : Value).ownBlock) v125 t124) ∧ Aside0 (Kd.R k57 57 wc w.heap.size (fun k_ => some k_ ≠ (v117 : Value).ownBlock ∧ some k_ ≠ (v121 : Value).ownBlock ∧ some k_ ≠ (v125 : Value).ownBlock) v128 t127) ∧ Aside0 (Kd.R (Kd.int .i64) 2 wc w.heap.size (fun k_ => some k_ ≠ (v111 : Value).ownBlock) v132 t131) ∧ Aside0 (Kd.R k46 46 wc w.heap.size (fun _ => True) (.slice Ao24 t102.length co24) t102) ∧ Aside0 (wc.heap[gb113]? = some (.cells #[.int .i64 t101, (.slice Ao24 t102.length co24), .int .i64 t105, .int .i64 t106] 37 (0, 0))) ∧ Aside0 (Below w.heap.size w wc))
             case first =>
              have H := HC52.out
              clear HC52
              by_cases c53 : 0 ≤ x24_2
              ·rw [if_pos c53] at H
               have c53b0 : decide (0 ≤ x24_2) = true := decide_eq_true c53
               clear c53
               (first | rw [c53b0] | (simp only [i64_w, i32_w]; rw [c53b0]) | skip)
               by_cases c54 : x24_2 < (t102.length : Int)
               ·rw [if_pos c54] at H
                have c54b0 : decide (x24_2 < (t102.length : Int)) = true := decide_eq_true c54
                clear c54
                by_cases c55 : x24_2 < (t110.length : Int)
                ·rw [if_pos c55] at H
                 have c55b0 : decide (x24_2 < (t110.length : Int)) = true := decide_eq_true c55
                 clear c55
                 as_aux_lemma =>
                  have H' := Aside0.mk H
                  clear H
                  have hcz56_0 : wc.cell? ⟨gb113, 0, none⟩ = some (.int .i64 t101) := (blk_cell BK113.out 0).trans rfl
                  have hcz56_1 : wc.cell? ⟨gb113, 1, none⟩ = some (.slice Ao24 t102.length co24) := (blk_cell BK113.out 1).trans rfl
                  have hcz56_2 : wc.cell? ⟨gb113, 2, none⟩ = some (.int .i64 t105) := (blk_cell BK113.out 2).trans rfl
                  have hcz56_3 : wc.cell? ⟨gb113, 3, none⟩ = some (.int .i64 t106) := (blk_cell BK113.out 3).trans rfl
                  have hfz56_0 := blk_frozen BK113.out 0
                  have hfz56_1 := blk_frozen BK113.out 1
                  have hfz56_2 := blk_frozen BK113.out 2
                  have hfz56_3 := blk_frozen BK113.out 3
                  have p139 : 0 ≤ (x24_2 : Int) := of_decide_eq_true (by first | (with_reducible assumption) | assumption)
                  have q139 : x24_2 < (t102.length : Int) := of_decide_eq_true (by first | (with_reducible assumption) | assumption)
                  obtain ⟨ad139, e139, hx139_0, hx139_1, hx139_2, hx139_3⟩ := at_T46 (Kd.R_reads' HO_114001.out).2.2 x24_2 p139 q139
                  cases e139
                  replace p139 := eq_true p139
                  replace q139 := eq_true q139
                  obtain ⟨Ao57, co57, eo57⟩ := Kd.R_slice HO_11.out
                  subst eo57
                  have p140 : 0 ≤ (x24_2 : Int) := of_decide_eq_true (by first | (with_reducible assumption) | assumption)
                  have q140 : x24_2 < (t110.length : Int) := of_decide_eq_true (by first | (with_reducible assumption) | assumption)
                  obtain ⟨ad140, e140, hx140_0⟩ := Kd.at_int (Kd.R_reads' HO_11.out).2.2 x24_2 p140 q140
                  cases e140
                  replace p140 := eq_true p140
                  replace q140 := eq_true q140
                  have p141 : 0 ≤ (x24_2 : Int) := of_decide_eq_true (by first | (with_reducible assumption) | assumption)
                  have q141 : x24_2 < (t110.length : Int) := of_decide_eq_true (by first | (with_reducible assumption) | assumption)
                  obtain ⟨ad141, e141, hx141_0⟩ := Kd.at_int (Kd.R_reads' HO_11.out).2.2 x24_2 p141 q141
                  obtain rfl : ad140 = ad141 := (by injection e141)
                  replace p141 := eq_true p141
                  replace q141 := eq_true q141
                  go_wp2
                  repeat (go_quiet (fail); try go_wp2)
                  go_meet
                  case rel => exact ⟨_, (wrap64 ((wrap64 (((rd_T46 t102 x24_2).f2) * (rd t110 x24_2))) * (rd t110 x24_2))), (by first | rfl | (simp; done) | (simp [*]; done)), H', ⟨by have := HJ19.out; have := HK2.out; have := HJ45.out; first | omega | exact Nat.le_refl _⟩, ⟨by (with_reducible repeat (first | apply Kd.R_alloc | apply Kd.R_drewN | apply Kd.R_drew)); exact HO_11.out⟩, ⟨by (with_reducible repeat (first | apply Kd.R_alloc | apply Kd.R_drewN | apply Kd.R_drew)); exact HO_12.out⟩, ⟨by (with_reducible repeat (first | apply Kd.R_alloc | apply Kd.R_drewN | apply Kd.R_drew)); exact HO_14.out⟩, ⟨by (with_reducible repeat (first | apply Kd.R_alloc | apply Kd.R_drewN | apply Kd.R_drew)); exact HO_16.out⟩, ⟨by (with_reducible repeat (first | apply Kd.R_alloc | apply Kd.R_drewN | apply Kd.R_drew)); exact HO_17.out⟩, ⟨by (with_reducible repeat (first | apply Kd.R_alloc | apply Kd.R_drewN | apply Kd.R_drew)); exact HO_19.out⟩, ⟨by (with_reducible repeat (first | apply Kd.R_alloc | apply Kd.R_drewN | apply Kd.R_drew)); exact HO_114001.out⟩, ⟨by (with_reducible repeat (first | refine blk_drewN ?_ _ | refine blk_drew ?_ | refine blk_alloc ?_ _)); exact BK113.out⟩, ⟨by repeat (first | (with_reducible first | exact HB.out | apply below_alloc | apply pw_below_drewN | apply below_drew1 | refine below_set ?_ GE113.out) | exact HB.out)⟩⟩
                ·rw [if_neg c55] at H
                 exact absurd H (by simp)
               ·rw [if_neg c54] at H
                exact absurd H (by simp)
              ·rw [if_neg c53] at H
               exact absurd H (by simp)
             case rest =>
              clear HC52
              try clear p1
              try clear q1
              try clear hx1
              try clear p2
              try clear c3
              try clear c4
              try clear c5
              try clear c6
              try clear c6b0
              try clear c6b1
              try clear c6b2
              try clear p6
              try clear c8
              try clear c8b0
              try clear c8b1
              try clear c9
              try clear p13
              try clear q13
              try clear hx13
              try clear p14
              try clear q14
              try clear hx14
              try clear c34
              try clear c34b0
              try clear c34b1
              try clear c35
              try clear c35b0
              try clear c35b1
              try clear c35b2
              try clear c36
              try clear c36b0
              try clear c36b1
              try clear c36b2
              try clear c37
              try clear c37b0
              try clear c37b1
              try clear c37b2
              try clear c38
              try clear c38b0
              try clear c38b1
              try clear c38b2
              try clear c44
              try clear c45
              try clear c45b0
              try clear c47
              try clear c48
              try clear c48b0
              try clear c49
              try clear c49b0
              try clear c53
              try clear c53b0
              try clear c54
              try clear c54b0
              try clear c55
              try clear c55b0
              try clear hcz12_0
              try clear hcz12_1
              try clear hcz12_2
              try clear hcz12_3
              try clear hcz23_0
              try clear hcz23_1
              try clear hcz23_2
              try clear hcz23_3
              try clear hcz27_0
              try clear hcz27_1
              try clear hcz27_2
              try clear hcz27_3
              try clear hcz29_0
              try clear hcz29_1
              try clear hcz29_2
              try clear hcz29_3
              try clear hcz31_0
              try clear hcz31_1
              try clear hcz31_2
              try clear hcz31_3
              try clear hcz33_0
              try clear hcz33_1
              try clear hcz33_2
              try clear hcz33_3
              try clear hcz56_0
              try clear hcz56_1
              try clear hcz56_2
              try clear hcz56_3
              try clear hfz12_0
              try clear hfz12_1
              try clear hfz12_2
              try clear hfz12_3
              try clear hfz23_0
              try clear hfz23_1
              try clear hfz23_2
              try clear hfz23_3
              try clear hfz27_0
              try clear hfz27_1
              try clear hfz27_2
              try clear hfz27_3
              try clear hfz29_0
              try clear hfz29_1
              try clear hfz29_2
              try clear hfz29_3
              try clear hfz31_0
              try clear hfz31_1
              try clear hfz31_2
              try clear hfz31_3
              try clear hfz33_0
              try clear hfz33_1
              try clear hfz33_2
              try clear hfz33_3
              try clear hfz56_0
              try clear hfz56_1
              try clear hfz56_2
              try clear hfz56_3
              try clear hx136_0
              try clear hx136_1
              try clear hx136_2
              try clear hx136_3
              try clear hx136_4
              try clear hx136_5
              try clear hx136_6
              try clear hx136_7
              try clear hx136_8
              try clear hx139_0
              try clear hx139_1
              try clear hx139_2
              try clear hx139_3
              try clear hx140_0
              try clear hx141_0
              try clear p1
              try clear p13
              try clear p136
              try clear p139
              try clear p140
              try clear p141
              try clear p2
              try clear p6
              try clear q1
              try clear q13
              try clear q136
              try clear q139
              try clear q140
              try clear q141
              obtain ⟨kq, x27_51, rfl, HA, HJ51, HO_11, HO_12, HO_14, HO_16, HO_17, HO_19, HO_114001, BK113, HB⟩ := hcut
              as_aux_lemma =>
               cases kq with
               | zero => exact absurd HA.out (by simp [isobathlaw02_MooringEvery.j3])
               | succ kj51 =>
                have H := HA.out
                clear HA
                simp only [isobathlaw02_MooringEvery.j3] at H
                have HC58 := Aside0.mk H
                clear H
                go_upto_region 20 with (fail)
                repeat (go_quiet (fail); go_upto_region 20 with (fail))
                go_cut [22, 23] (fun v22 v23 wc => ∃ (kq : Nat) (x22_57 : Int) (x23_57 : Int), v22 = .int .i64 x22_57 ∧ v23 = .int .i64 x23_57 ∧ Aside0 (isobathlaw02_MooringEvery.j4 kq l0 a3 t110 t116 t120 t124 t127 t131 (t102.length : Int) x22_57 x23_57 x24_2 t101 t102 t105 t106 = some r) ∧ Aside0 (kq ≤ kj51) ∧ Aside0 (Kd.R (Kd.int .i64) 2 wc w.heap.size (fun k_ => some k_ ≠ (v132 : Value).ownBlock) v111 t110) ∧ Aside0 (Kd.R k57 57 wc w.heap.size (fun k_ => some k_ ≠ (v121 : Value).ownBlock ∧ some k_ ≠ (v125 : Value).ownBlock ∧ some k_ ≠ (v128 : Value).ownBlock) v117 t116) ∧ Aside0 (Kd.R k57 57 wc w.heap.size (fun k_ => some k_ ≠ (v117 : Value).ownBlock ∧ some k_ ≠ (v125 : Value).ownBlock ∧ some k_ ≠ (v128 : Value).ownBlock) v121 t120) ∧ Aside0 (Kd.R k57 57 wc w.heap.size (fun k_ => some k_ ≠ (v117 : Value).ownBlock ∧ some k_ ≠ (v121 : Value).ownBlock ∧ some k_ ≠ (v128 : Value).ownBlock) v125 t124) ∧ Aside0 (Kd.R k57 57 wc w.heap.size (fun k_ => some k_ ≠ (v117 : Value).ownBlock ∧ some k_ ≠ (v121 : Value).ownBlock ∧ some k_ ≠ (v125 : Value).ownBlock) v128 t127) ∧ Aside0 (Kd.R (Kd.int .i64) 2 wc w.heap.size (fun k_ => some k_ ≠ (v111 : Value).ownBlock) v132 t131) ∧ Aside0 (Kd.R k46 46 wc w.heap.size (fun _ => True) (.slice Ao24 t102.length co24) t102) ∧ Aside0 (wc.heap[gb113]? = some (.cells #[.int .i64 t101, (.slice Ao24 t102.length co24), .int .i64 t105, .int .i64 t106] 37 (0, 0))) ∧ Aside0 (Below w.heap.size w wc))
                case first =>
                 have H := HC58.out
                 clear HC58
                 as_aux_lemma =>
                  have H' := Aside0.mk H
                  clear H
                  go_wp2
                  repeat (go_quiet (fail); try go_wp2)
                  go_meet
                  case rel => exact ⟨_, (wrap64 (x22_2 + (wrap64 (x25_45 * x27_51)))), (wrap64 (x23_2 + (wrap64 (x26_45 * x27_51)))), (by first | rfl | (simp; done) | (simp [*]; done)), (by first | rfl | (simp; done) | (simp [*]; done)), H', ⟨by have := HJ19.out; have := HK2.out; have := HJ45.out; have := HJ51.out; first | omega | exact Nat.le_refl _⟩, ⟨by (with_reducible repeat (first | apply Kd.R_alloc | apply Kd.R_drewN | apply Kd.R_drew)); exact HO_11.out⟩, ⟨by (with_reducible repeat (first | apply Kd.R_alloc | apply Kd.R_drewN | apply Kd.R_drew)); exact HO_12.out⟩, ⟨by (with_reducible repeat (first | apply Kd.R_alloc | apply Kd.R_drewN | apply Kd.R_drew)); exact HO_14.out⟩, ⟨by (with_reducible repeat (first | apply Kd.R_alloc | apply Kd.R_drewN | apply Kd.R_drew)); exact HO_16.out⟩, ⟨by (with_reducible repeat (first | apply Kd.R_alloc | apply Kd.R_drewN | apply Kd.R_drew)); exact HO_17.out⟩, ⟨by (with_reducible repeat (first | apply Kd.R_alloc | apply Kd.R_drewN | apply Kd.R_drew)); exact HO_19.out⟩, ⟨by (with_reducible repeat (first | apply Kd.R_alloc | apply Kd.R_drewN | apply Kd.R_drew)); exact HO_114001.out⟩, ⟨by (with_reducible repeat (first | refine blk_drewN ?_ _ | refine blk_drew ?_ | refine blk_alloc ?_ _)); exact BK113.out⟩, ⟨by repeat (first | (with_reducible first | exact HB.out | apply below_alloc | apply pw_below_drewN | apply below_drew1 | refine below_set ?_ GE113.out) | exact HB.out)⟩⟩
                case rest =>
                 clear HC58
                 try clear p1
                 try clear q1
                 try clear hx1
                 try clear p2
                 try clear c3
                 try clear c4
                 try clear c5
                 try clear c6
                 try clear c6b0
                 try clear c6b1
                 try clear c6b2
                 try clear p6
                 try clear c8
                 try clear c8b0
                 try clear c8b1
                 try clear c9
                 try clear p13
                 try clear q13
                 try clear hx13
                 try clear p14
                 try clear q14
                 try clear hx14
                 try clear c34
                 try clear c34b0
                 try clear c34b1
                 try clear c35
                 try clear c35b0
                 try clear c35b1
                 try clear c35b2
                 try clear c36
                 try clear c36b0
                 try clear c36b1
                 try clear c36b2
                 try clear c37
                 try clear c37b0
                 try clear c37b1
                 try clear c37b2
                 try clear c38
                 try clear c38b0
                 try clear c38b1
                 try clear c38b2
                 try clear c44
                 try clear c45
                 try clear c45b0
                 try clear c47
                 try clear c48
                 try clear c48b0
                 try clear c49
                 try clear c49b0
                 try clear c53
                 try clear c53b0
                 try clear c54
                 try clear c54b0
                 try clear c55
                 try clear c55b0
                 try clear hcz12_0
                 try clear hcz12_1
                 try clear hcz12_2
                 try clear hcz12_3
                 try clear hcz23_0
                 try clear hcz23_1
                 try clear hcz23_2
                 try clear hcz23_3
                 try clear hcz27_0
                 try clear hcz27_1
                 try clear hcz27_2
                 try clear hcz27_3
                 try clear hcz29_0
                 try clear hcz29_1
                 try clear hcz29_2
                 try clear hcz29_3
                 try clear hcz31_0
                 try clear hcz31_1
                 try clear hcz31_2
                 try clear hcz31_3
                 try clear hcz33_0
                 try clear hcz33_1
                 try clear hcz33_2
                 try clear hcz33_3
                 try clear hcz56_0
                 try clear hcz56_1
                 try clear hcz56_2
                 try clear hcz56_3
                 try clear hfz12_0
                 try clear hfz12_1
                 try clear hfz12_2
                 try clear hfz12_3
                 try clear hfz23_0
                 try clear hfz23_1
                 try clear hfz23_2
                 try clear hfz23_3
                 try clear hfz27_0
                 try clear hfz27_1
                 try clear hfz27_2
                 try clear hfz27_3
                 try clear hfz29_0
                 try clear hfz29_1
                 try clear hfz29_2
                 try clear hfz29_3
                 try clear hfz31_0
                 try clear hfz31_1
                 try clear hfz31_2
                 try clear hfz31_3
                 try clear hfz33_0
                 try clear hfz33_1
                 try clear hfz33_2
                 try clear hfz33_3
                 try clear hfz56_0
                 try clear hfz56_1
                 try clear hfz56_2
                 try clear hfz56_3
                 try clear hx136_0
                 try clear hx136_1
                 try clear hx136_2
                 try clear hx136_3
                 try clear hx136_4
                 try clear hx136_5
                 try clear hx136_6
                 try clear hx136_7
                 try clear hx136_8
                 try clear hx139_0
                 try clear hx139_1
                 try clear hx139_2
                 try clear hx139_3
                 try clear hx140_0
                 try clear hx141_0
                 try clear p1
                 try clear p13
                 try clear p136
                 try clear p139
                 try clear p14
                 try clear p140
                 try clear p141
                 try clear p2
                 try clear p6
                 try clear q1
                 try clear q13
                 try clear q136
                 try clear q139
                 try clear q14
                 try clear q140
                 try clear q141
                 obtain ⟨kq, x22_57, x23_57, rfl, rfl, HA, HJ57, HO_11, HO_12, HO_14, HO_16, HO_17, HO_19, HO_114001, BK113, HB⟩ := hcut
                 as_aux_lemma =>
                  cases kq with
                  | zero => exact absurd HA.out (by simp [isobathlaw02_MooringEvery.j4])
                  | succ kj57 =>
                   have H := HA.out
                   clear HA
                   simp only [isobathlaw02_MooringEvery.j4] at H
                   have HC59 := Aside0.mk H
                   clear H
                   go_upto_region 22 with (fail)
                   repeat (go_quiet (fail); go_upto_region 22 with (fail))
                   go_cut [28, 29] (fun v28 v29 wc => ∃ (kq : Nat) (x28_58 : Int) (x29_58 : Int), v28 = .int .i64 x28_58 ∧ v29 = .int .i64 x29_58 ∧ Aside0 (isobathlaw02_MooringEvery.j5 kq l0 a3 t110 t116 t120 t124 t127 t131 (t102.length : Int) x22_57 x23_57 x24_2 x28_58 x29_58 t101 t102 t105 t106 = some r) ∧ Aside0 (kq ≤ kj57) ∧ Aside0 (Kd.R (Kd.int .i64) 2 wc w.heap.size (fun k_ => some k_ ≠ (v132 : Value).ownBlock) v111 t110) ∧ Aside0 (Kd.R k57 57 wc w.heap.size (fun k_ => some k_ ≠ (v121 : Value).ownBlock ∧ some k_ ≠ (v125 : Value).ownBlock ∧ some k_ ≠ (v128 : Value).ownBlock) v117 t116) ∧ Aside0 (Kd.R k57 57 wc w.heap.size (fun k_ => some k_ ≠ (v117 : Value).ownBlock ∧ some k_ ≠ (v125 : Value).ownBlock ∧ some k_ ≠ (v128 : Value).ownBlock) v121 t120) ∧ Aside0 (Kd.R k57 57 wc w.heap.size (fun k_ => some k_ ≠ (v117 : Value).ownBlock ∧ some k_ ≠ (v121 : Value).ownBlock ∧ some k_ ≠ (v128 : Value).ownBlock) v125 t124) ∧ Aside0 (Kd.R k57 57 wc w.heap.size (fun k_ => some k_ ≠ (v117 : Value).ownBlock ∧ some k_ ≠ (v121 : Value).ownBlock ∧ some k_ ≠ (v125 : Value).ownBlock) v128 t127) ∧ Aside0 (Kd.R (Kd.int .i64) 2 wc w.heap.size (fun k_ => some k_ ≠ (v111 : Value).ownBlock) v132 t131) ∧ Aside0 (Kd.R k46 46 wc w.heap.size (fun _ => True) (.slice Ao24 t102.length co24) t102) ∧ Aside0 (wc.heap[gb113]? = some (.cells #[.int .i64 t101, (.slice Ao24 t102.length co24), .int .i64 t105, .int .i64 t106] 37 (0, 0))) ∧ Aside0 (Below w.heap.size w wc))
                   case first =>
                    have H := HC59.out
                    clear HC59
                    by_cases c60 : 0 ≤ x24_2
                    ·rw [if_pos c60] at H
                     have c60b0 : decide (0 ≤ x24_2) = true := decide_eq_true c60
                     clear c60
                     (first | rw [c60b0] | (simp only [i64_w, i32_w]; rw [c60b0]) | skip)
                     by_cases c61 : x24_2 < (t131.length : Int)
                     ·rw [if_pos c61] at H
                      have c61b0 : decide (x24_2 < (t131.length : Int)) = true := decide_eq_true c61
                      clear c61
                      as_aux_lemma =>
                       have H' := Aside0.mk H
                       clear H
                       obtain ⟨Ao62, co62, eo62⟩ := Kd.R_slice HO_19.out
                       subst eo62
                       have p142 : 0 ≤ (x24_2 : Int) := of_decide_eq_true (by first | (with_reducible assumption) | assumption)
                       have q142 : x24_2 < (t131.length : Int) := of_decide_eq_true (by first | (with_reducible assumption) | assumption)
                       obtain ⟨ad142, e142, hx142_0⟩ := Kd.at_int (Kd.R_reads' HO_19.out).2.2 x24_2 p142 q142
                       cases e142
                       replace p142 := eq_true p142
                       replace q142 := eq_true q142
                       have p143 : 0 ≤ (x24_2 : Int) := of_decide_eq_true (by first | (with_reducible assumption) | assumption)
                       have q143 : x24_2 < (t131.length : Int) := of_decide_eq_true (by first | (with_reducible assumption) | assumption)
                       obtain ⟨ad143, e143, hx143_0⟩ := Kd.at_int (Kd.R_reads' HO_19.out).2.2 x24_2 p143 q143
                       obtain rfl : ad142 = ad143 := (by injection e143)
                       replace p143 := eq_true p143
                       replace q143 := eq_true q143
                       go_wp2
                       repeat (go_quiet (fail); try go_wp2)
                       go_meet
                       case rel => exact ⟨_, (wrap64 ((wrap64 (x22_57 * x22_57)) + (wrap64 (x23_57 * x23_57)))), (wrap64 ((wrap64 ((wrap64 (x22_57 * x22_57)) + (wrap64 (x23_57 * x23_57)))) + (wrap64 ((wrap64 (25 * (rd t131 x24_2))) * (rd t131 x24_2))))), (by first | rfl | (simp; done) | (simp [*]; done)), (by first | rfl | (simp; done) | (simp [*]; done)), H', ⟨by have := HJ19.out; have := HK2.out; have := HJ45.out; have := HJ51.out; have := HJ57.out; first | omega | exact Nat.le_refl _⟩, ⟨by (with_reducible repeat (first | apply Kd.R_alloc | apply Kd.R_drewN | apply Kd.R_drew)); exact HO_11.out⟩, ⟨by (with_reducible repeat (first | apply Kd.R_alloc | apply Kd.R_drewN | apply Kd.R_drew)); exact HO_12.out⟩, ⟨by (with_reducible repeat (first | apply Kd.R_alloc | apply Kd.R_drewN | apply Kd.R_drew)); exact HO_14.out⟩, ⟨by (with_reducible repeat (first | apply Kd.R_alloc | apply Kd.R_drewN | apply Kd.R_drew)); exact HO_16.out⟩, ⟨by (with_reducible repeat (first | apply Kd.R_alloc | apply Kd.R_drewN | apply Kd.R_drew)); exact HO_17.out⟩, ⟨by (with_reducible repeat (first | apply Kd.R_alloc | apply Kd.R_drewN | apply Kd.R_drew)); exact HO_19.out⟩, ⟨by (with_reducible repeat (first | apply Kd.R_alloc | apply Kd.R_drewN | apply Kd.R_drew)); exact HO_114001.out⟩, ⟨by (with_reducible repeat (first | refine blk_drewN ?_ _ | refine blk_drew ?_ | refine blk_alloc ?_ _)); exact BK113.out⟩, ⟨by repeat (first | (with_reducible first | exact HB.out | apply below_alloc | apply pw_below_drewN | apply below_drew1 | refine below_set ?_ GE113.out) | exact HB.out)⟩⟩
                     ·rw [if_neg c61] at H
                      exact absurd H (by simp)
                    ·rw [if_neg c60] at H
                     exact absurd H (by simp)
                   case rest =>
                    clear HC59
                    try clear p1
                    try clear q1
                    try clear hx1
                    try clear p2
                    try clear c3
                    try clear c4
                    try clear c5
                    try clear c6
                    try clear c6b0
                    try clear c6b1
                    try clear c6b2
                    try clear p6
                    try clear c8
                    try clear c8b0
                    try clear c8b1
                    try clear c9
                    try clear p13
                    try clear q13
                    try clear hx13
                    try clear p14
                    try clear q14
                    try clear hx14
                    try clear c34
                    try clear c34b0
                    try clear c34b1
                    try clear c35
                    try clear c35b0
                    try clear c35b1
                    try clear c35b2
                    try clear c36
                    try clear c36b0
                    try clear c36b1
                    try clear c36b2
                    try clear c37
                    try clear c37b0
                    try clear c37b1
                    try clear c37b2
                    try clear c38
                    try clear c38b0
                    try clear c38b1
                    try clear c38b2
                    try clear c44
                    try clear c45
                    try clear c45b0
                    try clear c47
                    try clear c48
                    try clear c48b0
                    try clear c49
                    try clear c49b0
                    try clear c53
                    try clear c53b0
                    try clear c54
                    try clear c54b0
                    try clear c55
                    try clear c55b0
                    try clear c60
                    try clear c60b0
                    try clear c61
                    try clear c61b0
                    try clear hcz12_0
                    try clear hcz12_1
                    try clear hcz12_2
                    try clear hcz12_3
                    try clear hcz23_0
                    try clear hcz23_1
                    try clear hcz23_2
                    try clear hcz23_3
                    try clear hcz27_0
                    try clear hcz27_1
                    try clear hcz27_2
                    try clear hcz27_3
                    try clear hcz29_0
                    try clear hcz29_1
                    try clear hcz29_2
                    try clear hcz29_3
                    try clear hcz31_0
                    try clear hcz31_1
                    try clear hcz31_2
                    try clear hcz31_3
                    try clear hcz33_0
                    try clear hcz33_1
                    try clear hcz33_2
                    try clear hcz33_3
                    try clear hcz56_0
                    try clear hcz56_1
                    try clear hcz56_2
                    try clear hcz56_3
                    try clear hfz12_0
                    try clear hfz12_1
                    try clear hfz12_2
                    try clear hfz12_3
                    try clear hfz23_0
                    try clear hfz23_1
                    try clear hfz23_2
                    try clear hfz23_3
                    try clear hfz27_0
                    try clear hfz27_1
                    try clear hfz27_2
                    try clear hfz27_3
                    try clear hfz29_0
                    try clear hfz29_1
                    try clear hfz29_2
                    try clear hfz29_3
                    try clear hfz31_0
                    try clear hfz31_1
                    try clear hfz31_2
                    try clear hfz31_3
                    try clear hfz33_0
                    try clear hfz33_1
                    try clear hfz33_2
                    try clear hfz33_3
                    try clear hfz56_0
                    try clear hfz56_1
                    try clear hfz56_2
                    try clear hfz56_3
                    try clear hx136_0
                    try clear hx136_1
                    try clear hx136_2
                    try clear hx136_3
                    try clear hx136_4
                    try clear hx136_5
                    try clear hx136_6
                    try clear hx136_7
                    try clear hx136_8
                    try clear hx139_0
                    try clear hx139_1
                    try clear hx139_2
                    try clear hx139_3
                    try clear hx140_0
                    try clear hx141_0
                    try clear hx142_0
                    try clear hx143_0
                    try clear p1
                    try clear p13
                    try clear p136
                    try clear p139
                    try clear p14
                    try clear p140
                    try clear p141
                    try clear p142
                    try clear p143
                    try clear p2
                    try clear p6
                    try clear q1
                    try clear q13
                    try clear q136
                    try clear q139
                    try clear q14
                    try clear q140
                    try clear q141
                    try clear q142
                    try clear q143
                    obtain ⟨kq, x28_58, x29_58, rfl, rfl, HA, HJ58, HO_11, HO_12, HO_14, HO_16, HO_17, HO_19, HO_114001, BK113, HB⟩ := hcut
                    as_aux_lemma =>
                     cases kq with
                     | zero => exact absurd HA.out (by simp [isobathlaw02_MooringEvery.j5])
                     | succ kj58 =>
                      have H := HA.out
                      clear HA
                      simp only [isobathlaw02_MooringEvery.j5] at H
                      have HC63 := Aside0.mk H
                      clear H
                      go_upto_region 23 with (fail)
                      repeat (go_quiet (fail); go_upto_region 23 with (fail))
                      go_cut [238] (fun v238 wc => ∃ (kq : Nat) (x238_62 : Bool), v238 = .bool x238_62 ∧ Aside0 (isobathlaw02_MooringEvery.j6 kq l0 a3 t110 t116 t120 t124 t127 t131 (t102.length : Int) x22_57 x23_57 x24_2 x28_58 x29_58 x238_62 t101 t102 t105 t106 = some r) ∧ Aside0 (kq ≤ kj58) ∧ Aside0 (Kd.R (Kd.int .i64) 2 wc w.heap.size (fun k_ => some k_ ≠ (v132 : Value).ownBlock) v111 t110) ∧ Aside0 (Kd.R k57 57 wc w.heap.size (fun k_ => some k_ ≠ (v121 : Value).ownBlock ∧ some k_ ≠ (v125 : Value).ownBlock ∧ some k_ ≠ (v128 : Value).ownBlock) v117 t116) ∧ Aside0 (Kd.R k57 57 wc w.heap.size (fun k_ => some k_ ≠ (v117 : Value).ownBlock ∧ some k_ ≠ (v125 : Value).ownBlock ∧ some k_ ≠ (v128 : Value).ownBlock) v121 t120) ∧ Aside0 (Kd.R k57 57 wc w.heap.size (fun k_ => some k_ ≠ (v117 : Value).ownBlock ∧ some k_ ≠ (v121 : Value).ownBlock ∧ some k_ ≠ (v128 : Value).ownBlock) v125 t124) ∧ Aside0 (Kd.R k57 57 wc w.heap.size (fun k_ => some k_ ≠ (v117 : Value).ownBlock ∧ some k_ ≠ (v121 : Value).ownBlock ∧ some k_ ≠ (v125 : Value).ownBlock) v128 t127) ∧ Aside0 (Kd.R (Kd.int .i64) 2 wc w.heap.size (fun k_ => some k_ ≠ (v111 : Value).ownBlock) v132 t131) ∧ Aside0 (Kd.R k46 46 wc w.heap.size (fun _ => True) (.slice Ao24 t102.length co24) t102) ∧ Aside0 (wc.heap[gb113]? = some (.cells #[.int .i64 t101, (.slice Ao24 t102.length co24), .int .i64 t105, .int .i64 t106] 37 (0, 0))) ∧ Aside0 (Below w.heap.size w wc))
                      case first =>
                       have H := HC63.out
                       clear HC63
                       by_cases c64 : 0 ≤ x24_2
                       ·rw [if_pos c64] at H
                        have c64b0 : decide (0 ≤ x24_2) = true := decide_eq_true c64
                        clear c64
                        (first | rw [c64b0] | (simp only [i64_w, i32_w]; rw [c64b0]) | skip)
                        by_cases c65 : x24_2 < (t116.length : Int)
                        ·rw [if_pos c65] at H
                         have c65b0 : decide (x24_2 < (t116.length : Int)) = true := decide_eq_true c65
                         clear c65
                         by_cases c66 : x28_58 < (wrap64 ((wrap64 (25 * ((rd_T57 t116 x24_2).f0))) * ((rd_T57 t116 x24_2).f0)))
                         ·rw [if_pos c66] at H
                          exact absurd H (by simp)
                         ·rw [if_neg c66] at H
                          have c66b0 : decide (x28_58 < (wrap64 ((wrap64 (25 * ((rd_T57 t116 x24_2).f0))) * ((rd_T57 t116 x24_2).f0)))) = false := decide_eq_false c66
                          clear c66
                          by_cases c67 : x28_58 > (wrap64 ((wrap64 (25 * ((rd_T57 t116 x24_2).f1))) * ((rd_T57 t116 x24_2).f1)))
                          ·rw [if_pos c67] at H
                           exact absurd H (by simp)
                          ·rw [if_neg c67] at H
                           have c67b0 : decide ((wrap64 ((wrap64 (25 * ((rd_T57 t116 x24_2).f1))) * ((rd_T57 t116 x24_2).f1))) < x28_58) = false := decide_eq_false c67
                           clear c67
                           by_cases c68 : x24_2 < (t120.length : Int)
                           ·rw [if_pos c68] at H
                            have c68b0 : decide (x24_2 < (t120.length : Int)) = true := decide_eq_true c68
                            clear c68
                            by_cases c69 : x29_58 < (wrap64 ((wrap64 (25 * ((rd_T57 t120 x24_2).f0))) * ((rd_T57 t120 x24_2).f0)))
                            ·rw [if_pos c69] at H
                             exact absurd H (by simp)
                            ·rw [if_neg c69] at H
                             have c69b0 : decide (x29_58 < (wrap64 ((wrap64 (25 * ((rd_T57 t120 x24_2).f0))) * ((rd_T57 t120 x24_2).f0)))) = false := decide_eq_false c69
                             clear c69
                             as_aux_lemma =>
                              have H' := Aside0.mk H
                              clear H
                              obtain ⟨Ao70, co70, eo70⟩ := Kd.R_slice HO_12.out
                              subst eo70
                              have p144 : 0 ≤ (x24_2 : Int) := of_decide_eq_true (by first | (with_reducible assumption) | assumption)
                              have q144 : x24_2 < (t116.length : Int) := of_decide_eq_true (by first | (with_reducible assumption) | assumption)
                              obtain ⟨ad144, e144, hx144_0, hx144_1⟩ := at_T57 (Kd.R_reads' HO_12.out).2.2 x24_2 p144 q144
                              cases e144
                              replace p144 := eq_true p144
                              replace q144 := eq_true q144
                              have p145 : 0 ≤ (x24_2 : Int) := of_decide_eq_true (by first | (with_reducible assumption) | assumption)
                              have q145 : x24_2 < (t116.length : Int) := of_decide_eq_true (by first | (with_reducible assumption) | assumption)
                              obtain ⟨ad145, e145, hx145_0, hx145_1⟩ := at_T57 (Kd.R_reads' HO_12.out).2.2 x24_2 p145 q145
                              obtain rfl : ad144 = ad145 := (by injection e145)
                              replace p145 := eq_true p145
                              replace q145 := eq_true q145
                              have p146 : 0 ≤ (x24_2 : Int) := of_decide_eq_true (by first | (with_reducible assumption) | assumption)
                              have q146 : x24_2 < (t116.length : Int) := of_decide_eq_true (by first | (with_reducible assumption) | assumption)
                              obtain ⟨ad146, e146, hx146_0, hx146_1⟩ := at_T57 (Kd.R_reads' HO_12.out).2.2 x24_2 p146 q146
                              obtain rfl : ad144 = ad146 := (by injection e146)
                              replace p146 := eq_true p146
                              replace q146 := eq_true q146
                              have p147 : 0 ≤ (x24_2 : Int) := of_decide_eq_true (by first | (with_reducible assumption) | assumption)
                              have q147 : x24_2 < (t116.length : Int) := of_decide_eq_true (by first | (with_reducible assumption) | assumption)
                              obtain ⟨ad147, e147, hx147_0, hx147_1⟩ := at_T57 (Kd.R_reads' HO_12.out).2.2 x24_2 p147 q147
                              obtain rfl : ad144 = ad147 := (by injection e147)
                              replace p147 := eq_true p147
                              replace q147 := eq_true q147
                              obtain ⟨Ao71, co71, eo71⟩ := Kd.R_slice HO_14.out
                              subst eo71
                              have p148 : 0 ≤ (x24_2 : Int) := of_decide_eq_true (by first | (with_reducible assumption) | assumption)
                              have q148 : x24_2 < (t120.length : Int) := of_decide_eq_true (by first | (with_reducible assumption) | assumption)
                              obtain ⟨ad148, e148, hx148_0, hx148_1⟩ := at_T57 (Kd.R_reads' HO_14.out).2.2 x24_2 p148 q148
                              cases e148
                              replace p148 := eq_true p148
                              replace q148 := eq_true q148
                              have p149 : 0 ≤ (x24_2 : Int) := of_decide_eq_true (by first | (with_reducible assumption) | assumption)
                              have q149 : x24_2 < (t120.length : Int) := of_decide_eq_true (by first | (with_reducible assumption) | assumption)
                              obtain ⟨ad149, e149, hx149_0, hx149_1⟩ := at_T57 (Kd.R_reads' HO_14.out).2.2 x24_2 p149 q149
                              obtain rfl : ad148 = ad149 := (by injection e149)
                              replace p149 := eq_true p149
                              replace q149 := eq_true q149
                              have p150 : 0 ≤ (x24_2 : Int) := of_decide_eq_true (by first | (with_reducible assumption) | assumption)
                              have q150 : x24_2 < (t120.length : Int) := of_decide_eq_true (by first | (with_reducible assumption) | assumption)
                              obtain ⟨ad150, e150, hx150_0, hx150_1⟩ := at_T57 (Kd.R_reads' HO_14.out).2.2 x24_2 p150 q150
                              obtain rfl : ad148 = ad150 := (by injection e150)
                              replace p150 := eq_true p150
                              replace q150 := eq_true q150
                              have p151 : 0 ≤ (x24_2 : Int) := of_decide_eq_true (by first | (with_reducible assumption) | assumption)
                              have q151 : x24_2 < (t120.length : Int) := of_decide_eq_true (by first | (with_reducible assumption) | assumption)
                              obtain ⟨ad151, e151, hx151_0, hx151_1⟩ := at_T57 (Kd.R_reads' HO_14.out).2.2 x24_2 p151 q151
                              obtain rfl : ad148 = ad151 := (by injection e151)
                              replace p151 := eq_true p151
                              replace q151 := eq_true q151
                              go_wp2
                              repeat (go_quiet (fail); try go_wp2)
                              go_meet
                              case rel => exact ⟨_, (decide (x29_58 > (wrap64 ((wrap64 (25 * ((rd_T57 t120 x24_2).f1))) * ((rd_T57 t120 x24_2).f1))))), (by first | rfl | (simp; done) | (simp [*]; done)), H', ⟨by have := HJ19.out; have := HK2.out; have := HJ45.out; have := HJ51.out; have := HJ57.out; have := HJ58.out; first | omega | exact Nat.le_refl _⟩, ⟨by (with_reducible repeat (first | apply Kd.R_alloc | apply Kd.R_drewN | apply Kd.R_drew)); exact HO_11.out⟩, ⟨by (with_reducible repeat (first | apply Kd.R_alloc | apply Kd.R_drewN | apply Kd.R_drew)); exact HO_12.out⟩, ⟨by (with_reducible repeat (first | apply Kd.R_alloc | apply Kd.R_drewN | apply Kd.R_drew)); exact HO_14.out⟩, ⟨by (with_reducible repeat (first | apply Kd.R_alloc | apply Kd.R_drewN | apply Kd.R_drew)); exact HO_16.out⟩, ⟨by (with_reducible repeat (first | apply Kd.R_alloc | apply Kd.R_drewN | apply Kd.R_drew)); exact HO_17.out⟩, ⟨by (with_reducible repeat (first | apply Kd.R_alloc | apply Kd.R_drewN | apply Kd.R_drew)); exact HO_19.out⟩, ⟨by (with_reducible repeat (first | apply Kd.R_alloc | apply Kd.R_drewN | apply Kd.R_drew)); exact HO_114001.out⟩, ⟨by (with_reducible repeat (first | refine blk_drewN ?_ _ | refine blk_drew ?_ | refine blk_alloc ?_ _)); exact BK113.out⟩, ⟨by repeat (first | (with_reducible first | exact HB.out | apply below_alloc | apply pw_below_drewN | apply below_drew1 | refine below_set ?_ GE113.out) | exact HB.out)⟩⟩
                           ·rw [if_neg c68] at H
                            exact absurd H (by simp)
                        ·rw [if_neg c65] at H
                         exact absurd H (by simp)
                       ·rw [if_neg c64] at H
                        exact absurd H (by simp)
                      case rest =>
                       clear HC63
                       try clear p1
                       try clear q1
                       try clear hx1
                       try clear p2
                       try clear c3
                       try clear c4
                       try clear c5
                       try clear c6
                       try clear c6b0
                       try clear c6b1
                       try clear c6b2
                       try clear p6
                       try clear c8
                       try clear c8b0
                       try clear c8b1
                       try clear c9
                       try clear p13
                       try clear q13
                       try clear hx13
                       try clear p14
                       try clear q14
                       try clear hx14
                       try clear p15
                       try clear q15
                       try clear hx15
                       try clear c34
                       try clear c34b0
                       try clear c34b1
                       try clear c35
                       try clear c35b0
                       try clear c35b1
                       try clear c35b2
                       try clear c36
                       try clear c36b0
                       try clear c36b1
                       try clear c36b2
                       try clear c37
                       try clear c37b0
                       try clear c37b1
                       try clear c37b2
                       try clear c38
                       try clear c38b0
                       try clear c38b1
                       try clear c38b2
                       try clear c44
                       try clear c45
                       try clear c45b0
                       try clear c47
                       try clear c48
                       try clear c48b0
                       try clear c49
                       try clear c49b0
                       try clear c53
                       try clear c53b0
                       try clear c54
                       try clear c54b0
                       try clear c55
                       try clear c55b0
                       try clear c60
                       try clear c60b0
                       try clear c61
                       try clear c61b0
                       try clear c64
                       try clear c64b0
                       try clear p64
                       try clear c65
                       try clear c65b0
                       try clear c66
                       try clear c66b0
                       try clear c67
                       try clear c67b0
                       try clear c68
                       try clear c68b0
                       try clear c69
                       try clear c69b0
                       try clear hcz12_0
                       try clear hcz12_1
                       try clear hcz12_2
                       try clear hcz12_3
                       try clear hcz23_0
                       try clear hcz23_1
                       try clear hcz23_2
                       try clear hcz23_3
                       try clear hcz27_0
                       try clear hcz27_1
                       try clear hcz27_2
                       try clear hcz27_3
                       try clear hcz29_0
                       try clear hcz29_1
                       try clear hcz29_2
                       try clear hcz29_3
                       try clear hcz31_0
                       try clear hcz31_1
                       try clear hcz31_2
                       try clear hcz31_3
                       try clear hcz33_0
                       try clear hcz33_1
                       try clear hcz33_2
                       try clear hcz33_3
                       try clear hcz56_0
                       try clear hcz56_1
                       try clear hcz56_2
                       try clear hcz56_3
                       try clear hfz12_0
                       try clear hfz12_1
                       try clear hfz12_2
                       try clear hfz12_3
                       try clear hfz23_0
                       try clear hfz23_1
                       try clear hfz23_2
                       try clear hfz23_3
                       try clear hfz27_0
                       try clear hfz27_1
                       try clear hfz27_2
                       try clear hfz27_3
                       try clear hfz29_0
                       try clear hfz29_1
                       try clear hfz29_2
                       try clear hfz29_3
                       try clear hfz31_0
                       try clear hfz31_1
                       try clear hfz31_2
                       try clear hfz31_3
                       try clear hfz33_0
                       try clear hfz33_1
                       try clear hfz33_2
                       try clear hfz33_3
                       try clear hfz56_0
                       try clear hfz56_1
                       try clear hfz56_2
                       try clear hfz56_3
                       try clear hx136_0
                       try clear hx136_1
                       try clear hx136_2
                       try clear hx136_3
                       try clear hx136_4
                       try clear hx136_5
                       try clear hx136_6
                       try clear hx136_7
                       try clear hx136_8
                       try clear hx139_0
                       try clear hx139_1
                       try clear hx139_2
                       try clear hx139_3
                       try clear hx140_0
                       try clear hx141_0
                       try clear hx142_0
                       try clear hx143_0
                       try clear hx144_0
                       try clear hx144_1
                       try clear hx145_0
                       try clear hx145_1
                       try clear hx146_0
                       try clear hx146_1
                       try clear hx147_0
                       try clear hx147_1
                       try clear hx148_0
                       try clear hx148_1
                       try clear hx149_0
                       try clear hx149_1
                       try clear hx150_0
                       try clear hx150_1
                       try clear hx151_0
                       try clear hx151_1
                       try clear p1
                       try clear p13
                       try clear p136
                       try clear p139
                       try clear p14
                       try clear p140
                       try clear p141
                       try clear p142
                       try clear p143
                       try clear p144
                       try clear p145
                       try clear p146
                       try clear p147
                       try clear p148
                       try clear p149
                       try clear p150
                       try clear p151
                       try clear p2
                       try clear p6
                       try clear q1
                       try clear q13
                       try clear q136
                       try clear q139
                       try clear q14
                       try clear q140
                       try clear q141
                       try clear q142
                       try clear q143
                       try clear q144
                       try clear q145
                       try clear q146
                       try clear q147
                       try clear q148
                       try clear q149
                       try clear q150
                       try clear q151
                       obtain ⟨kq, x238_62, rfl, HA, HJ62, HO_11, HO_12, HO_14, HO_16, HO_17, HO_19, HO_114001, BK113, HB⟩ := hcut
                       as_aux_lemma =>
                        cases kq with
                        | zero => exact absurd HA.out (by simp [isobathlaw02_MooringEvery.j6])
                        | succ kj62 =>
                         have H := HA.out
                         clear HA
                         simp only [isobathlaw02_MooringEvery.j6] at H
                         by_cases c72 : x238_62 = true
                         ·subst c72
                          have H1 : (none) = some r := by rw [if_pos rfl] at H; exact H
                          clear H
                          have H := H1
                          clear H1
                          exact absurd H (by simp)
                         ·replace c72 := Bool.eq_false_iff.mpr c72
                          subst c72
                          have H1 : (if 0 ≤ x24_2 then (if x24_2 < (t102.length : Int) then (if x24_2 < (t124.length : Int) then (if (wrap64 ((wrap64 (((rd_T57 t124 x24_2).f0) * ((rd_T57 t124 x24_2).f0))) * x29_58)) > (wrap64 ((wrap64 (((rd_T46 t102 x24_2).f0) * ((rd_T46 t102 x24_2).f0))) * x28_58)) then (none) else (isobathlaw02_MooringEvery.j7 kj62 l0 a3 t110 t116 t120 t124 t127 t131 (t102.length : Int) x22_57 x23_57 x24_2 x29_58 ((rd_T46 t102 x24_2).f0) (decide ((wrap64 ((wrap64 (((rd_T57 t124 x24_2).f1) * ((rd_T57 t124 x24_2).f1))) * x29_58)) < (wrap64 ((wrap64 (((rd_T46 t102 x24_2).f0) * ((rd_T46 t102 x24_2).f0))) * x28_58)))) t101 t102 t105 t106)) else (none)) else (none)) else (none)) = some r := by rw [if_neg (show ¬ (false = true) by decide)] at H; exact H
                          clear H
                          have H := H1
                          clear H1
                          by_cases c73 : 0 ≤ x24_2
                          ·rw [if_pos c73] at H
                           have c73b0 : decide (0 ≤ x24_2) = true := decide_eq_true c73
                           clear c73
                           by_cases c74 : x24_2 < (t102.length : Int)
                           ·rw [if_pos c74] at H
                            have c74b0 : decide (x24_2 < (t102.length : Int)) = true := decide_eq_true c74
                            clear c74
                            have HC75 := Aside0.mk H
                            clear H
                            have hcz76_0 : wc.cell? ⟨gb113, 0, none⟩ = some (.int .i64 t101) := (blk_cell BK113.out 0).trans rfl
                            have hcz76_1 : wc.cell? ⟨gb113, 1, none⟩ = some (.slice Ao24 t102.length co24) := (blk_cell BK113.out 1).trans rfl
                            have hcz76_2 : wc.cell? ⟨gb113, 2, none⟩ = some (.int .i64 t105) := (blk_cell BK113.out 2).trans rfl
                            have hcz76_3 : wc.cell? ⟨gb113, 3, none⟩ = some (.int .i64 t106) := (blk_cell BK113.out 3).trans rfl
                            have hfz76_0 := blk_frozen BK113.out 0
                            have hfz76_1 := blk_frozen BK113.out 1
                            have hfz76_2 := blk_frozen BK113.out 2
                            have hfz76_3 := blk_frozen BK113.out 3
                            have p152 : 0 ≤ (x24_2 : Int) := of_decide_eq_true (by first | (with_reducible assumption) | assumption)
                            have q152 : x24_2 < (t102.length : Int) := of_decide_eq_true (by first | (with_reducible assumption) | assumption)
                            obtain ⟨ad152, e152, hx152_0, hx152_1, hx152_2, hx152_3⟩ := at_T46 (Kd.R_reads' HO_114001.out).2.2 x24_2 p152 q152
                            cases e152
                            replace p152 := eq_true p152
                            replace q152 := eq_true q152
                            go_upto_region 26 with (fail)
                            repeat (go_quiet (fail); go_upto_region 26 with (fail))
                            go_cut [30, 284] (fun v30 v284 wc => ∃ (kq : Nat) (x30_74 : Int) (x284_74 : Bool), v30 = .int .i64 x30_74 ∧ v284 = .bool x284_74 ∧ Aside0 (isobathlaw02_MooringEvery.j7 kq l0 a3 t110 t116 t120 t124 t127 t131 (t102.length : Int) x22_57 x23_57 x24_2 x29_58 x30_74 x284_74 t101 t102 t105 t106 = some r) ∧ Aside0 (kq ≤ kj62) ∧ Aside0 (Kd.R (Kd.int .i64) 2 wc w.heap.size (fun k_ => some k_ ≠ (v132 : Value).ownBlock) v111 t110) ∧ Aside0 (Kd.R k57 57 wc w.heap.size (fun k_ => some k_ ≠ (v121 : Value).ownBlock ∧ some k_ ≠ (v125 : Value).ownBlock ∧ some k_ ≠ (v128 : Value).ownBlock) v117 t116) ∧ Aside0 (Kd.R k57 57 wc w.heap.size (fun k_ => some k_ ≠ (v117 : Value).ownBlock ∧ some k_ ≠ (v125 : Value).ownBlock ∧ some k_ ≠ (v128 : Value).ownBlock) v121 t120) ∧ Aside0 (Kd.R k57 57 wc w.heap.size (fun k_ => some k_ ≠ (v117 : Value).ownBlock ∧ some k_ ≠ (v121 : Value).ownBlock ∧ some k_ ≠ (v128 : Value).ownBlock) v125 t124) ∧ Aside0 (Kd.R k57 57 wc w.heap.size (fun k_ => some k_ ≠ (v117 : Value).ownBlock ∧ some k_ ≠ (v121 : Value).ownBlock ∧ some k_ ≠ (v125 : Value).ownBlock) v128 t127) ∧ Aside0 (Kd.R (Kd.int .i64) 2 wc w.heap.size (fun k_ => some k_ ≠ (v111 : Value).ownBlock) v132 t131) ∧ Aside0 (Kd.R k46 46 wc w.heap.size (fun _ => True) (.slice (some ad152) t102.length co24) t102) ∧ Aside0 (wc.heap[gb113]? = some (.cells #[.int .i64 t101, (.slice (some ad152) t102.length co24), .int .i64 t105, .int .i64 t106] 37 (0, 0))) ∧ Aside0 (Below w.heap.size w wc))
                            case first =>
                             have H := HC75.out
                             clear HC75
                             by_cases c77 : x24_2 < (t124.length : Int)
                             ·rw [if_pos c77] at H
                              have c77b0 : decide (x24_2 < (t124.length : Int)) = true := decide_eq_true c77
                              clear c77
                              (first | rw [c77b0] | (simp only [i64_w, i32_w]; rw [c77b0]) | skip)
                              by_cases c78 : (wrap64 ((wrap64 (((rd_T57 t124 x24_2).f0) * ((rd_T57 t124 x24_2).f0))) * x29_58)) > (wrap64 ((wrap64 (((rd_T46 t102 x24_2).f0) * ((rd_T46 t102 x24_2).f0))) * x28_58))
                              ·rw [if_pos c78] at H
                               exact absurd H (by simp)
                              ·rw [if_neg c78] at H
                               have c78b0 : decide ((wrap64 ((wrap64 (((rd_T46 t102 x24_2).f0) * ((rd_T46 t102 x24_2).f0))) * x28_58)) < (wrap64 ((wrap64 (((rd_T57 t124 x24_2).f0) * ((rd_T57 t124 x24_2).f0))) * x29_58))) = false := decide_eq_false c78
                               clear c78
                               as_aux_lemma =>
                                have H' := Aside0.mk H
                                clear H
                                obtain ⟨Ao79, co79, eo79⟩ := Kd.R_slice HO_16.out
                                subst eo79
                                have p153 : 0 ≤ (x24_2 : Int) := of_decide_eq_true (by first | (with_reducible assumption) | assumption)
                                have q153 : x24_2 < (t124.length : Int) := of_decide_eq_true (by first | (with_reducible assumption) | assumption)
                                obtain ⟨ad153, e153, hx153_0, hx153_1⟩ := at_T57 (Kd.R_reads' HO_16.out).2.2 x24_2 p153 q153
                                cases e153
                                replace p153 := eq_true p153
                                replace q153 := eq_true q153
                                have p154 : 0 ≤ (x24_2 : Int) := of_decide_eq_true (by first | (with_reducible assumption) | assumption)
                                have q154 : x24_2 < (t124.length : Int) := of_decide_eq_true (by first | (with_reducible assumption) | assumption)
                                obtain ⟨ad154, e154, hx154_0, hx154_1⟩ := at_T57 (Kd.R_reads' HO_16.out).2.2 x24_2 p154 q154
                                obtain rfl : ad153 = ad154 := (by injection e154)
                                replace p154 := eq_true p154
                                replace q154 := eq_true q154
                                have p155 : 0 ≤ (x24_2 : Int) := of_decide_eq_true (by first | (with_reducible assumption) | assumption)
                                have q155 : x24_2 < (t124.length : Int) := of_decide_eq_true (by first | (with_reducible assumption) | assumption)
                                obtain ⟨ad155, e155, hx155_0, hx155_1⟩ := at_T57 (Kd.R_reads' HO_16.out).2.2 x24_2 p155 q155
                                obtain rfl : ad153 = ad155 := (by injection e155)
                                replace p155 := eq_true p155
                                replace q155 := eq_true q155
                                have p156 : 0 ≤ (x24_2 : Int) := of_decide_eq_true (by first | (with_reducible assumption) | assumption)
                                have q156 : x24_2 < (t124.length : Int) := of_decide_eq_true (by first | (with_reducible assumption) | assumption)
                                obtain ⟨ad156, e156, hx156_0, hx156_1⟩ := at_T57 (Kd.R_reads' HO_16.out).2.2 x24_2 p156 q156
                                obtain rfl : ad153 = ad156 := (by injection e156)
                                replace p156 := eq_true p156
                                replace q156 := eq_true q156
                                go_wp2
                                repeat (go_quiet (fail); try go_wp2)
                                go_meet
                                case rel => exact ⟨_, ((rd_T46 t102 x24_2).f0), (decide ((wrap64 ((wrap64 (((rd_T57 t124 x24_2).f1) * ((rd_T57 t124 x24_2).f1))) * x29_58)) < (wrap64 ((wrap64 (((rd_T46 t102 x24_2).f0) * ((rd_T46 t102 x24_2).f0))) * x28_58)))), (by first | rfl | (simp; done) | (simp [*]; done)), (by first | rfl | (simp; done) | (simp [*]; done)), H', ⟨by have := HJ19.out; have := HK2.out; have := HJ45.out; have := HJ51.out; have := HJ57.out; have := HJ58.out; have := HJ62.out; first | omega | exact Nat.le_refl _⟩, ⟨by (with_reducible repeat (first | apply Kd.R_alloc | apply Kd.R_drewN | apply Kd.R_drew)); exact HO_11.out⟩, ⟨by (with_reducible repeat (first | apply Kd.R_alloc | apply Kd.R_drewN | apply Kd.R_drew)); exact HO_12.out⟩, ⟨by (with_reducible repeat (first | apply Kd.R_alloc | apply Kd.R_drewN | apply Kd.R_drew)); exact HO_14.out⟩, ⟨by (with_reducible repeat (first | apply Kd.R_alloc | apply Kd.R_drewN | apply Kd.R_drew)); exact HO_16.out⟩, ⟨by (with_reducible repeat (first | apply Kd.R_alloc | apply Kd.R_drewN | apply Kd.R_drew)); exact HO_17.out⟩, ⟨by (with_reducible repeat (first | apply Kd.R_alloc | apply Kd.R_drewN | apply Kd.R_drew)); exact HO_19.out⟩, ⟨by (with_reducible repeat (first | apply Kd.R_alloc | apply Kd.R_drewN | apply Kd.R_drew)); exact HO_114001.out⟩, ⟨by (with_reducible repeat (first | refine blk_drewN ?_ _ | refine blk_drew ?_ | refine blk_alloc ?_ _)); exact BK113.out⟩, ⟨by repeat (first | (with_reducible first | exact HB.out | apply below_alloc | apply pw_below_drewN | apply below_drew1 | refine below_set ?_ GE113.out) | exact HB.out)⟩⟩
                             ·rw [if_neg c77] at H
                              exact absurd H (by simp)
                            case rest =>
                             clear HC75
                             try clear p1
                             try clear q1
                             try clear hx1
                             try clear p2
                             try clear c3
                             try clear c4
                             try clear c5
                             try clear c6
                             try clear c6b0
                             try clear c6b1
                             try clear c6b2
                             try clear p6
                             try clear c7
                             try clear c8
                             try clear c8b0
                             try clear c8b1
                             try clear c9
                             try clear p13
                             try clear q13
                             try clear hx13
                             try clear p14
                             try clear q14
                             try clear hx14
                             try clear p15
                             try clear q15
                             try clear hx15
                             try clear c34
                             try clear c34b0
                             try clear c34b1
                             try clear c35
                             try clear c35b0
                             try clear c35b1
                             try clear c35b2
                             try clear c36
                             try clear c36b0
                             try clear c36b1
                             try clear c36b2
                             try clear c37
                             try clear c37b0
                             try clear c37b1
                             try clear c37b2
                             try clear c38
                             try clear c38b0
                             try clear c38b1
                             try clear c38b2
                             try clear c44
                             try clear c45
                             try clear c45b0
                             try clear c47
                             try clear c48
                             try clear c48b0
                             try clear c49
                             try clear c49b0
                             try clear c53
                             try clear c53b0
                             try clear c54
                             try clear c54b0
                             try clear c55
                             try clear c55b0
                             try clear c60
                             try clear c60b0
                             try clear c61
                             try clear c61b0
                             try clear c64
                             try clear c64b0
                             try clear p64
                             try clear c65
                             try clear c65b0
                             try clear c66
                             try clear c66b0
                             try clear c67
                             try clear c67b0
                             try clear c68
                             try clear c68b0
                             try clear c69
                             try clear c69b0
                             try clear c72
                             try clear c73
                             try clear c73b0
                             try clear c74
                             try clear c74b0
                             try clear c77
                             try clear c77b0
                             try clear c78
                             try clear c78b0
                             try clear hcz12_0
                             try clear hcz12_1
                             try clear hcz12_2
                             try clear hcz12_3
                             try clear hcz23_0
                             try clear hcz23_1
                             try clear hcz23_2
                             try clear hcz23_3
                             try clear hcz27_0
                             try clear hcz27_1
                             try clear hcz27_2
                             try clear hcz27_3
                             try clear hcz29_0
                             try clear hcz29_1
                             try clear hcz29_2
                             try clear hcz29_3
                             try clear hcz31_0
                             try clear hcz31_1
                             try clear hcz31_2
                             try clear hcz31_3
                             try clear hcz33_0
                             try clear hcz33_1
                             try clear hcz33_2
                             try clear hcz33_3
                             try clear hcz56_0
                             try clear hcz56_1
                             try clear hcz56_2
                             try clear hcz56_3
                             try clear hcz76_0
                             try clear hcz76_1
                             try clear hcz76_2
                             try clear hcz76_3
                             try clear hfz12_0
                             try clear hfz12_1
                             try clear hfz12_2
                             try clear hfz12_3
                             try clear hfz23_0
                             try clear hfz23_1
                             try clear hfz23_2
                             try clear hfz23_3
                             try clear hfz27_0
                             try clear hfz27_1
                             try clear hfz27_2
                             try clear hfz27_3
                             try clear hfz29_0
                             try clear hfz29_1
                             try clear hfz29_2
                             try clear hfz29_3
                             try clear hfz31_0
                             try clear hfz31_1
                             try clear hfz31_2
                             try clear hfz31_3
                             try clear hfz33_0
                             try clear hfz33_1
                             try clear hfz33_2
                             try clear hfz33_3
                             try clear hfz56_0
                             try clear hfz56_1
                             try clear hfz56_2
                             try clear hfz56_3
                             try clear hfz76_0
                             try clear hfz76_1
                             try clear hfz76_2
                             try clear hfz76_3
                             try clear hx136_0
                             try clear hx136_1
                             try clear hx136_2
                             try clear hx136_3
                             try clear hx136_4
                             try clear hx136_5
                             try clear hx136_6
                             try clear hx136_7
                             try clear hx136_8
                             try clear hx139_0
                             try clear hx139_1
                             try clear hx139_2
                             try clear hx139_3
                             try clear hx140_0
                             try clear hx141_0
                             try clear hx142_0
                             try clear hx143_0
                             try clear hx144_0
                             try clear hx144_1
                             try clear hx145_0
                             try clear hx145_1
                             try clear hx146_0
                             try clear hx146_1
                             try clear hx147_0
                             try clear hx147_1
                             try clear hx148_0
                             try clear hx148_1
                             try clear hx149_0
                             try clear hx149_1
                             try clear hx150_0
                             try clear hx150_1
                             try clear hx151_0
                             try clear hx151_1
                             try clear hx152_0
                             try clear hx152_1
                             try clear hx152_2
                             try clear hx152_3
                             try clear hx153_0
                             try clear hx153_1
                             try clear hx154_0
                             try clear hx154_1
                             try clear hx155_0
                             try clear hx155_1
                             try clear hx156_0
                             try clear hx156_1
                             try clear p1
                             try clear p13
                             try clear p136
                             try clear p139
                             try clear p14
                             try clear p140
                             try clear p141
                             try clear p142
                             try clear p143
                             try clear p144
                             try clear p145
                             try clear p146
                             try clear p147
                             try clear p148
                             try clear p149
                             try clear p15
                             try clear p150
                             try clear p151
                             try clear p152
                             try clear p153
                             try clear p154
                             try clear p155
                             try clear p156
                             try clear p2
                             try clear p6
                             try clear p64
                             try clear q1
                             try clear q13
                             try clear q136
                             try clear q139
                             try clear q14
                             try clear q140
                             try clear q141
                             try clear q142
                             try clear q143
                             try clear q144
                             try clear q145
                             try clear q146
                             try clear q147
                             try clear q148
                             try clear q149
                             try clear q15
                             try clear q150
                             try clear q151
                             try clear q152
                             try clear q153
                             try clear q154
                             try clear q155
                             try clear q156
                             obtain ⟨kq, x30_74, x284_74, rfl, rfl, HA, HJ74, HO_11, HO_12, HO_14, HO_16, HO_17, HO_19, HO_114001, BK113, HB⟩ := hcut
                             as_aux_lemma =>
                              cases kq with
                              | zero => exact absurd HA.out (by simp [isobathlaw02_MooringEvery.j7])
                              | succ kj74 =>
                               have H := HA.out
                               clear HA
                               simp only [isobathlaw02_MooringEvery.j7] at H
                               by_cases c80 : x284_74 = true
                               ·subst c80
                                have H1 : (none) = some r := by rw [if_pos rfl] at H; exact H
                                clear H
                                have H := H1
                                clear H1
                                exact absurd H (by simp)
                               ·replace c80 := Bool.eq_false_iff.mpr c80
                                subst c80
                                have H1 : (if 0 ≤ x24_2 then (if x24_2 < (t127.length : Int) then (if x24_2 < (t131.length : Int) then (if (wrap64 ((wrap64 (((rd_T57 t127 x24_2).f0) * ((rd_T57 t127 x24_2).f0))) * x29_58)) > (wrap64 ((wrap64 ((wrap64 ((wrap64 (25 * x30_74)) * x30_74)) * (rd t131 x24_2))) * (rd t131 x24_2))) then (none) else (if (wrap64 ((wrap64 (((rd_T57 t127 x24_2).f1) * ((rd_T57 t127 x24_2).f1))) * x29_58)) < (wrap64 ((wrap64 ((wrap64 ((wrap64 (25 * x30_74)) * x30_74)) * (rd t131 x24_2))) * (rd t131 x24_2))) then (none) else (isobathlaw02_MooringEvery.l0 kj74 l0 a3 t110 t116 t120 t124 t127 t131 (t102.length : Int) x22_57 x23_57 (wrap64 (x24_2 + 1)) t101 t102 t105 t106))) else (none)) else (none)) else (none)) = some r := by rw [if_neg (show ¬ (false = true) by decide)] at H; exact H
                                clear H
                                have H := H1
                                clear H1
                                by_cases c81 : 0 ≤ x24_2
                                ·rw [if_pos c81] at H
                                 have c81b0 : decide (0 ≤ x24_2) = true := decide_eq_true c81
                                 clear c81
                                 by_cases c82 : x24_2 < (t127.length : Int)
                                 ·rw [if_pos c82] at H
                                  have c82b0 : decide (x24_2 < (t127.length : Int)) = true := decide_eq_true c82
                                  clear c82
                                  by_cases c83 : x24_2 < (t131.length : Int)
                                  ·rw [if_pos c83] at H
                                   have c83b0 : decide (x24_2 < (t131.length : Int)) = true := decide_eq_true c83
                                   clear c83
                                   by_cases c84 : (wrap64 ((wrap64 (((rd_T57 t127 x24_2).f0) * ((rd_T57 t127 x24_2).f0))) * x29_58)) > (wrap64 ((wrap64 ((wrap64 ((wrap64 (25 * x30_74)) * x30_74)) * (rd t131 x24_2))) * (rd t131 x24_2)))
                                   ·rw [if_pos c84] at H
                                    exact absurd H (by simp)
                                   ·rw [if_neg c84] at H
                                    have c84b0 : decide ((wrap64 ((wrap64 ((wrap64 ((wrap64 (25 * x30_74)) * x30_74)) * (rd t131 x24_2))) * (rd t131 x24_2))) < (wrap64 ((wrap64 (((rd_T57 t127 x24_2).f0) * ((rd_T57 t127 x24_2).f0))) * x29_58))) = false := decide_eq_false c84
                                    clear c84
                                    by_cases c85 : (wrap64 ((wrap64 (((rd_T57 t127 x24_2).f1) * ((rd_T57 t127 x24_2).f1))) * x29_58)) < (wrap64 ((wrap64 ((wrap64 ((wrap64 (25 * x30_74)) * x30_74)) * (rd t131 x24_2))) * (rd t131 x24_2)))
                                    ·rw [if_pos c85] at H
                                     exact absurd H (by simp)
                                    ·rw [if_neg c85] at H
                                     have c85b0 : decide ((wrap64 ((wrap64 (((rd_T57 t127 x24_2).f1) * ((rd_T57 t127 x24_2).f1))) * x29_58)) < (wrap64 ((wrap64 ((wrap64 ((wrap64 (25 * x30_74)) * x30_74)) * (rd t131 x24_2))) * (rd t131 x24_2)))) = false := decide_eq_false c85
                                     clear c85
                                     as_aux_lemma =>
                                      have H' := Aside0.mk H
                                      clear H
                                      obtain ⟨Ao86, co86, eo86⟩ := Kd.R_slice HO_17.out
                                      subst eo86
                                      have p157 : 0 ≤ (x24_2 : Int) := of_decide_eq_true (by first | (with_reducible assumption) | assumption)
                                      have q157 : x24_2 < (t127.length : Int) := of_decide_eq_true (by first | (with_reducible assumption) | assumption)
                                      obtain ⟨ad157, e157, hx157_0, hx157_1⟩ := at_T57 (Kd.R_reads' HO_17.out).2.2 x24_2 p157 q157
                                      cases e157
                                      replace p157 := eq_true p157
                                      replace q157 := eq_true q157
                                      have p158 : 0 ≤ (x24_2 : Int) := of_decide_eq_true (by first | (with_reducible assumption) | assumption)
                                      have q158 : x24_2 < (t127.length : Int) := of_decide_eq_true (by first | (with_reducible assumption) | assumption)
                                      obtain ⟨ad158, e158, hx158_0, hx158_1⟩ := at_T57 (Kd.R_reads' HO_17.out).2.2 x24_2 p158 q158
                                      obtain rfl : ad157 = ad158 := (by injection e158)
                                      replace p158 := eq_true p158
                                      replace q158 := eq_true q158
                                      obtain ⟨Ao87, co87, eo87⟩ := Kd.R_slice HO_19.out
                                      subst eo87
                                      have p159 : 0 ≤ (x24_2 : Int) := of_decide_eq_true (by first | (with_reducible assumption) | assumption)
                                      have q159 : x24_2 < (t131.length : Int) := of_decide_eq_true (by first | (with_reducible assumption) | assumption)
                                      obtain ⟨ad159, e159, hx159_0⟩ := Kd.at_int (Kd.R_reads' HO_19.out).2.2 x24_2 p159 q159
                                      cases e159
                                      replace p159 := eq_true p159
                                      replace q159 := eq_true q159
                                      have p160 : 0 ≤ (x24_2 : Int) := of_decide_eq_true (by first | (with_reducible assumption) | assumption)
                                      have q160 : x24_2 < (t131.length : Int) := of_decide_eq_true (by first | (with_reducible assumption) | assumption)
                                      obtain ⟨ad160, e160, hx160_0⟩ := Kd.at_int (Kd.R_reads' HO_19.out).2.2 x24_2 p160 q160
                                      obtain rfl : ad159 = ad160 := (by injection e160)
                                      replace p160 := eq_true p160
                                      replace q160 := eq_true q160
                                      have p161 : 0 ≤ (x24_2 : Int) := of_decide_eq_true (by first | (with_reducible assumption) | assumption)
                                      have q161 : x24_2 < (t127.length : Int) := of_decide_eq_true (by first | (with_reducible assumption) | assumption)
                                      obtain ⟨ad161, e161, hx161_0, hx161_1⟩ := at_T57 (Kd.R_reads' HO_17.out).2.2 x24_2 p161 q161
                                      obtain rfl : ad157 = ad161 := (by injection e161)
                                      replace p161 := eq_true p161
                                      replace q161 := eq_true q161
                                      have p162 : 0 ≤ (x24_2 : Int) := of_decide_eq_true (by first | (with_reducible assumption) | assumption)
                                      have q162 : x24_2 < (t127.length : Int) := of_decide_eq_true (by first | (with_reducible assumption) | assumption)
                                      obtain ⟨ad162, e162, hx162_0, hx162_1⟩ := at_T57 (Kd.R_reads' HO_17.out).2.2 x24_2 p162 q162
                                      obtain rfl : ad157 = ad162 := (by injection e162)
                                      replace p162 := eq_true p162
                                      replace q162 := eq_true q162
                                      have p163 : 0 ≤ (x24_2 : Int) := of_decide_eq_true (by first | (with_reducible assumption) | assumption)
                                      have q163 : x24_2 < (t131.length : Int) := of_decide_eq_true (by first | (with_reducible assumption) | assumption)
                                      obtain ⟨ad163, e163, hx163_0⟩ := Kd.at_int (Kd.R_reads' HO_19.out).2.2 x24_2 p163 q163
                                      obtain rfl : ad159 = ad163 := (by injection e163)
                                      replace p163 := eq_true p163
                                      replace q163 := eq_true q163
                                      have p164 : 0 ≤ (x24_2 : Int) := of_decide_eq_true (by first | (with_reducible assumption) | assumption)
                                      have q164 : x24_2 < (t131.length : Int) := of_decide_eq_true (by first | (with_reducible assumption) | assumption)
                                      obtain ⟨ad164, e164, hx164_0⟩ := Kd.at_int (Kd.R_reads' HO_19.out).2.2 x24_2 p164 q164
                                      obtain rfl : ad159 = ad164 := (by injection e164)
                                      replace p164 := eq_true p164
                                      replace q164 := eq_true q164
                                      go_wp2
                                      repeat (go_quiet (fail); try go_wp2)
                                      go_roundg kj74
                                      case measure => have := HJ19.out; have := HK2.out; have := HJ45.out; have := HJ51.out; have := HJ57.out; have := HJ58.out; have := HJ62.out; have := HJ74.out; omega
                                      case rel => exact ⟨(x22_57), (x23_57), (wrap64 (x24_2 + 1)), (by first | rfl | (simp; done) | (simp [*]; done)), (by first | rfl | (simp; done) | (simp [*]; done)), (by first | rfl | (simp; done) | (simp [*]; done)), H', ⟨by have := HJ19.out; have := HK2.out; have := HJ45.out; have := HJ51.out; have := HJ57.out; have := HJ58.out; have := HJ62.out; have := HJ74.out; omega⟩, ⟨by (with_reducible repeat (first | apply Kd.R_alloc | apply Kd.R_drewN | apply Kd.R_drew)); exact HO_11.out⟩, ⟨by (with_reducible repeat (first | apply Kd.R_alloc | apply Kd.R_drewN | apply Kd.R_drew)); exact HO_12.out⟩, ⟨by (with_reducible repeat (first | apply Kd.R_alloc | apply Kd.R_drewN | apply Kd.R_drew)); exact HO_14.out⟩, ⟨by (with_reducible repeat (first | apply Kd.R_alloc | apply Kd.R_drewN | apply Kd.R_drew)); exact HO_16.out⟩, ⟨by (with_reducible repeat (first | apply Kd.R_alloc | apply Kd.R_drewN | apply Kd.R_drew)); exact HO_17.out⟩, ⟨by (with_reducible repeat (first | apply Kd.R_alloc | apply Kd.R_drewN | apply Kd.R_drew)); exact HO_19.out⟩, ⟨by (with_reducible repeat (first | apply Kd.R_alloc | apply Kd.R_drewN | apply Kd.R_drew)); exact HO_114001.out⟩, ⟨by (with_reducible repeat (first | refine blk_drewN ?_ _ | refine blk_drew ?_ | refine blk_alloc ?_ _)); exact BK113.out⟩, ⟨by repeat (first | (with_reducible first | exact HB.out | apply below_alloc | apply pw_below_drewN | apply below_drew1 | refine below_set ?_ GE113.out) | exact HB.out)⟩⟩
                                  ·rw [if_neg c83] at H
                                   exact absurd H (by simp)
                                 ·rw [if_neg c82] at H
                                  exact absurd H (by simp)
                                ·rw [if_neg c81] at H
                                 exact absurd H (by simp)
                           ·rw [if_neg c74] at H
                            exact absurd H (by simp)
                          ·rw [if_neg c73] at H
                           exact absurd H (by simp)
         ·rw [if_neg c45] at H
          have c45b0 : decide (x24_2 < (t102.length : Int)) = false := decide_eq_false c45
          clear c45
          replace H := Option.bind_eq_some_iff.mp H
          obtain ⟨t135, A880, H⟩ := H
          replace H : (some t135) = some r := H
          have A88 := Aside0.mk A880
          clear A880
          as_aux_lemma =>
           obtain rfl := Option.some.inj H
           go_wp2_with (first | (go_at_call 14; (with_reducible refine (isobathlaw02_fine.calls k2  t135 _ A88.out).mono ?_); rintro e w89 ⟨rfl, hb⟩; have n0_ := Aside0.mk (Kd.R_below (by (with_reducible repeat (first | apply Kd.R_alloc | apply Kd.R_drewN | apply Kd.R_drew)); exact HO_11.out) hb); have n1_ := Aside0.mk (Kd.R_below (by (with_reducible repeat (first | apply Kd.R_alloc | apply Kd.R_drewN | apply Kd.R_drew)); exact HO_12.out) hb); have n2_ := Aside0.mk (Kd.R_below (by (with_reducible repeat (first | apply Kd.R_alloc | apply Kd.R_drewN | apply Kd.R_drew)); exact HO_14.out) hb); have n3_ := Aside0.mk (Kd.R_below (by (with_reducible repeat (first | apply Kd.R_alloc | apply Kd.R_drewN | apply Kd.R_drew)); exact HO_16.out) hb); have n4_ := Aside0.mk (Kd.R_below (by (with_reducible repeat (first | apply Kd.R_alloc | apply Kd.R_drewN | apply Kd.R_drew)); exact HO_17.out) hb); have n5_ := Aside0.mk (Kd.R_below (by (with_reducible repeat (first | apply Kd.R_alloc | apply Kd.R_drewN | apply Kd.R_drew)); exact HO_19.out) hb); have n6_ := Aside0.mk (Kd.R_below (by (with_reducible repeat (first | apply Kd.R_alloc | apply Kd.R_drewN | apply Kd.R_drew)); exact HO_114001.out) hb); have n7_ := Aside0.mk (blk_below (g := gb113) (o := .cells #[.int .i64 t101, .slice Ao24 t102.length co24, .int .i64 t105, .int .i64 t106] 37 (0, 0)) (by (with_reducible repeat (first | refine blk_drewN ?_ _ | refine blk_drew ?_ | refine blk_alloc ?_ _)); exact BK113.out) hb); have n8_ := Aside0.mk (below_step (by repeat (first | (with_reducible first | exact HB.out | apply below_alloc | apply pw_below_drewN | apply below_drew1 | refine below_set ?_ GE113.out) | exact HB.out)) hb); clear HO_11; clear HO_12; clear HO_14; clear HO_16; clear HO_17; clear HO_19; clear HO_114001; clear BK113; clear HB; have HO_11 := n0_; have HO_12 := n1_; have HO_14 := n2_; have HO_16 := n3_; have HO_17 := n4_; have HO_19 := n5_; have HO_114001 := n6_; have BK113 := n7_; have HB := n8_; clear n0_ n1_ n2_ n3_ n4_ n5_ n6_ n7_ n8_; (try clear hb); (try clear hb2); (try clear hk); (try clear hi)))
           repeat (go_quiet (first | (go_at_call 14; (with_reducible refine (isobathlaw02_fine.calls k2  t135 _ A88.out).mono ?_); rintro e w89 ⟨rfl, hb⟩; have n0_ := Aside0.mk (Kd.R_below (by (with_reducible repeat (first | apply Kd.R_alloc | apply Kd.R_drewN | apply Kd.R_drew)); exact HO_11.out) hb); have n1_ := Aside0.mk (Kd.R_below (by (with_reducible repeat (first | apply Kd.R_alloc | apply Kd.R_drewN | apply Kd.R_drew)); exact HO_12.out) hb); have n2_ := Aside0.mk (Kd.R_below (by (with_reducible repeat (first | apply Kd.R_alloc | apply Kd.R_drewN | apply Kd.R_drew)); exact HO_14.out) hb); have n3_ := Aside0.mk (Kd.R_below (by (with_reducible repeat (first | apply Kd.R_alloc | apply Kd.R_drewN | apply Kd.R_drew)); exact HO_16.out) hb); have n4_ := Aside0.mk (Kd.R_below (by (with_reducible repeat (first | apply Kd.R_alloc | apply Kd.R_drewN | apply Kd.R_drew)); exact HO_17.out) hb); have n5_ := Aside0.mk (Kd.R_below (by (with_reducible repeat (first | apply Kd.R_alloc | apply Kd.R_drewN | apply Kd.R_drew)); exact HO_19.out) hb); have n6_ := Aside0.mk (Kd.R_below (by (with_reducible repeat (first | apply Kd.R_alloc | apply Kd.R_drewN | apply Kd.R_drew)); exact HO_114001.out) hb); have n7_ := Aside0.mk (blk_below (g := gb113) (o := .cells #[.int .i64 t101, .slice Ao24 t102.length co24, .int .i64 t105, .int .i64 t106] 37 (0, 0)) (by (with_reducible repeat (first | refine blk_drewN ?_ _ | refine blk_drew ?_ | refine blk_alloc ?_ _)); exact BK113.out) hb); have n8_ := Aside0.mk (below_step (by repeat (first | (with_reducible first | exact HB.out | apply below_alloc | apply pw_below_drewN | apply below_drew1 | refine below_set ?_ GE113.out) | exact HB.out)) hb); clear HO_11; clear HO_12; clear HO_14; clear HO_16; clear HO_17; clear HO_19; clear HO_114001; clear BK113; clear HB; have HO_11 := n0_; have HO_12 := n1_; have HO_14 := n2_; have HO_16 := n3_; have HO_17 := n4_; have HO_19 := n5_; have HO_114001 := n6_; have BK113 := n7_; have HB := n8_; clear n0_ n1_ n2_ n3_ n4_ n5_ n6_ n7_ n8_; (try clear hb); (try clear hb2); (try clear hk); (try clear hi))); try go_wp2_with (first | (go_at_call 14; (with_reducible refine (isobathlaw02_fine.calls k2  t135 _ A88.out).mono ?_); rintro e w89 ⟨rfl, hb⟩; have n0_ := Aside0.mk (Kd.R_below (by (with_reducible repeat (first | apply Kd.R_alloc | apply Kd.R_drewN | apply Kd.R_drew)); exact HO_11.out) hb); have n1_ := Aside0.mk (Kd.R_below (by (with_reducible repeat (first | apply Kd.R_alloc | apply Kd.R_drewN | apply Kd.R_drew)); exact HO_12.out) hb); have n2_ := Aside0.mk (Kd.R_below (by (with_reducible repeat (first | apply Kd.R_alloc | apply Kd.R_drewN | apply Kd.R_drew)); exact HO_14.out) hb); have n3_ := Aside0.mk (Kd.R_below (by (with_reducible repeat (first | apply Kd.R_alloc | apply Kd.R_drewN | apply Kd.R_drew)); exact HO_16.out) hb); have n4_ := Aside0.mk (Kd.R_below (by (with_reducible repeat (first | apply Kd.R_alloc | apply Kd.R_drewN | apply Kd.R_drew)); exact HO_17.out) hb); have n5_ := Aside0.mk (Kd.R_below (by (with_reducible repeat (first | apply Kd.R_alloc | apply Kd.R_drewN | apply Kd.R_drew)); exact HO_19.out) hb); have n6_ := Aside0.mk (Kd.R_below (by (with_reducible repeat (first | apply Kd.R_alloc | apply Kd.R_drewN | apply Kd.R_drew)); exact HO_114001.out) hb); have n7_ := Aside0.mk (blk_below (g := gb113) (o := .cells #[.int .i64 t101, .slice Ao24 t102.length co24, .int .i64 t105, .int .i64 t106] 37 (0, 0)) (by (with_reducible repeat (first | refine blk_drewN ?_ _ | refine blk_drew ?_ | refine blk_alloc ?_ _)); exact BK113.out) hb); have n8_ := Aside0.mk (below_step (by repeat (first | (with_reducible first | exact HB.out | apply below_alloc | apply pw_below_drewN | apply below_drew1 | refine below_set ?_ GE113.out) | exact HB.out)) hb); clear HO_11; clear HO_12; clear HO_14; clear HO_16; clear HO_17; clear HO_19; clear HO_114001; clear BK113; clear HB; have HO_11 := n0_; have HO_12 := n1_; have HO_14 := n2_; have HO_16 := n3_; have HO_17 := n4_; have HO_19 := n5_; have HO_114001 := n6_; have BK113 := n7_; have HB := n8_; clear n0_ n1_ n2_ n3_ n4_ n5_ n6_ n7_ n8_; (try clear hb); (try clear hb2); (try clear hk); (try clear hi))))
           go_ret
           exact ⟨by first | rfl | (simp [errW_none, errW_some] <;> rfl) | (simp [*, errW_none, errW_some] <;> rfl), by repeat (first | (with_reducible first | exact HB.out | apply below_alloc | apply pw_below_drewN | apply below_drew1 | refine below_set ?_ GE113.out) | exact HB.out)⟩
end Go.Proofs.Ytebcmhajbjkojaa.P
namespace Go.Proofs.Ytebcmhajbjkojaa.P
open Go.RowKit Go.Proofs.YtebcmhajbjkojaaW.PrintWords Go.Proofs.YtebcmhajbjkojaaW.PrintLast Go.Proofs.YtebcmhajbjkojaaW.PrintMore
attribute [local go_sem] max2_int min2_int max_two min_two max_three min_three max_four min_four   -- for this text's walks alone
set_option linter.unusedVariables false
set_option linter.unusedSimpArgs false
structure Opens {α : Type} (P : Program) (t : TypeId) (d : Kd α) (B : α → Prop) : Prop where
 run : ∀ {H : Type} {enc : TypeId × Value → H} {W : World} {fuel : Nat} {cs : List Value} {x : DataW H × List MemPlace}, DataW.trod enc P W 0 (fun _ => true) true fuel t cs = some x → ∃ a : α, d.K W a cs ∧ B a
theorem Opens.int {P : Program} {t : TypeId} {k : IntKind} (ht : P.underlying t = some (.int k)) : Opens P t (Kd.int k) (fun n => (Lit.int k n).wf = true) :=
 ⟨fun h => by
  obtain ⟨n, rfl, _, hw⟩ := DataW.trod_int ht h
  exact ⟨n, rfl, hw⟩⟩
theorem Opens.bool {P : Program} {t : TypeId} (ht : P.underlying t = some .bool) : Opens P t Kd.bool (fun _ => True) :=
 ⟨fun h => by
  obtain ⟨n, rfl, _⟩ := DataW.trod_bool ht h
  exact ⟨n, rfl, trivial⟩⟩
theorem Opens.slice {α : Type} {P : Program} {t e : TypeId} {d : Kd α} {B : α → Prop} (ht : P.underlying t = some (.slice e)) (hc : P.cellsOf e = d.sz) (he : Opens P e d B) :
  Opens P t (Kd.slice e d) (fun xs => xs.length ≤ 9223372036854775807 ∧ ∀ x ∈ xs, B x) := by
 refine ⟨fun {H enc W fuel cs x} h => ?_⟩
 rcases Deep.open_slice ht h with ⟨rfl, _⟩ | ⟨a, len, cap, m, n, D, Pl, rfl, _, hl, hm, hmm, _, hx⟩
 ·exact ⟨[], ⟨none, 0, rfl, Nat.le_refl _, Kd.C_nil _ _⟩, by simp, by simp⟩
 ·have hm' : cap ≤ 9223372036854775807 := by unfold maxLen at hm; exact hm
  have hme : m = cap := by simpa using hmm
  have hel : ∀ i, i < len → ∃ y : α, (∃ cs', W.cells? 0 (a.add (i * P.cellsOf e)) (P.cellsOf e) = some cs' ∧ d.K W y cs') ∧ B y := by
   intro i hi
   obtain ⟨cs', h1, h2⟩ := hx i (by omega)
   obtain ⟨y, hy, hB⟩ := he.run h2
   exact ⟨y, ⟨cs', h1, hy⟩, hB⟩
  rcases Nat.eq_zero_or_pos len with h0 | h0
  ·subst h0
   exact ⟨[], ⟨some a, cap, rfl, Nat.zero_le _, rfl, Nat.zero_le _, fun hp => absurd hp (Nat.lt_irrefl 0)⟩, by simp, by simp⟩
  ·have : Inhabited α := ⟨Classical.choose (hel 0 h0)⟩
   obtain ⟨f, hf⟩ := Deep.choose_lt (p := fun i y => (∃ cs', W.cells? 0 (a.add (i * P.cellsOf e)) (P.cellsOf e) = some cs' ∧ d.K W y cs') ∧ B y) hel
   have hlen : ((List.range len).map f).length = len := by simp
   refine ⟨(List.range len).map f, ⟨some a, cap, by rw [hlen], by rw [hlen]; exact hl, hlen ▸ rfl, by rw [hlen]; omega, fun _ => ⟨a, rfl, ?_⟩⟩, by rw [hlen]; omega, ?_⟩
   ·intro j p hj
    have hjl : j < len := by
     have := (List.getElem?_eq_some_iff.1 hj).1
     rwa [hlen] at this
    have hp : p = f j := by
     rw [List.getElem?_map, List.getElem?_range hjl] at hj
     exact (Option.some.inj hj).symm
    subst hp
    obtain ⟨⟨cs', h1, h2⟩, _⟩ := hf j hjl
    obtain ⟨_, h3, h4⟩ := World.cells?_some h1
    rw [hc] at h3 h4
    refine ⟨cs', h3, h2, fun i u hu => ?_⟩
    have hi : i < d.sz := by
     have := (List.getElem?_eq_some_iff.1 hu).1
     omega
    rw [← Deep.add_add]
    exact (h4 i hi).trans hu
   ·intro y hy
    obtain ⟨i, hi, rfl⟩ := List.mem_map.1 hy
    exact (hf i (List.mem_range.1 hi)).2
structure OpensF {α : Type} (P : Program) (fs : List Field) (off tot : Nat) (d : Kd α) (B : α → Prop) : Prop where
 run : ∀ {H : Type} {enc : TypeId × Value → H} {W : World} {n : Nat} {cs : List Value}, cs.length = tot → (∀ (i : Nat) (f : Field), fs[i]? = some f → ∃ y, DataW.trod enc P W 0 (fun _ => true) true n f.type ((cs.drop f.offset).take (P.cellsOf f.type)) = some y) → ∃ a : α, d.K W a (cs.drop off) ∧ B a
theorem OpensF.last {α : Type} {P : Program} {f : Field} {off tot : Nat} {d : Kd α} {B : α → Prop} (ho : f.offset = off) (ht : off + P.cellsOf f.type = tot) (h : Opens P f.type d B) : OpensF P [f] off tot d B := by
 refine ⟨fun {H enc W n cs} hl hy => ?_⟩
 obtain ⟨y, hy⟩ := hy 0 f rfl
 obtain ⟨a, ha, hB⟩ := h.run hy
 rw [ho, List.take_of_length_le (by rw [List.length_drop]; omega)] at ha
 exact ⟨a, ha, hB⟩
theorem OpensF.cons {α β : Type} {P : Program} {f : Field} {fs : List Field} {off tot : Nat} {d1 : Kd α} {d2 : Kd β} {B1 : α → Prop} {B2 : β → Prop} (ho : f.offset = off) (hs : P.cellsOf f.type = d1.sz) (h : Opens P f.type d1 B1) (hr : OpensF P fs (off + d1.sz) tot d2 B2) :
  OpensF P (f :: fs) off tot (Kd.pair d1 d2) (fun x => B1 x.1 ∧ B2 x.2) := by
 refine ⟨fun {H enc W n cs} hl hy => ?_⟩
 obtain ⟨y, hy0⟩ := hy 0 f rfl
 obtain ⟨a, ha, hB⟩ := h.run hy0
 obtain ⟨b, hb, hB2⟩ := hr.run hl (fun i g hg => hy (i + 1) g hg)
 rw [ho, hs] at ha
 refine ⟨(a, b), ⟨(cs.drop off).take d1.sz, cs.drop (off + d1.sz), ?_, ha, hb⟩, hB, hB2⟩
 rw [← List.drop_drop, List.take_append_drop]
theorem Opens.struct {α β : Type} {P : Program} {t : TypeId} {fs : Array Field} {d : Kd α} {B : α → Prop} (ht : P.underlying t = some (.struct fs)) (f : β → α) (g : α → β) (hg : ∀ a, f (g a) = a) (hF : OpensF P fs.toList 0 (P.cellsOf t) d B) : Opens P t (Kd.iso d f) (fun x => B (f x)) := by
 refine ⟨fun {H enc W fuel cs x} h => ?_⟩
 obtain ⟨xs, n, _, _, hl, hlen, hf⟩ := DataW.trod_struct ht h
 obtain ⟨a, ha, hB⟩ := hF.run (n := n) hl (fun i fl hfl => by
  have hfl' : fs[i]? = some fl := by simpa using hfl
  have hi : i < fs.size := (Array.getElem?_eq_some_iff.1 hfl').1
  exact ⟨xs[i]'(by omega), (hf i fl hfl').trans (List.getElem?_eq_getElem (by omega))⟩)
 refine ⟨g a, ?_, ?_⟩
 ·show d.K W (f (g a)) cs
  rw [hg]
  simpa using ha
 ·show B (f (g a))
  rw [hg]
  exact hB
end Go.Proofs.Ytebcmhajbjkojaa.P
namespace Go.Proofs.Ytebcmhajbjkojaa.P
open Go.RowKit Go.Proofs.YtebcmhajbjkojaaW.PrintWords Go.Proofs.YtebcmhajbjkojaaW.PrintLast Go.Proofs.YtebcmhajbjkojaaW.PrintMore
namespace mooringEvery
open Go.ChangeShapes Go.WideShapes Go.ChangeAt
set_option linter.unusedVariables false
set_option linter.unusedSimpArgs false
def B69 (x : S69) : Prop := (fun n : Int => (Lit.int .u16 n).wf = true) x.f0 ∧ (fun n : Int => (Lit.int .i16 n).wf = true) x.f1 ∧ (fun n : Int => (Lit.int .u8 n).wf = true) x.f2 ∧ (fun n : Int => (Lit.int .u16 n).wf = true) x.f3 ∧ (fun n : Int => (Lit.int .u8 n).wf = true) x.f4 ∧ (fun n : Int => (Lit.int .u8 n).wf = true) x.f5 ∧ (fun n : Int => (Lit.int .u8 n).wf = true) x.f6 ∧ (fun n : Int => (Lit.int .u8 n).wf = true) x.f7 ∧ (fun n : Int => (Lit.int .u8 n).wf = true) x.f8
theorem opens69 : Opens Try.prog 69 k69 B69 := Opens.struct (fs := _) Try.underlying69 (fun x : S69 => (x.f0, x.f1, x.f2, x.f3, x.f4, x.f5, x.f6, x.f7, x.f8)) (fun t => ⟨t.1, t.2.1, t.2.2.1, t.2.2.2.1, t.2.2.2.2.1, t.2.2.2.2.2.1, t.2.2.2.2.2.2.1, t.2.2.2.2.2.2.2.1, t.2.2.2.2.2.2.2.2⟩) (fun _ => rfl) (OpensF.cons rfl (by kernel_rfl) (Opens.int Try.underlying32) (OpensF.cons rfl (by kernel_rfl) (Opens.int Try.underlying67) (OpensF.cons rfl (by kernel_rfl) (Opens.int Try.underlying5) (OpensF.cons rfl (by kernel_rfl) (Opens.int Try.underlying32) (OpensF.cons rfl (by kernel_rfl) (Opens.int Try.underlying5) (OpensF.cons rfl (by kernel_rfl) (Opens.int Try.underlying5) (OpensF.cons rfl (by kernel_rfl) (Opens.int Try.underlying5) (OpensF.cons rfl (by kernel_rfl) (Opens.int Try.underlying5) (OpensF.last rfl (by kernel_rfl) (Opens.int Try.underlying5))))))))))
def Pure : Prop := ∀ (x0 : (List S69)) (x1 : Int) (x2 : Int) (x3 : Bool), (fun xs : List S69 => xs.length ≤ 9223372036854775807 ∧ ∀ x ∈ xs, B69 x) x0 → (fun n : Int => (Lit.int .u16 n).wf = true) x1 → (fun n : Int => (Lit.int .u16 n).wf = true) x2 → ∃ k, isobathlaw02_MooringEvery.f k x0 x1 x2 x3 = some true
theorem own : ownKnob Try.prog.godebug = none := by kernel_rfl
theorem laidOut : laidOutB Try.prog = true := by kernel_rfl
set_option maxRecDepth 100000 in
theorem lifted (hP : Pure) (os : Os) (started : os.Started) (H : Type) (enc : TypeId × Value → H) :
  ReturnsInHanded {} Try.checked os 9 .any (Rows.mooringEverySpec.pre6 enc Try.prog Try.f9 Rows.mooringEveryRow.domain false) (Rows.mooringEverySpec.post enc Try.prog Try.f9 false true false false) := by
 refine returnsInHanded_of_change_sized (C := Try.checked) own started (by kernel_rfl) Try.func9
  (ChangeSpec.witness6 (enc := enc) (C := Try.checked) false ⟨#[], #[.slice none 0 0, .int .u16 0, .int .u16 0, .bool false], []⟩ 8 (by kernel_rfl) (by kernel_rfl) (by kernel_rfl) (by kernel_rfl)) ?_
 intro W base args ds gs before hval0 hW hcnd hsz0 _
 have hval : ∀ (j : Nat) t v, Try.f9.params[j]? = some t → args[j]? = some v → Value.okWide Try.prog W .any base t v := hval0
 have hW' := hW
 obtain ⟨p, q, hA0, hV, rfl, hfz, hnd⟩ := hW
 have hA : DataW.TrodAll enc Try.prog W 0 (fun _ => true) true Try.f9.params.toList args.toList ds p := hA0
 rw [Try.params9] at hA hval
 obtain ⟨v0, vs0, d0, ds0, p0, q0, hargs, rfl, rfl, h0, r0⟩ := trodAll_cons hA
 obtain ⟨v1, vs1, d1, ds1, p1, q1, rfl, rfl, rfl, h1, r1⟩ := trodAll_cons r0
 obtain ⟨v2, vs2, d2, ds2, p2, q2, rfl, rfl, rfl, h2, r2⟩ := trodAll_cons r1
 obtain ⟨v3, vs3, d3, ds3, p3, q3, rfl, rfl, rfl, h3, r3⟩ := trodAll_cons r2
 obtain ⟨rfl, rfl, rfl⟩ := trodAll_nil r3
 obtain rfl : args = #[v0, v1, v2, v3] := by cases args; simp_all
 obtain ⟨rfl, rfl⟩ := trodVars_none hV
 have k0 := h0
 have lt0 : ∀ x ∈ p0, x.block < W.heap.size := by obtain ⟨m, hm⟩ := k0; exact DataW.trod_lt m _ _ _ hm
 obtain ⟨m0, hm0⟩ := h0
 obtain ⟨x0, hk0, w0⟩ := Opens.run (Opens.slice Try.underlying62 (by kernel_rfl) opens69) hm0
 obtain ⟨a0, len0, cap0, rfl⟩ := okWide_slice Try.underlying62 (hval 0 62 v0 rfl rfl)
 obtain ⟨A0, c0, hcs0, hc0, hr0⟩ := hk0
 simp [Value.cells] at hcs0
 obtain ⟨rfl, rfl, rfl⟩ := hcs0
 obtain ⟨x1, rfl, rfl, rfl, w1⟩ := open_int Try.underlying32 (hval 1 32 v1 rfl rfl) h1
 obtain ⟨x2, rfl, rfl, rfl, w2⟩ := open_int Try.underlying32 (hval 2 32 v2 rfl rfl) h2
 obtain ⟨x3, rfl, rfl, rfl⟩ := open_bool Try.underlying4 (hval 3 4 v3 rfl rfl) h3
 clear hA0 hval0 hsz0
 obtain ⟨k, hf⟩ := hP x0 x1 x2 x3 w0 w1 w2
 refine (isobathlaw02_MooringEvery.calls (k := k) (A0 := a0) (c0 := cap0) (l0 := x0) (a1 := x1) (a2 := x2) (a3 := x3) (r := true) (w := W) (hr0 := hr0) (hc0 := hc0) (h := hf)).mono fun e W' ⟨he, hd⟩ => ?_
 have bel : Below W.heap.size W W' := by first | exact hd | (obtain ⟨m, rfl⟩ := hd; exact pw_below_drewN (Below.refl _ _) m)
 subst he
 exact ⟨_, rfl, _, _, _, [], _, [], hW', trodAll_mk1 (shut_bool Try.underlying4 _), (trodAll_cons_mk (Below.trod laidOut (by kernel_rfl) (of_decide_eq_true (by kernel_rfl)) k0 bel lt0) (trodAll_cons_mk (shut_int Try.underlying32 w1) (trodAll_cons_mk (shut_int Try.underlying32 w2) (trodAll_cons_mk (shut_bool Try.underlying4 _) trodAll_mk0)))), rfl, bel.frame _, fun h => by cases h⟩
theorem over (hP : Pure) : Rows.mooringEveryRow.holds Try.pinned (OpenSpec.ofChange Rows.mooringEverySpec) :=
 OpenClaim.holds_of_wide 9 Try.f9 rfl rfl rfl rfl rfl rfl rfl ⟨rfl, rfl, rfl, rfl, rfl⟩ rfl rfl rfl rfl rfl (by kernel_rfl) Try.func9 (by kernel_rfl)
  (of_decide_eq_true (by kernel_rfl)) (by unfold Func.isWrapper; first | (rw [if_pos (by decide +kernel)]; kernel_rfl) | (rw [if_neg (by decide +kernel)]; exact ⟨rfl, rfl⟩))
  (fun os started H enc _ => lifted hP os started H enc)
theorem proved (hP : Pure) : Rows.MooringEverySaid := over hP
end mooringEvery
end Go.Proofs.Ytebcmhajbjkojaa.P
namespace Go.Proofs.Ytebcmhajbjkojaa.P
open Go.RowKit Go.Proofs.YtebcmhajbjkojaaW.PrintWords Go.Proofs.YtebcmhajbjkojaaW.PrintLast Go.Proofs.YtebcmhajbjkojaaW.PrintMore
attribute [local go_sem] max2_int min2_int max_two min_two max_three min_three max_four min_four   -- for this text's walks alone
set_option linter.unusedVariables false
set_option linter.unusedSimpArgs false
theorem Moor.rootUp_le {n s : Int} (h0 : 0 ≤ n) (hn : n < 1152921504606846976) (hs : 0 ≤ s) (h : n ≤ s * s) : Moor.rootUp n ≤ s := by
 obtain ⟨r0, r1, r2⟩ := Moor.root_is h0 hn
 unfold Moor.rootUp
 by_cases c : Moor.root n * Moor.root n < n
 ·rw [if_pos c]
  have := lt_of_sq (a := Moor.root n) (b := s) hs (by omega)
  omega
 ·rw [if_neg c]
  exact le_of_sq hs (by omega)
theorem Moor.le_root {n s : Int} (h0 : 0 ≤ n) (hn : n < 1152921504606846976) (h : s * s ≤ n) : s ≤ Moor.root n := by
 obtain ⟨r0, r1, r2⟩ := Moor.root_is h0 hn
 have := lt_of_sq (a := s) (b := Moor.root n + 1) (by omega) (by omega)
 omega
theorem Moor.root_mono {n m : Int} (h0 : 0 ≤ n) (h : n ≤ m) (hm : m < 1152921504606846976) : Moor.root n ≤ Moor.root m := by
 obtain ⟨r0, r1, r2⟩ := Moor.root_is h0 (Int.lt_of_le_of_lt h hm)
 exact Moor.le_root (Int.le_trans h0 h) hm (Int.le_trans r1 h)
theorem Moor.rootUp_nonneg {n : Int} (h0 : 0 ≤ n) (hn : n < 1152921504606846976) : 0 ≤ Moor.rootUp n := by
 obtain ⟨r0, r1, r2⟩ := Moor.root_is h0 hn
 have := Moor.rootUp_is h0 hn
 omega
theorem Moor.rootUp_mono {n m : Int} (h0 : 0 ≤ n) (h : n ≤ m) (hm : m < 1152921504606846976) : Moor.rootUp n ≤ Moor.rootUp m := by
 have := Moor.rootUp_is (Int.le_trans h0 h) hm
 exact Moor.rootUp_le h0 (Int.lt_of_le_of_lt h hm) (Moor.rootUp_nonneg (Int.le_trans h0 h) hm) (by omega)
theorem Moor.rootUp_step {x y v : Int} (h0 : 0 ≤ x) (h : x ≤ y) (hy : y * y + v * v < 1152921504606846976) (hv : 0 ≤ v * v) : Moor.rootUp (y * y + v * v) ≤ Moor.rootUp (x * x + v * v) + (y - x) := by
 have hxx := sq_le_sq h0 h
 have hx0 := sq_le_sq (a := 0) (Int.le_refl 0) h0
 have hb : 0 ≤ x * x + v * v := by omega
 have u := Moor.rootUp_is hb (by omega)
 have u0 := Moor.rootUp_nonneg hb (by omega)
 have hxr : x ≤ Moor.rootUp (x * x + v * v) := le_of_sq u0 (by omega)
 apply Moor.rootUp_le (by omega) hy (by omega)
 generalize Moor.rootUp (x * x + v * v) = R at *
 obtain ⟨d, rfl⟩ : ∃ d, y = x + d := ⟨y - x, by omega⟩
 have h1 : x * d ≤ R * d := Int.mul_le_mul_of_nonneg_right hxr (by omega)
 have e1 : (x + d) * (x + d) = x * x + 2 * (x * d) + d * d := by grind
 have e2 : (R + (x + d - x)) * (R + (x + d - x)) = R * R + 2 * (R * d) + d * d := by grind
 omega
theorem Moor.ediv_le {a b c : Int} (hb : 0 < b) (h : a ≤ c * b) : a / b ≤ c := by
 have := (Int.ediv_lt_iff_lt_mul (a := a) (b := c + 1) hb).2 (by
  have : (c + 1) * b = c * b + b := by grind
  omega)
 omega
theorem Moor.cdiv_le {a b c : Int} (hb : 0 < b) (h : a ≤ c * b) : (a + b - 1) / b ≤ c := by
 have := (Int.ediv_lt_iff_lt_mul (a := a + b - 1) (b := c + 1) hb).2 (by
  have : (c + 1) * b = c * b + b := by grind
  omega)
 omega
theorem Moor.le_cdiv {a b : Int} (hb : 0 < b) : a ≤ (a + b - 1) / b * b := by
 have h1 := Int.emod_add_mul_ediv (a + b - 1) b
 have h2 := Int.emod_lt_of_pos (a + b - 1) hb
 have h3 : b * ((a + b - 1) / b) = (a + b - 1) / b * b := Int.mul_comm _ _
 omega
theorem Moor.ediv_mul_le {a b : Int} (hb : 0 < b) : a / b * b ≤ a := Int.ediv_mul_le a (by omega)
theorem Moor.offs_lo {l x y v : Int} (hl : 0 ≤ l) (h0 : 0 ≤ x) (h : x ≤ y) (hv : 1 ≤ v) (hy : y * y + v * v < 1152921504606846976) : l * x / Moor.rootUp (x * x + v * v) ≤ l * y / Moor.rootUp (y * y + v * v) := by
 have hvv := sq_le_sq (a := 1) (b := v) (by omega) hv
 have hxx := sq_le_sq h0 h
 have hx0 := sq_le_sq (a := 0) (Int.le_refl 0) h0
 have hs := Moor.rootUp_step h0 h hy (by omega)
 have a1 := Moor.rootUp_is (n := x * x + v * v) (by omega) (by omega)
 have a2 := Moor.rootUp_is (n := y * y + v * v) (by omega) (by omega)
 have b1 := Moor.root_pos (n := x * x + v * v) (by omega) (by omega)
 have b2 := Moor.root_pos (n := y * y + v * v) (by omega) (by omega)
 have hxr : x ≤ Moor.rootUp (x * x + v * v) := le_of_sq (by omega) (by omega)
 generalize Moor.rootUp (x * x + v * v) = R at *
 generalize Moor.rootUp (y * y + v * v) = Q at *
 have q1 := Moor.ediv_mul_le (a := l * x) (b := R) (by omega)
 have q2 : l * x / R ≤ l := Moor.ediv_le (by omega) (Int.mul_le_mul_of_nonneg_left hxr hl)
 have q0 : 0 ≤ l * x / R := Int.ediv_nonneg (Int.mul_nonneg hl h0) (by omega)
 refine (Int.le_ediv_iff_mul_le (by omega)).2 ?_
 generalize l * x / R = q at *
 have s1 : q * Q ≤ q * (R + (y - x)) := Int.mul_le_mul_of_nonneg_left hs q0
 have s2 : q * (y - x) ≤ l * (y - x) := Int.mul_le_mul_of_nonneg_right q2 (by omega)
 have s3 : q * (R + (y - x)) = q * R + q * (y - x) := Int.mul_add _ _ _
 have s4 : l * (y - x) = l * y - l * x := Int.mul_sub _ _ _
 omega
theorem Moor.root_step {x y v : Int} (h0 : 0 ≤ x) (h : x ≤ y) (hy : y * y + v * v < 1152921504606846976) (hv : 0 ≤ v * v) : Moor.root (y * y + v * v) ≤ Moor.root (x * x + v * v) + (y - x) := by
 have hxx := sq_le_sq h0 h
 have hx0 := sq_le_sq (a := 0) (Int.le_refl 0) h0
 obtain ⟨r0, r1, r2⟩ := Moor.root_is (n := y * y + v * v) (by omega) hy
 have hyr : y ≤ Moor.root (y * y + v * v) := Moor.le_root (by omega) hy (by omega)
 have : Moor.root (y * y + v * v) - (y - x) ≤ Moor.root (x * x + v * v) := by
  apply Moor.le_root (by omega) (by omega)
  generalize Moor.root (y * y + v * v) = r at *
  obtain ⟨d, rfl⟩ : ∃ d, y = x + d := ⟨y - x, by omega⟩
  have h1 : (x + d) * d ≤ r * d := Int.mul_le_mul_of_nonneg_right hyr (by omega)
  have e1 : (r - (x + d - x)) * (r - (x + d - x)) = r * r - 2 * (r * d) + d * d := by grind
  have e2 : (x + d) * (x + d) = x * x + 2 * ((x + d) * d) - d * d := by grind
  omega
 omega
theorem Moor.offs_hi {l x y v : Int} (hl : 0 ≤ l) (h0 : 0 ≤ x) (h : x ≤ y) (hv : 1 ≤ v) (hy : y * y + v * v < 1152921504606846976) : min l ((l * x + Moor.root (x * x + v * v) - 1) / Moor.root (x * x + v * v)) ≤ min l ((l * y + Moor.root (y * y + v * v) - 1) / Moor.root (y * y + v * v)) := by
 have hvv := sq_le_sq (a := 1) (b := v) (by omega) hv
 have hxx := sq_le_sq h0 h
 have hx0 := sq_le_sq (a := 0) (Int.le_refl 0) h0
 have hs := Moor.root_step h0 h hy (by omega)
 have b1 := Moor.root_pos (n := x * x + v * v) (by omega) (by omega)
 have b2 := Moor.root_pos (n := y * y + v * v) (by omega) (by omega)
 generalize Moor.root (x * x + v * v) = R at *
 generalize Moor.root (y * y + v * v) = Q at *
 have c := Moor.le_cdiv (a := l * y) (b := Q) (by omega)
 have c0 : 0 ≤ (l * y + Q - 1) / Q := Int.ediv_nonneg (by have := Int.mul_nonneg hl (show 0 ≤ y by omega); omega) (by omega)
 generalize hq : (l * y + Q - 1) / Q = q at *
 by_cases hql : l ≤ q
 ·omega
 ·have : (l * x + R - 1) / R ≤ q := by
   apply Moor.cdiv_le (by omega)
   have s1 : q * Q ≤ q * (R + (y - x)) := Int.mul_le_mul_of_nonneg_left hs c0
   have s2 : q * (y - x) ≤ l * (y - x) := Int.mul_le_mul_of_nonneg_right (by omega) (by omega)
   have s3 : q * (R + (y - x)) = q * R + q * (y - x) := Int.mul_add _ _ _
   have s4 : l * (y - x) = l * y - l * x := Int.mul_sub _ _ _
   omega
  omega
def Moor.Part (p q : S57) : Prop := q.f0 ≤ p.f0 ∧ p.f0 ≤ p.f1 ∧ p.f1 ≤ q.f1
theorem Moor.sq_part {p q : S57} {v : Int} (hp : Moor.okB p v) (hq : Moor.okB q v) (h : Moor.Part p q) : Moor.sqL q v ≤ Moor.sqL p v ∧ Moor.sqH p v ≤ Moor.sqH q v := by
 have a1 := sq_le_sq hq.1 h.1
 have a2 := sq_le_sq (Int.le_trans hp.1 hp.2.1) h.2.2
 unfold Moor.sqL Moor.sqH
 omega
theorem Moor.offs_part {p q : S57} {l v : Int} (hl : 0 ≤ l) (hp : Moor.okB p v) (hq : Moor.okB q v) (h : Moor.Part p q) : Moor.Part (Moor.offs l p v) (Moor.offs l q v) := by
 have r1 := Moor.sq_range hp
 have r2 := Moor.sq_range hq
 have hh := h.2
 have b := hp
 have b' := hq
 unfold Moor.okB at b b'
 have l1 := Moor.offs_lo (l := l) (x := q.f0) (y := p.f0) (v := v) hl (by omega) h.1 (by omega) (by unfold Moor.sqL at r1; omega)
 have l2 := Moor.offs_hi (l := l) (x := p.f1) (y := q.f1) (v := v) hl (by omega) h.2.2 (by omega) (by unfold Moor.sqH at r2; omega)
 have l3 := Moor.offs_lo (l := l) (x := p.f0) (y := p.f1) (v := v) hl (by omega) (by omega) (by omega) (by unfold Moor.sqH at r1; omega)
 refine ⟨l1, ?_, l2⟩
 unfold Moor.offs
 simp only
 have u := Moor.rootUp_is (n := Moor.sqH p v) (by omega) (by omega)
 have w := Moor.root_pos (n := Moor.sqH p v) (by omega) (by omega)
 have w0 := Moor.rootUp_nonneg (n := Moor.sqL p v) (by omega) (by omega)
 have u0 := Moor.rootUp_is (n := Moor.sqL p v) (by omega) (by omega)
 have w1 := Moor.root_pos (n := Moor.sqL p v) (by omega) (by omega)
 have vv := Moor.sq_bound hp
 have x0 : p.f0 ≤ Moor.rootUp (Moor.sqL p v) := le_of_sq w0 (by unfold Moor.sqL at u0 ⊢; omega)
 have e1 : l * p.f0 / Moor.rootUp (Moor.sqL p v) ≤ l := Moor.ediv_le (by omega) (Int.mul_le_mul_of_nonneg_left x0 hl)
 have c := Moor.le_cdiv (a := l * p.f1) (b := Moor.root (Moor.sqH p v)) (by omega)
 have c0 : 0 ≤ (l * p.f1 + Moor.root (Moor.sqH p v) - 1) / Moor.root (Moor.sqH p v) := Int.ediv_nonneg (by have := Int.mul_nonneg hl (show 0 ≤ p.f1 by omega); omega) (by omega)
 have e2 : l * p.f1 / Moor.rootUp (Moor.sqH p v) ≤ (l * p.f1 + Moor.root (Moor.sqH p v) - 1) / Moor.root (Moor.sqH p v) := Moor.ediv_le (by omega) (Int.le_trans c (Int.mul_le_mul_of_nonneg_left u.1 c0))
 have e3 : l * p.f0 / Moor.rootUp (Moor.sqL p v) ≤ l * p.f1 / Moor.rootUp (Moor.sqH p v) := l3
 omega
theorem Moor.rise_part {p q : S57} {l v : Int} (hl : 0 ≤ l) (hp : Moor.okB p v) (hq : Moor.okB q v) (h : Moor.Part p q) : Moor.Part (Moor.rise l p v) (Moor.rise l q v) := by
 have s := Moor.sq_part hp hq h
 have r1 := Moor.sq_range hp
 have r2 := Moor.sq_range hq
 have b := hp
 unfold Moor.okB at b
 have m1 := Moor.rootUp_mono (n := Moor.sqH p v) (m := Moor.sqH q v) (by omega) s.2 (by omega)
 have m2 := Moor.root_mono (n := Moor.sqL q v) (m := Moor.sqL p v) (by omega) s.1 (by omega)
 have m3 := Moor.root_mono (n := Moor.sqL p v) (m := Moor.sqH p v) (by omega) (by omega) (by omega)
 have u1 := Moor.rootUp_is (n := Moor.sqH p v) (by omega) (by omega)
 have w1 := Moor.root_pos (n := Moor.sqH p v) (by omega) (by omega)
 have w2 := Moor.root_pos (n := Moor.sqL q v) (by omega) (by omega)
 have w3 := Moor.root_pos (n := Moor.sqL p v) (by omega) (by omega)
 have vv := Moor.sq_bound hp
 have hlv : 0 ≤ l * v := Int.mul_nonneg hl (by omega)
 unfold Moor.Part Moor.rise
 simp only
 refine ⟨?_, ?_, ?_⟩
 ·have a := Moor.ediv_mul_le (a := l * v) (b := Moor.rootUp (Moor.sqH q v)) (by omega)
  have a0 : 0 ≤ l * v / Moor.rootUp (Moor.sqH q v) := Int.ediv_nonneg hlv (by omega)
  exact (Int.le_ediv_iff_mul_le (by omega)).2 (Int.le_trans (Int.mul_le_mul_of_nonneg_left m1 a0) a)
 ·have x0 : v ≤ Moor.rootUp (Moor.sqH p v) := le_of_sq (by omega) (by unfold Moor.sqH at u1 ⊢; omega)
  have e1 : l * v / Moor.rootUp (Moor.sqH p v) ≤ l := Moor.ediv_le (by omega) (Int.mul_le_mul_of_nonneg_left x0 hl)
  have c := Moor.le_cdiv (a := l * v) (b := Moor.root (Moor.sqL p v)) (by omega)
  have c0 : 0 ≤ (l * v + Moor.root (Moor.sqL p v) - 1) / Moor.root (Moor.sqL p v) := Int.ediv_nonneg (by omega) (by omega)
  have e2 : l * v / Moor.rootUp (Moor.sqH p v) ≤ (l * v + Moor.root (Moor.sqL p v) - 1) / Moor.root (Moor.sqL p v) := Moor.ediv_le (by omega) (Int.le_trans c (Int.mul_le_mul_of_nonneg_left (by omega) c0))
  omega
 ·have c := Moor.le_cdiv (a := l * v) (b := Moor.root (Moor.sqL q v)) (by omega)
  have c0 : 0 ≤ (l * v + Moor.root (Moor.sqL q v) - 1) / Moor.root (Moor.sqL q v) := Int.ediv_nonneg (by omega) (by omega)
  have e2 : (l * v + Moor.root (Moor.sqL p v) - 1) / Moor.root (Moor.sqL p v) ≤ (l * v + Moor.root (Moor.sqL q v) - 1) / Moor.root (Moor.sqL q v) := Moor.cdiv_le (by omega) (Int.le_trans c (Int.mul_le_mul_of_nonneg_left m2 c0))
  omega
theorem Moor.pull_at (free : Bool) : ∀ (on : List S57) (lo hi m : Int) (i : Nat) (p : S57), (Moor.pullsFrom free lo hi m on)[i]? = some p → p.f1 = hi + Moor.shi (on.take (i + 1)) ∧ p.f0 = if free = true then max 0 (Moor.most m (on.take (i + 1)) - (hi + Moor.shi (on.take (i + 1)))) else lo + Moor.slo (on.take (i + 1)) := by
 intro on
 induction on with
 | nil => intro lo hi m i p h; simp [Moor.pullsFrom] at h
 | cons x xs ih =>
  intro lo hi m i p h
  cases i with
  | zero =>
   simp only [Moor.pullsFrom, List.getElem?_cons_zero, Option.some.injEq] at h
   subst h
   simp only [List.take_succ_cons, List.take_zero, Moor.shi, Moor.slo, Moor.most]
   constructor
   ·omega
   ·cases free
    ·simp only [Bool.false_eq_true, if_false]; omega
    ·simp only [if_true, Int.add_zero]
  | succ i =>
   simp only [Moor.pullsFrom, List.getElem?_cons_succ] at h
   obtain ⟨a, b⟩ := ih _ _ _ _ _ h
   simp only [List.take_succ_cons, Moor.shi, Moor.slo, Moor.most]
   rw [a, b]
   constructor
   ·omega
   ·cases free
    ·simp only [Bool.false_eq_true, if_false]; omega
    ·simp only [if_true, Int.add_assoc]
end Go.Proofs.Ytebcmhajbjkojaa.P
namespace Go.Proofs.Ytebcmhajbjkojaa.P
open Go.RowKit Go.Proofs.YtebcmhajbjkojaaW.PrintWords Go.Proofs.YtebcmhajbjkojaaW.PrintLast Go.Proofs.YtebcmhajbjkojaaW.PrintMore
attribute [local go_sem] max2_int min2_int max_two min_two max_three min_three max_four min_four   -- for this text's walks alone
set_option linter.unusedVariables false
set_option linter.unusedSimpArgs false
theorem sq_nonneg' (a : Int) : 0 ≤ a * a := by
 rcases Int.le_total 0 a with h | h
 ·exact Int.mul_nonneg h h
 ·exact Int.mul_nonneg_of_nonpos_of_nonpos h h
theorem Evr.sq_abs {a b : Int} (hb : 0 ≤ b) (h : a * a ≤ b * b) : -b ≤ a ∧ a ≤ b := by
 constructor
 ·have : -a ≤ b := le_of_sq hb (by rw [Int.neg_mul_neg]; exact h)
  omega
 ·exact le_of_sq hb h
theorem Evr.cauchy (x y u v : Int) (h : u * u + v * v = 25) : (x * u + y * v) * (x * u + y * v) ≤ 25 * (x * x + y * y) := by
 have e : (x * u + y * v) * (x * u + y * v) + (x * v - y * u) * (x * v - y * u) = (x * x + y * y) * (u * u + v * v) := by grind
 have p := sq_nonneg' (x * v - y * u)
 rw [h] at e
 omega
theorem Evr.up {x y u v s f : Int} (h : u * u + v * v = 25) (hf : 0 ≤ f) (hs : 0 ≤ s) (hn : x * x + y * y ≤ 25 * (s * s)) : (x + u * f) * (x + u * f) + (y + v * f) * (y + v * f) ≤ 25 * ((s + f) * (s + f)) := by
 have c := Evr.cauchy x y u v h
 have t := (Evr.sq_abs (a := x * u + y * v) (b := 25 * s) (by omega) (by
  have : 25 * s * (25 * s) = 625 * (s * s) := by grind
  omega)).2
 have e : (x + u * f) * (x + u * f) + (y + v * f) * (y + v * f) = (x * x + y * y) + 2 * (f * (x * u + y * v)) + (u * u + v * v) * (f * f) := by grind
 have m : f * (x * u + y * v) ≤ f * (25 * s) := Int.mul_le_mul_of_nonneg_left t hf
 have e2 : 25 * ((s + f) * (s + f)) = 25 * (s * s) + 2 * (f * (25 * s)) + 25 * (f * f) := by grind
 rw [h] at e
 omega
theorem Evr.down {x y u v d f : Int} (h : u * u + v * v = 25) (hf : 0 ≤ f) (hd : f ≤ d) (hn : 25 * (d * d) ≤ x * x + y * y) : 25 * ((d - f) * (d - f)) ≤ (x + u * f) * (x + u * f) + (y + v * f) * (y + v * f) := by
 have c := Evr.cauchy x y u v h
 have e : (x + u * f) * (x + u * f) + (y + v * f) * (y + v * f) = (x * x + y * y) + 2 * (f * (x * u + y * v)) + (u * u + v * v) * (f * f) := by grind
 rw [h] at e
 have e2 : 25 * ((d - f) * (d - f)) = 25 * (d * d) - 2 * (f * (25 * d)) + 25 * (f * f) := by grind
 generalize x * x + y * y = n at *
 generalize x * u + y * v = t at *
 by_cases q : -(25 * d) ≤ t
 ·have m : f * (-(25 * d)) ≤ f * t := Int.mul_le_mul_of_nonneg_left q hf
  have e3 : f * (-(25 * d)) = -(f * (25 * d)) := by grind
  omega
 ·have g : (25 * d - 25 * f) * (25 * d - 25 * f) ≤ (-t - 25 * f) * (-t - 25 * f) := sq_le_sq (by omega) (by omega)
  have e4 : (-t - 25 * f) * (-t - 25 * f) = t * t + 50 * (f * t) + 625 * (f * f) := by grind
  have e5 : (25 * d - 25 * f) * (25 * d - 25 * f) = 625 * (d * d) - 50 * (f * (25 * d)) + 625 * (f * f) := by grind
  omega
theorem Evr.down' {x y u v s f : Int} (h : u * u + v * v = 25) (hs : 0 ≤ s) (hf : s ≤ f) (hn : x * x + y * y ≤ 25 * (s * s)) : 25 * ((f - s) * (f - s)) ≤ (x + u * f) * (x + u * f) + (y + v * f) * (y + v * f) := by
 have c := Evr.cauchy x y u v h
 have e : (x + u * f) * (x + u * f) + (y + v * f) * (y + v * f) = (x * x + y * y) + 2 * (f * (x * u + y * v)) + (u * u + v * v) * (f * f) := by grind
 rw [h] at e
 have t := (Evr.sq_abs (a := x * u + y * v) (b := 25 * s) (by omega) (by
  have : 25 * s * (25 * s) = 625 * (s * s) := by grind
  omega)).1
 generalize x * x + y * y = n at *
 generalize x * u + y * v = t' at *
 have g : (25 * f - 25 * s) * (25 * f - 25 * s) ≤ (t' + 25 * f) * (t' + 25 * f) := sq_le_sq (by omega) (by omega)
 have e4 : (t' + 25 * f) * (t' + 25 * f) = t' * t' + 50 * (f * t') + 625 * (f * f) := by grind
 have e5 : (25 * f - 25 * s) * (25 * f - 25 * s) = 625 * ((f - s) * (f - s)) := by grind
 omega
structure Evr.Sum (free : Bool) (x y s m : Int) : Prop where
 s0 : 0 ≤ s
 m0 : 0 ≤ m
 ms : m ≤ 2 * s
 up : x * x + y * y ≤ 25 * (s * s)
 down : s ≤ m → 25 * ((m - s) * (m - s)) ≤ x * x + y * y
 same : free = false → x = 5 * s ∧ y = 0
theorem Evr.Sum.zero (free : Bool) : Evr.Sum free 0 0 0 0 := ⟨by omega, by omega, by omega, by omega, fun _ => by omega, fun _ => ⟨by omega, rfl⟩⟩
theorem Evr.Sum.step {free : Bool} {x y s m u v f : Int} (h : Evr.Sum free x y s m) (hd : u * u + v * v = 25) (hv : free = false → u = 5 ∧ v = 0) (hf : 0 ≤ f) : Evr.Sum free (x + u * f) (y + v * f) (s + f) (max m (2 * f)) := by
 obtain ⟨a, b, c, d, e, g⟩ := h
 refine ⟨by omega, by omega, by omega, Evr.up hd hf a d, fun hm => ?_, fun hfr => ?_⟩
 ·by_cases q : 2 * f ≤ m
  ·have r := Evr.down (x := x) (y := y) (d := m - s) hd hf (by omega) (e (by omega))
   rw [show max m (2 * f) - (s + f) = m - s - f by omega]
   exact r
  ·have r := Evr.down' (x := x) (y := y) (s := s) (f := f) hd a (by omega) d
   rw [show max m (2 * f) - (s + f) = f - s by omega]
   exact r
 ·obtain ⟨g1, g2⟩ := g hfr
  obtain ⟨w1, w2⟩ := hv hfr
  subst w1 w2
  constructor
  ·omega
  ·omega
def Evr.In (p : Int) (q : S57) : Prop := 25 * (q.f0 * q.f0) ≤ p ∧ p ≤ 25 * (q.f1 * q.f1)
theorem Evr.tens {p v : Int} {q : S57} (hq : Moor.okB q v) (h : Evr.In p q) : 25 * ((Moor.tens q v).f0 * (Moor.tens q v).f0) ≤ p + 25 * (v * v) ∧ p + 25 * (v * v) ≤ 25 * ((Moor.tens q v).f1 * (Moor.tens q v).f1) := by
 have r := Moor.sq_range hq
 have a := Moor.root_is (n := Moor.sqL q v) (by omega) (by omega)
 have b := Moor.rootUp_is (n := Moor.sqH q v) (by omega) (by omega)
 have c := a.2.1
 have d := b.2.2
 unfold Evr.In at h
 unfold Moor.tens
 simp only
 unfold Moor.sqL at c ⊢
 unfold Moor.sqH at d ⊢
 omega
theorem Evr.more {o l h w p : Int} (h0 : 0 ≤ o) (h1 : o ≤ l) (hp : h ≤ p) (e : o * o * (h + w) ≤ l * l * h) : o * o * (p + w) ≤ l * l * p := by
 have a := sq_le_sq h0 h1
 have b : o * o * (p - h) ≤ l * l * (p - h) := Int.mul_le_mul_of_nonneg_right a (by omega)
 have c : o * o * (p + w) = o * o * (h + w) + o * o * (p - h) := by grind
 have d : l * l * p = l * l * h + l * l * (p - h) := by grind
 omega
theorem Evr.less {o l h w p : Int} (h0 : 0 ≤ o) (h1 : o ≤ l) (hp : p ≤ h) (e : l * l * h ≤ o * o * (h + w)) : l * l * p ≤ o * o * (p + w) := by
 have a := sq_le_sq h0 h1
 have b : o * o * (h - p) ≤ l * l * (h - p) := Int.mul_le_mul_of_nonneg_right a (by omega)
 have c : o * o * (h + w) = o * o * (p + w) + o * o * (h - p) := by grind
 have d : l * l * h = l * l * p + l * l * (h - p) := by grind
 omega
theorem Evr.offs {p v l : Int} {q : S57} (hl : 0 ≤ l) (hq : Moor.okB q v) (h : Evr.In p q) : (Moor.offs l q v).f0 * (Moor.offs l q v).f0 * (p + 25 * (v * v)) ≤ l * l * p ∧ l * l * p ≤ (Moor.offs l q v).f1 * (Moor.offs l q v).f1 * (p + 25 * (v * v)) ∧ 0 ≤ (Moor.offs l q v).f0 ∧ (Moor.offs l q v).f0 ≤ l ∧ 0 ≤ (Moor.offs l q v).f1 ∧ (Moor.offs l q v).f1 ≤ l := by
 have r := Moor.sq_range hq
 have bd := Moor.sq_bound hq
 have bq := hq
 unfold Moor.okB at bq
 have u := Moor.rootUp_is (n := Moor.sqL q v) (by omega) (by omega)
 have w := Moor.root_pos (n := Moor.sqL q v) (by omega) (by omega)
 have w' := Moor.root_pos (n := Moor.sqH q v) (by omega) (by omega)
 have i' := Moor.root_is (n := Moor.sqH q v) (by omega) (by omega)
 have part := Moor.offs_part hl hq hq ⟨Int.le_refl _, bq.2.1, Int.le_refl _⟩
 have o0 : 0 ≤ (Moor.offs l q v).f0 := Int.ediv_nonneg (Int.mul_nonneg hl bq.1) (by omega)
 have o1 : (Moor.offs l q v).f1 ≤ l := Int.min_le_left _ _
 have op := part.2.1
 have k0 : (Moor.offs l q v).f0 * Moor.rootUp (Moor.sqL q v) ≤ l * q.f0 := Moor.ediv_mul_le (by omega)
 unfold Evr.In at h
 refine ⟨?_, ?_, by omega, by omega, by omega, by omega⟩
 ·refine Evr.more o0 (by omega) h.1 ?_
  have s := sq_le_sq (Int.mul_nonneg o0 (show 0 ≤ Moor.rootUp (Moor.sqL q v) by omega)) k0
  have u2 := u.2.2
  generalize (Moor.offs l q v).f0 = o at *
  generalize Moor.rootUp (Moor.sqL q v) = R at *
  have a : o * o * Moor.sqL q v ≤ o * o * (R * R) := Int.mul_le_mul_of_nonneg_left u2 (Int.mul_nonneg o0 o0)
  have b : o * R * (o * R) = o * o * (R * R) := by grind
  have c : l * q.f0 * (l * q.f0) = l * l * (q.f0 * q.f0) := by grind
  have d : o * o * (25 * (q.f0 * q.f0) + 25 * (v * v)) = 25 * (o * o * Moor.sqL q v) := by unfold Moor.sqL; grind
  have e : l * l * (25 * (q.f0 * q.f0)) = 25 * (l * l * (q.f0 * q.f0)) := by grind
  omega
 ·by_cases c : (Moor.offs l q v).f1 = l
  ·rw [c]
   have a : l * l * p ≤ l * l * (p + 25 * (v * v)) := Int.mul_le_mul_of_nonneg_left (by omega) (Int.mul_nonneg hl hl)
   exact a
  ·refine Evr.less (by omega) o1 h.2 ?_
   have e : (Moor.offs l q v).f1 = (l * q.f1 + Moor.root (Moor.sqH q v) - 1) / Moor.root (Moor.sqH q v) := by
    have : (Moor.offs l q v).f1 = min l ((l * q.f1 + Moor.root (Moor.sqH q v) - 1) / Moor.root (Moor.sqH q v)) := rfl
    omega
   have k1 : l * q.f1 ≤ (Moor.offs l q v).f1 * Moor.root (Moor.sqH q v) := by rw [e]; exact Moor.le_cdiv (by omega)
   have s := sq_le_sq (Int.mul_nonneg hl (show 0 ≤ q.f1 by omega)) k1
   have u2 := i'.2.1
   have o2 : 0 ≤ (Moor.offs l q v).f1 := by omega
   clear e c
   generalize (Moor.offs l q v).f1 = o at *
   generalize Moor.root (Moor.sqH q v) = R at *
   have a : o * o * (R * R) ≤ o * o * Moor.sqH q v := Int.mul_le_mul_of_nonneg_left u2 (Int.mul_nonneg o2 o2)
   have b : o * R * (o * R) = o * o * (R * R) := by grind
   have c : l * q.f1 * (l * q.f1) = l * l * (q.f1 * q.f1) := by grind
   have d : o * o * (25 * (q.f1 * q.f1) + 25 * (v * v)) = 25 * (o * o * Moor.sqH q v) := by unfold Moor.sqH; grind
   have e : l * l * (25 * (q.f1 * q.f1)) = 25 * (l * l * (q.f1 * q.f1)) := by grind
   omega
theorem Evr.rise {p v l : Int} {q : S57} (hl : 0 ≤ l) (hq : Moor.okB q v) (h : Evr.In p q) : (Moor.rise l q v).f0 * (Moor.rise l q v).f0 * (p + 25 * (v * v)) ≤ 25 * (l * l * (v * v)) ∧ 25 * (l * l * (v * v)) ≤ (Moor.rise l q v).f1 * (Moor.rise l q v).f1 * (p + 25 * (v * v)) ∧ 0 ≤ (Moor.rise l q v).f0 ∧ (Moor.rise l q v).f0 ≤ l ∧ 0 ≤ (Moor.rise l q v).f1 ∧ (Moor.rise l q v).f1 ≤ l := by
 have r := Moor.sq_range hq
 have bd := Moor.sq_bound hq
 have bq := hq
 unfold Moor.okB at bq
 have u := Moor.rootUp_is (n := Moor.sqH q v) (by omega) (by omega)
 have w := Moor.root_pos (n := Moor.sqL q v) (by omega) (by omega)
 have w' := Moor.root_pos (n := Moor.sqH q v) (by omega) (by omega)
 have i' := Moor.root_is (n := Moor.sqL q v) (by omega) (by omega)
 have part := Moor.rise_part hl hq hq ⟨Int.le_refl _, bq.2.1, Int.le_refl _⟩
 have o0 : 0 ≤ (Moor.rise l q v).f0 := Int.ediv_nonneg (Int.mul_nonneg hl (by omega)) (by omega)
 have o1 : (Moor.rise l q v).f1 ≤ l := Int.min_le_left _ _
 have op := part.2.1
 have k0 : (Moor.rise l q v).f0 * Moor.rootUp (Moor.sqH q v) ≤ l * v := Moor.ediv_mul_le (by omega)
 unfold Evr.In at h
 refine ⟨?_, ?_, by omega, by omega, by omega, by omega⟩
 ·have s := sq_le_sq (Int.mul_nonneg o0 (show 0 ≤ Moor.rootUp (Moor.sqH q v) by omega)) k0
  have u2 := u.2.2
  generalize (Moor.rise l q v).f0 = o at *
  generalize Moor.rootUp (Moor.sqH q v) = R at *
  have a : o * o * Moor.sqH q v ≤ o * o * (R * R) := Int.mul_le_mul_of_nonneg_left u2 (Int.mul_nonneg o0 o0)
  have b : o * R * (o * R) = o * o * (R * R) := by grind
  have c : l * v * (l * v) = l * l * (v * v) := by grind
  have d : o * o * (25 * (q.f1 * q.f1) + 25 * (v * v)) = 25 * (o * o * Moor.sqH q v) := by unfold Moor.sqH; grind
  have e : o * o * (p + 25 * (v * v)) ≤ o * o * (25 * (q.f1 * q.f1) + 25 * (v * v)) := Int.mul_le_mul_of_nonneg_left (by omega) (Int.mul_nonneg o0 o0)
  omega
 ·by_cases c : (Moor.rise l q v).f1 = l
  ·rw [c]
   have a : l * l * (25 * (v * v)) ≤ l * l * (p + 25 * (v * v)) := Int.mul_le_mul_of_nonneg_left (by omega) (Int.mul_nonneg hl hl)
   have b : l * l * (25 * (v * v)) = 25 * (l * l * (v * v)) := by grind
   omega
  ·have e : (Moor.rise l q v).f1 = (l * v + Moor.root (Moor.sqL q v) - 1) / Moor.root (Moor.sqL q v) := by
    have : (Moor.rise l q v).f1 = min l ((l * v + Moor.root (Moor.sqL q v) - 1) / Moor.root (Moor.sqL q v)) := rfl
    omega
   have k1 : l * v ≤ (Moor.rise l q v).f1 * Moor.root (Moor.sqL q v) := by rw [e]; exact Moor.le_cdiv (by omega)
   have s := sq_le_sq (Int.mul_nonneg hl (show 0 ≤ v by omega)) k1
   have u2 := i'.2.1
   have o2 : 0 ≤ (Moor.rise l q v).f1 := by omega
   clear e c
   generalize (Moor.rise l q v).f1 = o at *
   generalize Moor.root (Moor.sqL q v) = R at *
   have a : o * o * (R * R) ≤ o * o * Moor.sqL q v := Int.mul_le_mul_of_nonneg_left u2 (Int.mul_nonneg o2 o2)
   have b : o * R * (o * R) = o * o * (R * R) := by grind
   have c : l * v * (l * v) = l * l * (v * v) := by grind
   have d : o * o * (25 * (q.f0 * q.f0) + 25 * (v * v)) = 25 * (o * o * Moor.sqL q v) := by unfold Moor.sqL; grind
   have e : o * o * (25 * (q.f0 * q.f0) + 25 * (v * v)) ≤ o * o * (p + 25 * (v * v)) := Int.mul_le_mul_of_nonneg_left (by omega) (Int.mul_nonneg o2 o2)
   omega
end Go.Proofs.Ytebcmhajbjkojaa.P
namespace Go.Proofs.Ytebcmhajbjkojaa.P
open Go.RowKit Go.Proofs.YtebcmhajbjkojaaW.PrintWords Go.Proofs.YtebcmhajbjkojaaW.PrintLast Go.Proofs.YtebcmhajbjkojaaW.PrintMore
attribute [local go_sem] max2_int min2_int max_two min_two max_three min_three max_four min_four   -- for this text's walks alone
set_option linter.unusedVariables false
set_option linter.unusedSimpArgs false
theorem Moor.liftsFrom_at (s : Int) (els : List S46) (i : Nat) (h : i < (Moor.liftsFrom s els).length) : (Moor.liftsFrom s els)[i] = s + Moor.sumL (els.take (i + 1)) := by
 induction els generalizing s i with
 | nil => simp [Moor.liftsFrom] at h
 | cons e es ih =>
  cases i with
  | zero => simp [Moor.liftsFrom, Moor.sumL]
  | succ i =>
   simp only [Moor.liftsFrom, List.getElem_cons_succ, List.take_succ_cons, Moor.sumL]
   rw [ih]
   omega
theorem Moor.lifts_rd {els : List S46} {i : Nat} (h : i < els.length) : rd (Moor.lifts els) (i : Int) = Moor.sumL (els.take (i + 1)) := by
 have hl : i < (Moor.lifts els).length := by rw [Moor.lifts_length]; exact h
 rw [rd_nat hl]
 have := Moor.liftsFrom_at 0 els i hl
 rw [Int.zero_add] at this
 exact this
end Go.Proofs.Ytebcmhajbjkojaa.P
namespace Go.Proofs.Ytebcmhajbjkojaa.P
open Go.RowKit Go.Proofs.YtebcmhajbjkojaaW.PrintWords Go.Proofs.YtebcmhajbjkojaaW.PrintLast Go.Proofs.YtebcmhajbjkojaaW.PrintMore
attribute [local go_sem] max2_int min2_int max_two min_two max_three min_three max_four min_four   -- for this text's walks alone
set_option linter.unusedVariables false
set_option linter.unusedSimpArgs false
def isobathref02_within.f (a0 : Int) (a1 : Int) (a2 : Int) : Option (Bool) := if a0 ≥ a1 then (some (decide (a0 ≤ a2))) else (some false)
end Go.Proofs.Ytebcmhajbjkojaa.P
namespace Go.Proofs.Ytebcmhajbjkojaa.P
open Go.RowKit Go.Proofs.YtebcmhajbjkojaaW.PrintWords Go.Proofs.YtebcmhajbjkojaaW.PrintLast Go.Proofs.YtebcmhajbjkojaaW.PrintMore
attribute [local go_sem] max2_int min2_int max_two min_two max_three min_three max_four min_four   -- for this text's walks alone
set_option linter.unusedVariables false
set_option linter.unusedSimpArgs false
mutual
def isobathref02_Check.j0 : Nat → Bool → Int → List (S46) → Int → Int → Option (Int)
 | 0, _, _, _, _, _ => none
 | k + 1, x30, x102000, x102001, x102002, x102003 => if x30 = true then (some 2) else (isobathref02_Check.l0 k 0 x102000 x102001 x102002 x102003)
def isobathref02_Check.l0 : Nat → Int → Int → List (S46) → Int → Int → Option (Int)
 | 0, _, _, _, _, _ => none
 | k + 1, x3, x102000, x102001, x102002, x102003 => if x3 < (x102001.length : Int) then (if 0 ≤ x3 then ((isobathref02_within.f ((rd_T46 x102001 x3).f0) 0 1048576).bind fun t107 => (if t107 = true then ((isobathref02_within.f ((rd_T46 x102001 x3).f1) (-1048576) 1048576).bind fun t108 => (if t108 = true then ((isobathref02_within.f ((rd_T46 x102001 x3).f2) 0 65536).bind fun t109 => (if t109 = true then ((isobathref02_within.f ((rd_T46 x102001 x3).f3) 1 16777216).bind fun t110 => (if t110 = true then (isobathref02_Check.l0 k (wrap64 (x3 + 1)) x102000 x102001 x102002 x102003) else (some 2))) else (some 2))) else (some 2))) else (some 2))) else (none)) else (some 0)
end
end Go.Proofs.Ytebcmhajbjkojaa.P
namespace Go.Proofs.Ytebcmhajbjkojaa.P
open Go.RowKit Go.Proofs.YtebcmhajbjkojaaW.PrintWords Go.Proofs.YtebcmhajbjkojaaW.PrintLast Go.Proofs.YtebcmhajbjkojaaW.PrintMore
attribute [local go_sem] max2_int min2_int max_two min_two max_three min_three max_four min_four   -- for this text's walks alone
set_option linter.unusedVariables false
set_option linter.unusedSimpArgs false
theorem Moor.err_both {d an fr : Int} {els : List S46} {cs : List S57} {stand : Bool} (h : Moor.chk d els an fr = 0) (h2 : cs.length = els.length) : Moor.err d els an fr cs stand = Moor.err2 els cs stand := by
 unfold Moor.err
 rw [if_neg (fun e => e h), if_neg (fun e => e h2)]
end Go.Proofs.Ytebcmhajbjkojaa.P
namespace Go.Proofs.Ytebcmhajbjkojaa.P
open Go.RowKit Go.Proofs.YtebcmhajbjkojaaW.PrintWords Go.Proofs.YtebcmhajbjkojaaW.PrintLast Go.Proofs.YtebcmhajbjkojaaW.PrintMore
attribute [local go_sem] max2_int min2_int max_two min_two max_three min_three max_four min_four   -- for this text's walks alone
set_option linter.unusedVariables false
set_option linter.unusedSimpArgs false
mutual
def isobathref02_pulls.l0 : Nat → Bool → List (S57) → List (S57) → Int → Int → Int → Option ((List (S57)))
 | 0, _, _, _, _, _, _ => none
 | k + 1, x2, x7, x8, x9, x10, x11 => if x11 < (x7.length : Int) then (if 0 ≤ x11 then (if x2 = true then (isobathref02_pulls.l1 k x2 x7 x8 (wrap64 (x9 + ((rd_T57 x7 x11).f0))) (wrap64 (x10 + ((rd_T57 x7 x11).f1))) x11 0 0 (wrap64 (x10 + ((rd_T57 x7 x11).f1)))) else (if x8.length < 8796093022208 then (isobathref02_pulls.l0 k x2 x7 (x8 ++ [(⟨wrap64 (x9 + ((rd_T57 x7 x11).f0)), wrap64 (x10 + ((rd_T57 x7 x11).f1))⟩ : S57)]) (wrap64 (x9 + ((rd_T57 x7 x11).f0))) (wrap64 (x10 + ((rd_T57 x7 x11).f1))) (wrap64 (x11 + 1))) else (none))) else (none)) else (some x8)
def isobathref02_pulls.l1 : Nat → Bool → List (S57) → List (S57) → Int → Int → Int → Int → Int → Int → Option ((List (S57)))
 | 0, _, _, _, _, _, _, _, _, _ => none
 | k + 1, x2, x7, x8, x9, x10, x11, x13, x108000, x108001 => if x13 ≤ x11 then (if 0 ≤ x13 then (if x13 < (x7.length : Int) then (isobathref02_pulls.l1 k x2 x7 x8 x9 x10 x11 (wrap64 (x13 + 1)) (mx x108000 (wrap64 (((rd_T57 x7 x13).f0) - (wrap64 (x10 - ((rd_T57 x7 x13).f1)))))) x108001) else (none)) else (none)) else (if x8.length < 8796093022208 then (isobathref02_pulls.l0 k x2 x7 (x8 ++ [(⟨x108000, x108001⟩ : S57)]) x9 x10 (wrap64 (x11 + 1))) else (none))
end
end Go.Proofs.Ytebcmhajbjkojaa.P
namespace Go.Proofs.Ytebcmhajbjkojaa.P
open Go.RowKit Go.Proofs.YtebcmhajbjkojaaW.PrintWords Go.Proofs.YtebcmhajbjkojaaW.PrintLast Go.Proofs.YtebcmhajbjkojaaW.PrintMore
attribute [local go_sem] max2_int min2_int max_two min_two max_three min_three max_four min_four   -- for this text's walks alone
set_option linter.unusedVariables false
set_option linter.unusedSimpArgs false
theorem mx_max (a b : Int) : mx a b = max a b := by
 unfold mx
 by_cases h : a < b
 ·rw [if_pos h]; omega
 ·rw [if_neg h]; omega
theorem mn_min (a b : Int) : mn a b = min a b := by
 unfold mn
 by_cases h : b < a
 ·rw [if_pos h]; omega
 ·rw [if_neg h]; omega
theorem Moor.take_bound {on : List S57} (h40 : on.length ≤ 40) (hon : ∀ x ∈ on, Moor.onB x) (i : Nat) : 0 ≤ Moor.slo (on.take i) ∧ Moor.slo (on.take i) ≤ 24000000 ∧ 0 ≤ Moor.shi (on.take i) ∧ Moor.shi (on.take i) ≤ 24000000 ∧ 0 ≤ Moor.most 0 (on.take i) ∧ Moor.most 0 (on.take i) ≤ 1200000 := by
 have b1 := Moor.slo_bound (on := on.take i) (fun y hy => hon y (List.mem_of_mem_take hy))
 have b2 := Moor.most_bound (on := on.take i) (fun y hy => hon y (List.mem_of_mem_take hy)) 0 (by omega) (by omega)
 have b3 : (on.take i).length ≤ 40 := by rw [List.length_take]; omega
 omega
end Go.Proofs.Ytebcmhajbjkojaa.P
