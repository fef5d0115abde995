/- For all moorings that stand, all currents that are valid and all parts: with the currents that are narrower by these parts each span lies in the former one, the watch circle is not greater, and an answer Yes or No stays; on other inputs the statement says that the examples of the chapter hold. The table of the verdicts is tied to the text of the program, as the card asks. Part 5 of 5. -/
-- Put together by wip/tools/shake.py, a program of this work: out of the words that the kit's print tool (print.sh) writes for a claim and what wip/tools/xprint.py prints, those that this claim reaches, and this work's own texts.
import Derived.Deep.Slices
import Derived.Test.YtebcmhajbjkojaaDoorRows
import Derived.WalkKit
import Derived.ProofKit
import Derived.OpenShut
import Derived.ShutString
import Derived.ChangeOld
import Derived.Below
import Derived.SizedLaws
import Derived.Carry
import Derived.Handy
import Derived.Lay
import Derived.SevenTiedAt
import Derived.Test.YtebcmhajbjkojaaDoorTie
import Derived.Test.YtebcmhajbjkojaaDoorCards
import Derived.KernelRfl
import Derived.Laws.EntriesVeiled
import Derived.Outline
import Derived.Test.YtebcmhajbjkojaaDoorKMooringNarrower3
namespace Go.Proofs.YtebcmhajbjkojaaDoor.P
open Go.RowKit Go.Proofs.YtebcmhajbjkojaaDoorW.PrintWords Go.Proofs.YtebcmhajbjkojaaDoorW.PrintLast Go.Proofs.YtebcmhajbjkojaaDoorW.PrintMore
attribute [local go_sem] max2_int min2_int max_two min_two max_three min_three max_four min_four   -- for this text's walks alone
set_option linter.unusedVariables false
set_option linter.unusedSimpArgs false
mutual
def isobathlaw02_MooringNarrower.j0 : Nat → List (S52) → Bool → List (S52) → Bool → Int → List (S56) → Int → Int → Option (Bool)
  | 0, _, _, _, _, _, _, _, _ => none
  | k + 1, x1, x2, x9, x92, x102000, x102001, x102002, x102003 => if x92 = true then (none) else ((mooring_Circle.f x102000 x102001 x102002 x102003 x1 x2).bind fun bt132 => ((mooring_Circle.f x102000 x102001 x102002 x102003 x9 x2).bind fun bt134 => ((mooring_Strong.f x102000 x102001 x102002 x102003 x1 x2).bind fun bt136 => ((mooring_Strong.f x102000 x102001 x102002 x102003 x9 x2).bind fun bt140 => ((mooring_Holds.f x102000 x102001 x102002 x102003 x1 x2).bind fun bt144 => ((mooring_Holds.f x102000 x102001 x102002 x102003 x9 x2).bind fun bt146 => (if (wrap64 ((wrap64 ((wrap64 ((wrap64 ((wrap64 (bt132.2 + bt134.2)) + bt136.2)) + bt140.2)) + bt144.2)) + bt146.2)) = 0 then (if bt134.1 > bt132.1 then (none) else (if (bt136.1.length : Int) = (bt140.1.length : Int) then (if bt144.1 = 1 then (isobathlaw02_MooringNarrower.j1 k bt136.1 bt140.1 false) else (isobathlaw02_MooringNarrower.j1 k bt136.1 bt140.1 (bt146.1 != bt144.1))) else (none))) else (none))))))))
def isobathlaw02_MooringNarrower.j1 : Nat → List Int → List Int → Bool → Option (Bool)
  | 0, _, _, _ => none
  | k + 1, x22, x23, x167 => if x167 = true then (none) else (isobathlaw02_MooringNarrower.l0 k x22 x23 0)
def isobathlaw02_MooringNarrower.l0 : Nat → List Int → List Int → Int → Option (Bool)
  | 0, _, _, _ => none
  | k + 1, x22, x23, x28 => if x28 < (x22.length : Int) then (if 0 ≤ x28 then (if (rd x22 x28) = 1 then (isobathlaw02_MooringNarrower.l0 k x22 x23 (wrap64 (x28 + 1))) else (if x28 < (x23.length : Int) then (if (rd x23 x28) = (rd x22 x28) then (isobathlaw02_MooringNarrower.l0 k x22 x23 (wrap64 (x28 + 1))) else (none)) else (none))) else (none)) else ((isobathlaw02_fine.f k).bind fun t151 => (some t151))
end
def isobathlaw02_MooringNarrower.f (k : Nat) (a0_0 : Int) (l0_1 : List (S56)) (a0_2 : Int) (a0_3 : Int) (l1 : List (S52)) (a2 : Bool) (l3 : List Int) : Option (Bool) := (isobathlaw02_valid.f k a0_0 l0_1 a0_2 a0_3 l1).bind fun t102 => (if t102 = true then ((isobathlaw02_narrow.f k l1 l3).bind fun t104 => ((mooring_Tensions.f a0_0 l0_1 a0_2 a0_3 l1 a2).bind fun bt107 => ((mooring_Tensions.f a0_0 l0_1 a0_2 a0_3 t104 a2).bind fun bt111 => ((mooring_Shape.f a0_0 l0_1 a0_2 a0_3 l1 a2).bind fun bt115 => ((mooring_Shape.f a0_0 l0_1 a0_2 a0_3 t104 a2).bind fun bt122 => (if (wrap64 ((wrap64 ((wrap64 (bt107.2 + bt111.2)) + bt115.2.2)) + bt122.2.2)) = 0 then ((isobathlaw02_inside.f k bt111.1 bt107.1).bind fun t129 => (if t129 = true then ((isobathlaw02_inside.f k bt122.1 bt115.1).bind fun t130 => (if t130 = true then ((isobathlaw02_inside.f k bt122.2.1 bt115.2.1).bind fun t131 => (isobathlaw02_MooringNarrower.j0 k l1 a2 t104 (!t131) a0_0 l0_1 a0_2 a0_3)) else (none))) else (none))) else (none))))))) else ((isobathlaw02_fine.f k).bind fun t103 => (some t103)))
set_option maxHeartbeats 8000000 in
set_option maxRecDepth 100000 in
theorem isobathlaw02_MooringNarrower.calls (k : Nat) (a0_0 : Int) (A0_1 : Option Addr) (c0_1 : Nat) (l0_1 : List (S56)) (a0_2 : Int) (a0_3 : Int) (A1 : Option Addr) (c1 : Nat) (l1 : List (S52)) (a2 : Bool) (A3 : Option Addr) (c3 : Nat) (l3 : List Int) (r : Bool) (w : World) (hr0_1 : Kd.C k56 w A0_1 l0_1.length l0_1) (hc0_1 : l0_1.length ≤ c0_1) (hr1 : Kd.C k52 w A1 l1.length l1) (hc1 : l1.length ≤ c1) (hr3 : Kd.C (Kd.int .u8) w A3 l3.length l3) (hc3 : l3.length ≤ c3) (hV : Verd w) (h : isobathlaw02_MooringNarrower.f k a0_0 l0_1 a0_2 a0_3 l1 a2 l3 = some r) :
    Calls Tryd.prog 4 #[.agg #[.int .i64 a0_0, .slice A0_1 l0_1.length c0_1, .int .i64 a0_2, .int .i64 a0_3], .slice A1 l1.length c1, .bool a2, .slice A3 l3.length c3] w fun e w' => e = .returned (.bool r) ∧ Below w.heap.size w w' := by
  have HV_ := Aside0.mk hV
  clear hV
  have hu24 := Tryd.underlying24
  have HR0_1 := Aside0.mk hr0_1
  have HC0_1 := Aside0.mk hc0_1
  clear hr0_1 hc0_1
  have HR1 := Aside0.mk hr1
  have HC1 := Aside0.mk hc1
  clear hr1 hc1
  have HR3 := Aside0.mk hr3
  have HC3 := Aside0.mk hc3
  clear hr3 hc3
  have HB := Aside0.mk (Below.refl w.heap.size w)
  have H : ((isobathlaw02_valid.f k a0_0 l0_1 a0_2 a0_3 l1).bind fun t102 => (if t102 = true then ((isobathlaw02_narrow.f k l1 l3).bind fun t104 => ((mooring_Tensions.f a0_0 l0_1 a0_2 a0_3 l1 a2).bind fun bt107 => ((mooring_Tensions.f a0_0 l0_1 a0_2 a0_3 t104 a2).bind fun bt111 => ((mooring_Shape.f a0_0 l0_1 a0_2 a0_3 l1 a2).bind fun bt115 => ((mooring_Shape.f a0_0 l0_1 a0_2 a0_3 t104 a2).bind fun bt122 => (if (wrap64 ((wrap64 ((wrap64 (bt107.2 + bt111.2)) + bt115.2.2)) + bt122.2.2)) = 0 then ((isobathlaw02_inside.f k bt111.1 bt107.1).bind fun t129 => (if t129 = true then ((isobathlaw02_inside.f k bt122.1 bt115.1).bind fun t130 => (if t130 = true then ((isobathlaw02_inside.f k bt122.2.1 bt115.2.1).bind fun t131 => (isobathlaw02_MooringNarrower.j0 k l1 a2 t104 (!t131) a0_0 l0_1 a0_2 a0_3)) else (none))) else (none))) else (none))))))) else ((isobathlaw02_fine.f k).bind fun t103 => (some t103)))) = some r := h
  clear h
  replace H := Option.bind_eq_some_iff.mp H
  obtain ⟨t102, A50, H⟩ := H
  replace H : (if t102 = true then ((isobathlaw02_narrow.f k l1 l3).bind fun t104 => ((mooring_Tensions.f a0_0 l0_1 a0_2 a0_3 l1 a2).bind fun bt107 => ((mooring_Tensions.f a0_0 l0_1 a0_2 a0_3 t104 a2).bind fun bt111 => ((mooring_Shape.f a0_0 l0_1 a0_2 a0_3 l1 a2).bind fun bt115 => ((mooring_Shape.f a0_0 l0_1 a0_2 a0_3 t104 a2).bind fun bt122 => (if (wrap64 ((wrap64 ((wrap64 (bt107.2 + bt111.2)) + bt115.2.2)) + bt122.2.2)) = 0 then ((isobathlaw02_inside.f k bt111.1 bt107.1).bind fun t129 => (if t129 = true then ((isobathlaw02_inside.f k bt122.1 bt115.1).bind fun t130 => (if t130 = true then ((isobathlaw02_inside.f k bt122.2.1 bt115.2.1).bind fun t131 => (isobathlaw02_MooringNarrower.j0 k l1 a2 t104 (!t131) a0_0 l0_1 a0_2 a0_3)) else (none))) else (none))) else (none))))))) else ((isobathlaw02_fine.f k).bind fun t103 => (some t103))) = some r := H
  have A5 := Aside0.mk A50
  clear A50
  by_cases c6 : t102 = true
  · subst c6
    have H1 : ((isobathlaw02_narrow.f k l1 l3).bind fun t104 => ((mooring_Tensions.f a0_0 l0_1 a0_2 a0_3 l1 a2).bind fun bt107 => ((mooring_Tensions.f a0_0 l0_1 a0_2 a0_3 t104 a2).bind fun bt111 => ((mooring_Shape.f a0_0 l0_1 a0_2 a0_3 l1 a2).bind fun bt115 => ((mooring_Shape.f a0_0 l0_1 a0_2 a0_3 t104 a2).bind fun bt122 => (if (wrap64 ((wrap64 ((wrap64 (bt107.2 + bt111.2)) + bt115.2.2)) + bt122.2.2)) = 0 then ((isobathlaw02_inside.f k bt111.1 bt107.1).bind fun t129 => (if t129 = true then ((isobathlaw02_inside.f k bt122.1 bt115.1).bind fun t130 => (if t130 = true then ((isobathlaw02_inside.f k bt122.2.1 bt115.2.1).bind fun t131 => (isobathlaw02_MooringNarrower.j0 k l1 a2 t104 (!t131) a0_0 l0_1 a0_2 a0_3)) else (none))) else (none))) else (none))))))) = some r := by rw [if_pos rfl] at H; exact H
    clear H
    have H := H1
    clear H1
    replace H := Option.bind_eq_some_iff.mp H
    obtain ⟨t104, A70, H⟩ := H
    replace H : ((mooring_Tensions.f a0_0 l0_1 a0_2 a0_3 l1 a2).bind fun bt107 => ((mooring_Tensions.f a0_0 l0_1 a0_2 a0_3 t104 a2).bind fun bt111 => ((mooring_Shape.f a0_0 l0_1 a0_2 a0_3 l1 a2).bind fun bt115 => ((mooring_Shape.f a0_0 l0_1 a0_2 a0_3 t104 a2).bind fun bt122 => (if (wrap64 ((wrap64 ((wrap64 (bt107.2 + bt111.2)) + bt115.2.2)) + bt122.2.2)) = 0 then ((isobathlaw02_inside.f k bt111.1 bt107.1).bind fun t129 => (if t129 = true then ((isobathlaw02_inside.f k bt122.1 bt115.1).bind fun t130 => (if t130 = true then ((isobathlaw02_inside.f k bt122.2.1 bt115.2.1).bind fun t131 => (isobathlaw02_MooringNarrower.j0 k l1 a2 t104 (!t131) a0_0 l0_1 a0_2 a0_3)) else (none))) else (none))) else (none)))))) = some r := H
    have A7 := Aside0.mk A70
    clear A70
    replace H := Option.bind_eq_some_iff.mp H
    obtain ⟨⟨t107, t110⟩, A80, H⟩ := H
    replace H : ((mooring_Tensions.f a0_0 l0_1 a0_2 a0_3 t104 a2).bind fun bt111 => ((mooring_Shape.f a0_0 l0_1 a0_2 a0_3 l1 a2).bind fun bt115 => ((mooring_Shape.f a0_0 l0_1 a0_2 a0_3 t104 a2).bind fun bt122 => (if (wrap64 ((wrap64 ((wrap64 (t110 + bt111.2)) + bt115.2.2)) + bt122.2.2)) = 0 then ((isobathlaw02_inside.f k bt111.1 t107).bind fun t129 => (if t129 = true then ((isobathlaw02_inside.f k bt122.1 bt115.1).bind fun t130 => (if t130 = true then ((isobathlaw02_inside.f k bt122.2.1 bt115.2.1).bind fun t131 => (isobathlaw02_MooringNarrower.j0 k l1 a2 t104 (!t131) a0_0 l0_1 a0_2 a0_3)) else (none))) else (none))) else (none))))) = some r := H
    have A8 := Aside0.mk A80
    clear A80
    replace H := Option.bind_eq_some_iff.mp H
    obtain ⟨⟨t111, t114⟩, A90, H⟩ := H
    replace H : ((mooring_Shape.f a0_0 l0_1 a0_2 a0_3 l1 a2).bind fun bt115 => ((mooring_Shape.f a0_0 l0_1 a0_2 a0_3 t104 a2).bind fun bt122 => (if (wrap64 ((wrap64 ((wrap64 (t110 + t114)) + bt115.2.2)) + bt122.2.2)) = 0 then ((isobathlaw02_inside.f k t111 t107).bind fun t129 => (if t129 = true then ((isobathlaw02_inside.f k bt122.1 bt115.1).bind fun t130 => (if t130 = true then ((isobathlaw02_inside.f k bt122.2.1 bt115.2.1).bind fun t131 => (isobathlaw02_MooringNarrower.j0 k l1 a2 t104 (!t131) a0_0 l0_1 a0_2 a0_3)) else (none))) else (none))) else (none)))) = some r := H
    have A9 := Aside0.mk A90
    clear A90
    replace H := Option.bind_eq_some_iff.mp H
    obtain ⟨⟨t115, t118, t121⟩, A100, H⟩ := H
    replace H : ((mooring_Shape.f a0_0 l0_1 a0_2 a0_3 t104 a2).bind fun bt122 => (if (wrap64 ((wrap64 ((wrap64 (t110 + t114)) + t121)) + bt122.2.2)) = 0 then ((isobathlaw02_inside.f k t111 t107).bind fun t129 => (if t129 = true then ((isobathlaw02_inside.f k bt122.1 t115).bind fun t130 => (if t130 = true then ((isobathlaw02_inside.f k bt122.2.1 t118).bind fun t131 => (isobathlaw02_MooringNarrower.j0 k l1 a2 t104 (!t131) a0_0 l0_1 a0_2 a0_3)) else (none))) else (none))) else (none))) = some r := H
    have A10 := Aside0.mk A100
    clear A100
    replace H := Option.bind_eq_some_iff.mp H
    obtain ⟨⟨t122, t125, t128⟩, A110, H⟩ := H
    replace H : (if (wrap64 ((wrap64 ((wrap64 (t110 + t114)) + t121)) + t128)) = 0 then ((isobathlaw02_inside.f k t111 t107).bind fun t129 => (if t129 = true then ((isobathlaw02_inside.f k t122 t115).bind fun t130 => (if t130 = true then ((isobathlaw02_inside.f k t125 t118).bind fun t131 => (isobathlaw02_MooringNarrower.j0 k l1 a2 t104 (!t131) a0_0 l0_1 a0_2 a0_3)) else (none))) else (none))) else (none)) = some r := H
    have A11 := Aside0.mk A110
    clear A110
    have HC12 := Aside0.mk H
    clear H
    go_enter Tryd.func4, Tryd.ntmps4
    go_upto_region 8 with (first | ((with_reducible refine gate_dst (N := 4) rfl ?_); (try (refine gate_guard (by rfl) ?_; dsimp only)); refine box_event ?hg (N := 4) ?hd (cs := #[.int .i64 a0_0, .slice A0_1 l0_1.length c0_1, .int .i64 a0_2, .int .i64 a0_3]) (t := 24) ?hr ?_; (case hd => rfl); (case hg => rfl); (case hr => first | (go_simp; done) | (go_simp; rfl)); intro gb101 hg w13 hbox hb; have n0_ := Aside0.mk (below_step (by repeat (first | (with_reducible first | exact HB.out | apply below_alloc | apply pw_below_drewN | apply below_drew1) | exact HB.out)) hb); have n1_ := Aside0.mk (hbox); have n2_ := Aside0.mk ((by rw [hg]; exact (below_size (by repeat (first | (with_reducible first | exact HB.out | apply below_alloc | apply pw_below_drewN | apply below_drew1) | exact HB.out))) : w.heap.size ≤ gb101)); have n3_ := Aside0.mk ((by rw [hg]; exact (below_size (by repeat (first | (with_reducible first | exact HB.out | apply below_alloc | apply pw_below_drewN | apply below_drew1) | exact HB.out))) : w.heap.size ≤ gb101)); clear HB; have HB := n0_; have BK101 := n1_; have GW101 := n2_; have GE101 := n3_; clear n0_ n1_ n2_ n3_; clear hb hbox hg; have hcz14_0 : w13.cell? ⟨gb101, 0, none⟩ = some (.int .i64 a0_0) := (blk_cell BK101.out 0).trans rfl; have hcz14_1 : w13.cell? ⟨gb101, 1, none⟩ = some (.slice A0_1 l0_1.length c0_1) := (blk_cell BK101.out 1).trans rfl; have hcz14_2 : w13.cell? ⟨gb101, 2, none⟩ = some (.int .i64 a0_2) := (blk_cell BK101.out 2).trans rfl; have hcz14_3 : w13.cell? ⟨gb101, 3, none⟩ = some (.int .i64 a0_3) := (blk_cell BK101.out 3).trans rfl; have hfz14_0 := blk_frozen BK101.out 0; have hfz14_1 := blk_frozen BK101.out 1; have hfz14_2 := blk_frozen BK101.out 2; have hfz14_3 := blk_frozen BK101.out 3) | (go_at_call 16; (with_reducible refine (isobathlaw02_valid.calls k a0_0 _ _ l0_1 a0_2 a0_3 _ _ l1 true _ ?side1 ?side2 ?side3 ?side4 A5.out).mono ?_); (case side1 => repeat (first | exact (Kd.C_below HR0_1.out HB.out) | (with_reducible refine Kd.C_alloc ?_ _) | (with_reducible refine Kd.C_drewN ?_ _) | (with_reducible refine Kd.C_drew ?_))); (case side2 => exact HC0_1.out); (case side3 => repeat (first | exact (Kd.C_below HR1.out HB.out) | (with_reducible refine Kd.C_alloc ?_ _) | (with_reducible refine Kd.C_drewN ?_ _) | (with_reducible refine Kd.C_drew ?_))); (case side4 => exact HC1.out); rintro e w15 ⟨rfl, hb⟩; have n0_ := Aside0.mk (blk_below (g := gb101) (o := .cells #[.int .i64 a0_0, .slice A0_1 l0_1.length c0_1, .int .i64 a0_2, .int .i64 a0_3] 24 (0, 0)) (by (with_reducible repeat (first | refine blk_drewN ?_ _ | refine blk_drew ?_ | refine blk_alloc ?_ _)); exact BK101.out) hb); have n1_ := Aside0.mk (below_step (by repeat (first | (with_reducible first | exact HB.out | apply below_alloc | apply pw_below_drewN | apply below_drew1 | refine below_set ?_ GE101.out) | exact HB.out)) hb); clear BK101; clear HB; have BK101 := n0_; have HB := n1_; clear n0_ n1_; (try clear hb); (try clear hb2); (try clear hk); (try clear hi)) | (go_at_call 17; (with_reducible refine (isobathlaw02_narrow.calls k _ _ l1 _ _ l3 t104 _ ?side1 ?side2 ?side3 ?side4 A7.out).mono ?_); (case side1 => repeat (first | exact (Kd.C_below HR1.out HB.out) | (with_reducible refine Kd.C_alloc ?_ _) | (with_reducible refine Kd.C_drewN ?_ _) | (with_reducible refine Kd.C_drew ?_))); (case side2 => exact HC1.out); (case side3 => repeat (first | exact (Kd.C_below HR3.out HB.out) | (with_reducible refine Kd.C_alloc ?_ _) | (with_reducible refine Kd.C_drewN ?_ _) | (with_reducible refine Kd.C_drew ?_))); (case side4 => exact HC3.out); rintro e w16 ⟨v105, rfl, ho0, hb⟩; have n0_ := Aside0.mk (Kd.R_lower ho0 (below_size (by repeat (first | (with_reducible first | exact HB.out | apply below_alloc | apply pw_below_drewN | apply below_drew1 | refine below_set ?_ GE101.out) | exact HB.out)))); have n1_ := Aside0.mk (blk_below (g := gb101) (o := .cells #[.int .i64 a0_0, .slice A0_1 l0_1.length c0_1, .int .i64 a0_2, .int .i64 a0_3] 24 (0, 0)) (by (with_reducible repeat (first | refine blk_drewN ?_ _ | refine blk_drew ?_ | refine blk_alloc ?_ _)); exact BK101.out) hb); have n2_ := Aside0.mk (below_step (by repeat (first | (with_reducible first | exact HB.out | apply below_alloc | apply pw_below_drewN | apply below_drew1 | refine below_set ?_ GE101.out) | exact HB.out)) hb); clear BK101; clear HB; have HO106 := n0_; have BK101 := n1_; have HB := n2_; clear n0_ n1_ n2_; (try clear hb); (try clear hb2); (try clear hk); (try clear hi); (try clear ho0); have hcz17_0 : w16.cell? ⟨gb101, 0, none⟩ = some (.int .i64 a0_0) := (blk_cell BK101.out 0).trans rfl; have hcz17_1 : w16.cell? ⟨gb101, 1, none⟩ = some (.slice A0_1 l0_1.length c0_1) := (blk_cell BK101.out 1).trans rfl; have hcz17_2 : w16.cell? ⟨gb101, 2, none⟩ = some (.int .i64 a0_2) := (blk_cell BK101.out 2).trans rfl; have hcz17_3 : w16.cell? ⟨gb101, 3, none⟩ = some (.int .i64 a0_3) := (blk_cell BK101.out 3).trans rfl; have hfz17_0 := blk_frozen BK101.out 0; have hfz17_1 := blk_frozen BK101.out 1; have hfz17_2 := blk_frozen BK101.out 2; have hfz17_3 := blk_frozen BK101.out 3) | (go_at_call 18; (with_reducible refine (mooring_Tensions.calls a0_0 _ _ l0_1 a0_2 a0_3 _ _ l1 a2 t107 t110 _ ?side1 ?side2 ?side3 ?side4 A8.out).mono ?_); (case side1 => repeat (first | exact (Kd.C_below HR0_1.out HB.out) | (with_reducible refine Kd.C_alloc ?_ _) | (with_reducible refine Kd.C_drewN ?_ _) | (with_reducible refine Kd.C_drew ?_))); (case side2 => exact HC0_1.out); (case side3 => repeat (first | exact (Kd.C_below HR1.out HB.out) | (with_reducible refine Kd.C_alloc ?_ _) | (with_reducible refine Kd.C_drewN ?_ _) | (with_reducible refine Kd.C_drew ?_))); (case side4 => exact HC1.out); rintro e w18 ⟨v108, rfl, ho0, hb⟩; have n0_ := Aside0.mk (Kd.R_elder' (by (with_reducible repeat (first | apply Kd.R_alloc | apply Kd.R_drewN | apply Kd.R_drew)); exact HO106.out) (Kd.R_base ho0) hb); have n1_ := Aside0.mk (Kd.R_lower (Kd.R_new' ho0 (Kd.R_lt (by (with_reducible repeat (first | apply Kd.R_alloc | apply Kd.R_drewN | apply Kd.R_drew)); exact HO106.out))) (below_size (by repeat (first | (with_reducible first | exact HB.out | apply below_alloc | apply pw_below_drewN | apply below_drew1 | refine below_set ?_ GE101.out) | exact HB.out)))); have n2_ := Aside0.mk (blk_below (g := gb101) (o := .cells #[.int .i64 a0_0, .slice A0_1 l0_1.length c0_1, .int .i64 a0_2, .int .i64 a0_3] 24 (0, 0)) (by (with_reducible repeat (first | refine blk_drewN ?_ _ | refine blk_drew ?_ | refine blk_alloc ?_ _)); exact BK101.out) hb); have n3_ := Aside0.mk (below_step (by repeat (first | (with_reducible first | exact HB.out | apply below_alloc | apply pw_below_drewN | apply below_drew1 | refine below_set ?_ GE101.out) | exact HB.out)) hb); clear HO106; clear BK101; clear HB; have HO106 := n0_; have HO109 := n1_; have BK101 := n2_; have HB := n3_; clear n0_ n1_ n2_ n3_; (try clear hb); (try clear hb2); (try clear hk); (try clear hi); (try clear ho0); have hcz19_0 : w18.cell? ⟨gb101, 0, none⟩ = some (.int .i64 a0_0) := (blk_cell BK101.out 0).trans rfl; have hcz19_1 : w18.cell? ⟨gb101, 1, none⟩ = some (.slice A0_1 l0_1.length c0_1) := (blk_cell BK101.out 1).trans rfl; have hcz19_2 : w18.cell? ⟨gb101, 2, none⟩ = some (.int .i64 a0_2) := (blk_cell BK101.out 2).trans rfl; have hcz19_3 : w18.cell? ⟨gb101, 3, none⟩ = some (.int .i64 a0_3) := (blk_cell BK101.out 3).trans rfl; have hfz19_0 := blk_frozen BK101.out 0; have hfz19_1 := blk_frozen BK101.out 1; have hfz19_2 := blk_frozen BK101.out 2; have hfz19_3 := blk_frozen BK101.out 3; obtain ⟨Ao20, co20, eo20⟩ := Kd.R_slice HO106.out; subst eo20) | (go_at_call 18; (with_reducible refine (mooring_Tensions.calls a0_0 _ _ l0_1 a0_2 a0_3 _ _ t104 a2 t111 t114 _ ?side1 ?side2 ?side3 ?side4 A9.out).mono ?_); (case side1 => repeat (first | exact (Kd.C_below HR0_1.out HB.out) | (with_reducible refine Kd.C_alloc ?_ _) | (with_reducible refine Kd.C_drewN ?_ _) | (with_reducible refine Kd.C_drew ?_))); (case side2 => exact HC0_1.out); (case side3 => repeat (first | exact (Kd.R_reads' HO106.out).2.2 | (with_reducible refine Kd.C_alloc ?_ _) | (with_reducible refine Kd.C_drewN ?_ _) | (with_reducible refine Kd.C_drew ?_))); (case side4 => exact (Kd.R_reads' HO106.out).2.1); rintro e w21 ⟨v112, rfl, ho0, hb⟩; have n0_ := Aside0.mk (Kd.R_elder' (by (with_reducible repeat (first | apply Kd.R_alloc | apply Kd.R_drewN | apply Kd.R_drew)); exact HO106.out) (Kd.R_base ho0) hb); have n1_ := Aside0.mk (Kd.R_elder' (by (with_reducible repeat (first | apply Kd.R_alloc | apply Kd.R_drewN | apply Kd.R_drew)); exact HO109.out) (Kd.R_base ho0) hb); have n2_ := Aside0.mk (Kd.R_lower (Kd.R_new' (Kd.R_new' ho0 (Kd.R_lt (by (with_reducible repeat (first | apply Kd.R_alloc | apply Kd.R_drewN | apply Kd.R_drew)); exact HO106.out))) (Kd.R_lt (by (with_reducible repeat (first | apply Kd.R_alloc | apply Kd.R_drewN | apply Kd.R_drew)); exact HO109.out))) (below_size (by repeat (first | (with_reducible first | exact HB.out | apply below_alloc | apply pw_below_drewN | apply below_drew1 | refine below_set ?_ GE101.out) | exact HB.out)))); have n3_ := Aside0.mk (blk_below (g := gb101) (o := .cells #[.int .i64 a0_0, .slice A0_1 l0_1.length c0_1, .int .i64 a0_2, .int .i64 a0_3] 24 (0, 0)) (by (with_reducible repeat (first | refine blk_drewN ?_ _ | refine blk_drew ?_ | refine blk_alloc ?_ _)); exact BK101.out) hb); have n4_ := Aside0.mk (below_step (by repeat (first | (with_reducible first | exact HB.out | apply below_alloc | apply pw_below_drewN | apply below_drew1 | refine below_set ?_ GE101.out) | exact HB.out)) hb); clear HO106; clear HO109; clear BK101; clear HB; have HO106 := n0_; have HO109 := n1_; have HO113 := n2_; have BK101 := n3_; have HB := n4_; clear n0_ n1_ n2_ n3_ n4_; (try clear hb); (try clear hb2); (try clear hk); (try clear hi); (try clear ho0); have hcz22_0 : w21.cell? ⟨gb101, 0, none⟩ = some (.int .i64 a0_0) := (blk_cell BK101.out 0).trans rfl; have hcz22_1 : w21.cell? ⟨gb101, 1, none⟩ = some (.slice A0_1 l0_1.length c0_1) := (blk_cell BK101.out 1).trans rfl; have hcz22_2 : w21.cell? ⟨gb101, 2, none⟩ = some (.int .i64 a0_2) := (blk_cell BK101.out 2).trans rfl; have hcz22_3 : w21.cell? ⟨gb101, 3, none⟩ = some (.int .i64 a0_3) := (blk_cell BK101.out 3).trans rfl; have hfz22_0 := blk_frozen BK101.out 0; have hfz22_1 := blk_frozen BK101.out 1; have hfz22_2 := blk_frozen BK101.out 2; have hfz22_3 := blk_frozen BK101.out 3) | (go_at_call 19; (with_reducible refine (mooring_Shape.calls a0_0 _ _ l0_1 a0_2 a0_3 _ _ l1 a2 t115 t118 t121 _ ?side1 ?side2 ?side3 ?side4 A10.out).mono ?_); (case side1 => repeat (first | exact (Kd.C_below HR0_1.out HB.out) | (with_reducible refine Kd.C_alloc ?_ _) | (with_reducible refine Kd.C_drewN ?_ _) | (with_reducible refine Kd.C_drew ?_))); (case side2 => exact HC0_1.out); (case side3 => repeat (first | exact (Kd.C_below HR1.out HB.out) | (with_reducible refine Kd.C_alloc ?_ _) | (with_reducible refine Kd.C_drewN ?_ _) | (with_reducible refine Kd.C_drew ?_))); (case side4 => exact HC1.out); rintro e w23 ⟨v116, v119, rfl, ho0, ho1, hb⟩; have n0_ := Aside0.mk (Kd.R_mono (Kd.R_told (Kd.R_told (Kd.R_old (by (with_reducible repeat (first | apply Kd.R_alloc | apply Kd.R_drewN | apply Kd.R_drew)); exact HO106.out) hb) (Kd.R_base ho0)) (Kd.R_base ho1)) (fun _ h_ => h_.1)); have n1_ := Aside0.mk (Kd.R_mono (Kd.R_told (Kd.R_told (Kd.R_old (by (with_reducible repeat (first | apply Kd.R_alloc | apply Kd.R_drewN | apply Kd.R_drew)); exact HO109.out) hb) (Kd.R_base ho0)) (Kd.R_base ho1)) (fun _ h_ => h_.1)); have n2_ := Aside0.mk (Kd.R_mono (Kd.R_told (Kd.R_told (Kd.R_old (by (with_reducible repeat (first | apply Kd.R_alloc | apply Kd.R_drewN | apply Kd.R_drew)); exact HO113.out) hb) (Kd.R_base ho0)) (Kd.R_base ho1)) (fun _ h_ => h_.1)); have n3_ := Aside0.mk (Kd.R_lower (Kd.R_new' (Kd.R_new' (Kd.R_new' ho0 (Kd.R_lt (by (with_reducible repeat (first | apply Kd.R_alloc | apply Kd.R_drewN | apply Kd.R_drew)); exact HO106.out))) (Kd.R_lt (by (with_reducible repeat (first | apply Kd.R_alloc | apply Kd.R_drewN | apply Kd.R_drew)); exact HO109.out))) (Kd.R_lt (by (with_reducible repeat (first | apply Kd.R_alloc | apply Kd.R_drewN | apply Kd.R_drew)); exact HO113.out))) (below_size (by repeat (first | (with_reducible first | exact HB.out | apply below_alloc | apply pw_below_drewN | apply below_drew1 | refine below_set ?_ GE101.out) | exact HB.out)))); have n4_ := Aside0.mk (Kd.R_lower (Kd.R_new' (Kd.R_new' (Kd.R_new' ho1 (Kd.R_lt (by (with_reducible repeat (first | apply Kd.R_alloc | apply Kd.R_drewN | apply Kd.R_drew)); exact HO106.out))) (Kd.R_lt (by (with_reducible repeat (first | apply Kd.R_alloc | apply Kd.R_drewN | apply Kd.R_drew)); exact HO109.out))) (Kd.R_lt (by (with_reducible repeat (first | apply Kd.R_alloc | apply Kd.R_drewN | apply Kd.R_drew)); exact HO113.out))) (below_size (by repeat (first | (with_reducible first | exact HB.out | apply below_alloc | apply pw_below_drewN | apply below_drew1 | refine below_set ?_ GE101.out) | exact HB.out)))); have n5_ := Aside0.mk (blk_below (g := gb101) (o := .cells #[.int .i64 a0_0, .slice A0_1 l0_1.length c0_1, .int .i64 a0_2, .int .i64 a0_3] 24 (0, 0)) (by (with_reducible repeat (first | refine blk_drewN ?_ _ | refine blk_drew ?_ | refine blk_alloc ?_ _)); exact BK101.out) hb); have n6_ := Aside0.mk (below_step (by repeat (first | (with_reducible first | exact HB.out | apply below_alloc | apply pw_below_drewN | apply below_drew1 | refine below_set ?_ GE101.out) | exact HB.out)) hb); clear HO106; clear HO109; clear HO113; clear BK101; clear HB; have HO106 := n0_; have HO109 := n1_; have HO113 := n2_; have HO117 := n3_; have HO120 := n4_; have BK101 := n5_; have HB := n6_; clear n0_ n1_ n2_ n3_ n4_ n5_ n6_; (try clear hb); (try clear hb2); (try clear hk); (try clear hi); (try clear ho0); (try clear ho1); have hcz24_0 : w23.cell? ⟨gb101, 0, none⟩ = some (.int .i64 a0_0) := (blk_cell BK101.out 0).trans rfl; have hcz24_1 : w23.cell? ⟨gb101, 1, none⟩ = some (.slice A0_1 l0_1.length c0_1) := (blk_cell BK101.out 1).trans rfl; have hcz24_2 : w23.cell? ⟨gb101, 2, none⟩ = some (.int .i64 a0_2) := (blk_cell BK101.out 2).trans rfl; have hcz24_3 : w23.cell? ⟨gb101, 3, none⟩ = some (.int .i64 a0_3) := (blk_cell BK101.out 3).trans rfl; have hfz24_0 := blk_frozen BK101.out 0; have hfz24_1 := blk_frozen BK101.out 1; have hfz24_2 := blk_frozen BK101.out 2; have hfz24_3 := blk_frozen BK101.out 3) | (go_at_call 19; (with_reducible refine (mooring_Shape.calls a0_0 _ _ l0_1 a0_2 a0_3 _ _ t104 a2 t122 t125 t128 _ ?side1 ?side2 ?side3 ?side4 A11.out).mono ?_); (case side1 => repeat (first | exact (Kd.C_below HR0_1.out HB.out) | (with_reducible refine Kd.C_alloc ?_ _) | (with_reducible refine Kd.C_drewN ?_ _) | (with_reducible refine Kd.C_drew ?_))); (case side2 => exact HC0_1.out); (case side3 => repeat (first | exact (Kd.R_reads' HO106.out).2.2 | (with_reducible refine Kd.C_alloc ?_ _) | (with_reducible refine Kd.C_drewN ?_ _) | (with_reducible refine Kd.C_drew ?_))); (case side4 => exact (Kd.R_reads' HO106.out).2.1); rintro e w25 ⟨v123, v126, rfl, ho0, ho1, hb⟩; have n0_ := Aside0.mk (Kd.R_mono (Kd.R_told (Kd.R_told (Kd.R_old (by (with_reducible repeat (first | apply Kd.R_alloc | apply Kd.R_drewN | apply Kd.R_drew)); exact HO106.out) hb) (Kd.R_base ho0)) (Kd.R_base ho1)) (fun _ h_ => h_.1)); have n1_ := Aside0.mk (Kd.R_mono (Kd.R_told (Kd.R_told (Kd.R_old (by (with_reducible repeat (first | apply Kd.R_alloc | apply Kd.R_drewN | apply Kd.R_drew)); exact HO109.out) hb) (Kd.R_base ho0)) (Kd.R_base ho1)) (fun _ h_ => h_.1)); have n2_ := Aside0.mk (Kd.R_mono (Kd.R_told (Kd.R_told (Kd.R_old (by (with_reducible repeat (first | apply Kd.R_alloc | apply Kd.R_drewN | apply Kd.R_drew)); exact HO113.out) hb) (Kd.R_base ho0)) (Kd.R_base ho1)) (fun _ h_ => h_.1)); have n3_ := Aside0.mk (Kd.R_mono (Kd.R_told (Kd.R_told (Kd.R_old (by (with_reducible repeat (first | apply Kd.R_alloc | apply Kd.R_drewN | apply Kd.R_drew)); exact HO117.out) hb) (Kd.R_base ho0)) (Kd.R_base ho1)) (fun _ h_ => h_.1)); have n4_ := Aside0.mk (Kd.R_mono (Kd.R_told (Kd.R_told (Kd.R_old (by (with_reducible repeat (first | apply Kd.R_alloc | apply Kd.R_drewN | apply Kd.R_drew)); exact HO120.out) hb) (Kd.R_base ho0)) (Kd.R_base ho1)) (fun _ h_ => h_.1)); have n5_ := Aside0.mk (Kd.R_lower (Kd.R_new' (Kd.R_new' (Kd.R_new' (Kd.R_new' (Kd.R_new' ho0 (Kd.R_lt (by (with_reducible repeat (first | apply Kd.R_alloc | apply Kd.R_drewN | apply Kd.R_drew)); exact HO106.out))) (Kd.R_lt (by (with_reducible repeat (first | apply Kd.R_alloc | apply Kd.R_drewN | apply Kd.R_drew)); exact HO109.out))) (Kd.R_lt (by (with_reducible repeat (first | apply Kd.R_alloc | apply Kd.R_drewN | apply Kd.R_drew)); exact HO113.out))) (Kd.R_lt (by (with_reducible repeat (first | apply Kd.R_alloc | apply Kd.R_drewN | apply Kd.R_drew)); exact HO117.out))) (Kd.R_lt (by (with_reducible repeat (first | apply Kd.R_alloc | apply Kd.R_drewN | apply Kd.R_drew)); exact HO120.out))) (below_size (by repeat (first | (with_reducible first | exact HB.out | apply below_alloc | apply pw_below_drewN | apply below_drew1 | refine below_set ?_ GE101.out) | exact HB.out)))); have n6_ := Aside0.mk (Kd.R_lower (Kd.R_new' (Kd.R_new' (Kd.R_new' (Kd.R_new' (Kd.R_new' ho1 (Kd.R_lt (by (with_reducible repeat (first | apply Kd.R_alloc | apply Kd.R_drewN | apply Kd.R_drew)); exact HO106.out))) (Kd.R_lt (by (with_reducible repeat (first | apply Kd.R_alloc | apply Kd.R_drewN | apply Kd.R_drew)); exact HO109.out))) (Kd.R_lt (by (with_reducible repeat (first | apply Kd.R_alloc | apply Kd.R_drewN | apply Kd.R_drew)); exact HO113.out))) (Kd.R_lt (by (with_reducible repeat (first | apply Kd.R_alloc | apply Kd.R_drewN | apply Kd.R_drew)); exact HO117.out))) (Kd.R_lt (by (with_reducible repeat (first | apply Kd.R_alloc | apply Kd.R_drewN | apply Kd.R_drew)); exact HO120.out))) (below_size (by repeat (first | (with_reducible first | exact HB.out | apply below_alloc | apply pw_below_drewN | apply below_drew1 | refine below_set ?_ GE101.out) | exact HB.out)))); have n7_ := Aside0.mk (blk_below (g := gb101) (o := .cells #[.int .i64 a0_0, .slice A0_1 l0_1.length c0_1, .int .i64 a0_2, .int .i64 a0_3] 24 (0, 0)) (by (with_reducible repeat (first | refine blk_drewN ?_ _ | refine blk_drew ?_ | refine blk_alloc ?_ _)); exact BK101.out) hb); have n8_ := Aside0.mk (below_step (by repeat (first | (with_reducible first | exact HB.out | apply below_alloc | apply pw_below_drewN | apply below_drew1 | refine below_set ?_ GE101.out) | exact HB.out)) hb); clear HO106; clear HO109; clear HO113; clear HO117; clear HO120; clear BK101; clear HB; have HO106 := n0_; have HO109 := n1_; have HO113 := n2_; have HO117 := n3_; have HO120 := n4_; have HO124 := n5_; have HO127 := n6_; have BK101 := n7_; have HB := n8_; clear n0_ n1_ n2_ n3_ n4_ n5_ n6_ n7_ n8_; (try clear hb); (try clear hb2); (try clear hk); (try clear hi); (try clear ho0); (try clear ho1)))
    repeat (go_quiet (first | ((with_reducible refine gate_dst (N := 4) rfl ?_); (try (refine gate_guard (by rfl) ?_; dsimp only)); refine box_event ?hg (N := 4) ?hd (cs := #[.int .i64 a0_0, .slice A0_1 l0_1.length c0_1, .int .i64 a0_2, .int .i64 a0_3]) (t := 24) ?hr ?_; (case hd => rfl); (case hg => rfl); (case hr => first | (go_simp; done) | (go_simp; rfl)); intro gb101 hg w13 hbox hb; have n0_ := Aside0.mk (below_step (by repeat (first | (with_reducible first | exact HB.out | apply below_alloc | apply pw_below_drewN | apply below_drew1) | exact HB.out)) hb); have n1_ := Aside0.mk (hbox); have n2_ := Aside0.mk ((by rw [hg]; exact (below_size (by repeat (first | (with_reducible first | exact HB.out | apply below_alloc | apply pw_below_drewN | apply below_drew1) | exact HB.out))) : w.heap.size ≤ gb101)); have n3_ := Aside0.mk ((by rw [hg]; exact (below_size (by repeat (first | (with_reducible first | exact HB.out | apply below_alloc | apply pw_below_drewN | apply below_drew1) | exact HB.out))) : w.heap.size ≤ gb101)); clear HB; have HB := n0_; have BK101 := n1_; have GW101 := n2_; have GE101 := n3_; clear n0_ n1_ n2_ n3_; clear hb hbox hg; have hcz14_0 : w13.cell? ⟨gb101, 0, none⟩ = some (.int .i64 a0_0) := (blk_cell BK101.out 0).trans rfl; have hcz14_1 : w13.cell? ⟨gb101, 1, none⟩ = some (.slice A0_1 l0_1.length c0_1) := (blk_cell BK101.out 1).trans rfl; have hcz14_2 : w13.cell? ⟨gb101, 2, none⟩ = some (.int .i64 a0_2) := (blk_cell BK101.out 2).trans rfl; have hcz14_3 : w13.cell? ⟨gb101, 3, none⟩ = some (.int .i64 a0_3) := (blk_cell BK101.out 3).trans rfl; have hfz14_0 := blk_frozen BK101.out 0; have hfz14_1 := blk_frozen BK101.out 1; have hfz14_2 := blk_frozen BK101.out 2; have hfz14_3 := blk_frozen BK101.out 3) | (go_at_call 16; (with_reducible refine (isobathlaw02_valid.calls k a0_0 _ _ l0_1 a0_2 a0_3 _ _ l1 true _ ?side1 ?side2 ?side3 ?side4 A5.out).mono ?_); (case side1 => repeat (first | exact (Kd.C_below HR0_1.out HB.out) | (with_reducible refine Kd.C_alloc ?_ _) | (with_reducible refine Kd.C_drewN ?_ _) | (with_reducible refine Kd.C_drew ?_))); (case side2 => exact HC0_1.out); (case side3 => repeat (first | exact (Kd.C_below HR1.out HB.out) | (with_reducible refine Kd.C_alloc ?_ _) | (with_reducible refine Kd.C_drewN ?_ _) | (with_reducible refine Kd.C_drew ?_))); (case side4 => exact HC1.out); rintro e w15 ⟨rfl, hb⟩; have n0_ := Aside0.mk (blk_below (g := gb101) (o := .cells #[.int .i64 a0_0, .slice A0_1 l0_1.length c0_1, .int .i64 a0_2, .int .i64 a0_3] 24 (0, 0)) (by (with_reducible repeat (first | refine blk_drewN ?_ _ | refine blk_drew ?_ | refine blk_alloc ?_ _)); exact BK101.out) hb); have n1_ := Aside0.mk (below_step (by repeat (first | (with_reducible first | exact HB.out | apply below_alloc | apply pw_below_drewN | apply below_drew1 | refine below_set ?_ GE101.out) | exact HB.out)) hb); clear BK101; clear HB; have BK101 := n0_; have HB := n1_; clear n0_ n1_; (try clear hb); (try clear hb2); (try clear hk); (try clear hi)) | (go_at_call 17; (with_reducible refine (isobathlaw02_narrow.calls k _ _ l1 _ _ l3 t104 _ ?side1 ?side2 ?side3 ?side4 A7.out).mono ?_); (case side1 => repeat (first | exact (Kd.C_below HR1.out HB.out) | (with_reducible refine Kd.C_alloc ?_ _) | (with_reducible refine Kd.C_drewN ?_ _) | (with_reducible refine Kd.C_drew ?_))); (case side2 => exact HC1.out); (case side3 => repeat (first | exact (Kd.C_below HR3.out HB.out) | (with_reducible refine Kd.C_alloc ?_ _) | (with_reducible refine Kd.C_drewN ?_ _) | (with_reducible refine Kd.C_drew ?_))); (case side4 => exact HC3.out); rintro e w16 ⟨v105, rfl, ho0, hb⟩; have n0_ := Aside0.mk (Kd.R_lower ho0 (below_size (by repeat (first | (with_reducible first | exact HB.out | apply below_alloc | apply pw_below_drewN | apply below_drew1 | refine below_set ?_ GE101.out) | exact HB.out)))); have n1_ := Aside0.mk (blk_below (g := gb101) (o := .cells #[.int .i64 a0_0, .slice A0_1 l0_1.length c0_1, .int .i64 a0_2, .int .i64 a0_3] 24 (0, 0)) (by (with_reducible repeat (first | refine blk_drewN ?_ _ | refine blk_drew ?_ | refine blk_alloc ?_ _)); exact BK101.out) hb); have n2_ := Aside0.mk (below_step (by repeat (first | (with_reducible first | exact HB.out | apply below_alloc | apply pw_below_drewN | apply below_drew1 | refine below_set ?_ GE101.out) | exact HB.out)) hb); clear BK101; clear HB; have HO106 := n0_; have BK101 := n1_; have HB := n2_; clear n0_ n1_ n2_; (try clear hb); (try clear hb2); (try clear hk); (try clear hi); (try clear ho0); have hcz17_0 : w16.cell? ⟨gb101, 0, none⟩ = some (.int .i64 a0_0) := (blk_cell BK101.out 0).trans rfl; have hcz17_1 : w16.cell? ⟨gb101, 1, none⟩ = some (.slice A0_1 l0_1.length c0_1) := (blk_cell BK101.out 1).trans rfl; have hcz17_2 : w16.cell? ⟨gb101, 2, none⟩ = some (.int .i64 a0_2) := (blk_cell BK101.out 2).trans rfl; have hcz17_3 : w16.cell? ⟨gb101, 3, none⟩ = some (.int .i64 a0_3) := (blk_cell BK101.out 3).trans rfl; have hfz17_0 := blk_frozen BK101.out 0; have hfz17_1 := blk_frozen BK101.out 1; have hfz17_2 := blk_frozen BK101.out 2; have hfz17_3 := blk_frozen BK101.out 3) | (go_at_call 18; (with_reducible refine (mooring_Tensions.calls a0_0 _ _ l0_1 a0_2 a0_3 _ _ l1 a2 t107 t110 _ ?side1 ?side2 ?side3 ?side4 A8.out).mono ?_); (case side1 => repeat (first | exact (Kd.C_below HR0_1.out HB.out) | (with_reducible refine Kd.C_alloc ?_ _) | (with_reducible refine Kd.C_drewN ?_ _) | (with_reducible refine Kd.C_drew ?_))); (case side2 => exact HC0_1.out); (case side3 => repeat (first | exact (Kd.C_below HR1.out HB.out) | (with_reducible refine Kd.C_alloc ?_ _) | (with_reducible refine Kd.C_drewN ?_ _) | (with_reducible refine Kd.C_drew ?_))); (case side4 => exact HC1.out); rintro e w18 ⟨v108, rfl, ho0, hb⟩; have n0_ := Aside0.mk (Kd.R_elder' (by (with_reducible repeat (first | apply Kd.R_alloc | apply Kd.R_drewN | apply Kd.R_drew)); exact HO106.out) (Kd.R_base ho0) hb); have n1_ := Aside0.mk (Kd.R_lower (Kd.R_new' ho0 (Kd.R_lt (by (with_reducible repeat (first | apply Kd.R_alloc | apply Kd.R_drewN | apply Kd.R_drew)); exact HO106.out))) (below_size (by repeat (first | (with_reducible first | exact HB.out | apply below_alloc | apply pw_below_drewN | apply below_drew1 | refine below_set ?_ GE101.out) | exact HB.out)))); have n2_ := Aside0.mk (blk_below (g := gb101) (o := .cells #[.int .i64 a0_0, .slice A0_1 l0_1.length c0_1, .int .i64 a0_2, .int .i64 a0_3] 24 (0, 0)) (by (with_reducible repeat (first | refine blk_drewN ?_ _ | refine blk_drew ?_ | refine blk_alloc ?_ _)); exact BK101.out) hb); have n3_ := Aside0.mk (below_step (by repeat (first | (with_reducible first | exact HB.out | apply below_alloc | apply pw_below_drewN | apply below_drew1 | refine below_set ?_ GE101.out) | exact HB.out)) hb); clear HO106; clear BK101; clear HB; have HO106 := n0_; have HO109 := n1_; have BK101 := n2_; have HB := n3_; clear n0_ n1_ n2_ n3_; (try clear hb); (try clear hb2); (try clear hk); (try clear hi); (try clear ho0); have hcz19_0 : w18.cell? ⟨gb101, 0, none⟩ = some (.int .i64 a0_0) := (blk_cell BK101.out 0).trans rfl; have hcz19_1 : w18.cell? ⟨gb101, 1, none⟩ = some (.slice A0_1 l0_1.length c0_1) := (blk_cell BK101.out 1).trans rfl; have hcz19_2 : w18.cell? ⟨gb101, 2, none⟩ = some (.int .i64 a0_2) := (blk_cell BK101.out 2).trans rfl; have hcz19_3 : w18.cell? ⟨gb101, 3, none⟩ = some (.int .i64 a0_3) := (blk_cell BK101.out 3).trans rfl; have hfz19_0 := blk_frozen BK101.out 0; have hfz19_1 := blk_frozen BK101.out 1; have hfz19_2 := blk_frozen BK101.out 2; have hfz19_3 := blk_frozen BK101.out 3; obtain ⟨Ao20, co20, eo20⟩ := Kd.R_slice HO106.out; subst eo20) | (go_at_call 18; (with_reducible refine (mooring_Tensions.calls a0_0 _ _ l0_1 a0_2 a0_3 _ _ t104 a2 t111 t114 _ ?side1 ?side2 ?side3 ?side4 A9.out).mono ?_); (case side1 => repeat (first | exact (Kd.C_below HR0_1.out HB.out) | (with_reducible refine Kd.C_alloc ?_ _) | (with_reducible refine Kd.C_drewN ?_ _) | (with_reducible refine Kd.C_drew ?_))); (case side2 => exact HC0_1.out); (case side3 => repeat (first | exact (Kd.R_reads' HO106.out).2.2 | (with_reducible refine Kd.C_alloc ?_ _) | (with_reducible refine Kd.C_drewN ?_ _) | (with_reducible refine Kd.C_drew ?_))); (case side4 => exact (Kd.R_reads' HO106.out).2.1); rintro e w21 ⟨v112, rfl, ho0, hb⟩; have n0_ := Aside0.mk (Kd.R_elder' (by (with_reducible repeat (first | apply Kd.R_alloc | apply Kd.R_drewN | apply Kd.R_drew)); exact HO106.out) (Kd.R_base ho0) hb); have n1_ := Aside0.mk (Kd.R_elder' (by (with_reducible repeat (first | apply Kd.R_alloc | apply Kd.R_drewN | apply Kd.R_drew)); exact HO109.out) (Kd.R_base ho0) hb); have n2_ := Aside0.mk (Kd.R_lower (Kd.R_new' (Kd.R_new' ho0 (Kd.R_lt (by (with_reducible repeat (first | apply Kd.R_alloc | apply Kd.R_drewN | apply Kd.R_drew)); exact HO106.out))) (Kd.R_lt (by (with_reducible repeat (first | apply Kd.R_alloc | apply Kd.R_drewN | apply Kd.R_drew)); exact HO109.out))) (below_size (by repeat (first | (with_reducible first | exact HB.out | apply below_alloc | apply pw_below_drewN | apply below_drew1 | refine below_set ?_ GE101.out) | exact HB.out)))); have n3_ := Aside0.mk (blk_below (g := gb101) (o := .cells #[.int .i64 a0_0, .slice A0_1 l0_1.length c0_1, .int .i64 a0_2, .int .i64 a0_3] 24 (0, 0)) (by (with_reducible repeat (first | refine blk_drewN ?_ _ | refine blk_drew ?_ | refine blk_alloc ?_ _)); exact BK101.out) hb); have n4_ := Aside0.mk (below_step (by repeat (first | (with_reducible first | exact HB.out | apply below_alloc | apply pw_below_drewN | apply below_drew1 | refine below_set ?_ GE101.out) | exact HB.out)) hb); clear HO106; clear HO109; clear BK101; clear HB; have HO106 := n0_; have HO109 := n1_; have HO113 := n2_; have BK101 := n3_; have HB := n4_; clear n0_ n1_ n2_ n3_ n4_; (try clear hb); (try clear hb2); (try clear hk); (try clear hi); (try clear ho0); have hcz22_0 : w21.cell? ⟨gb101, 0, none⟩ = some (.int .i64 a0_0) := (blk_cell BK101.out 0).trans rfl; have hcz22_1 : w21.cell? ⟨gb101, 1, none⟩ = some (.slice A0_1 l0_1.length c0_1) := (blk_cell BK101.out 1).trans rfl; have hcz22_2 : w21.cell? ⟨gb101, 2, none⟩ = some (.int .i64 a0_2) := (blk_cell BK101.out 2).trans rfl; have hcz22_3 : w21.cell? ⟨gb101, 3, none⟩ = some (.int .i64 a0_3) := (blk_cell BK101.out 3).trans rfl; have hfz22_0 := blk_frozen BK101.out 0; have hfz22_1 := blk_frozen BK101.out 1; have hfz22_2 := blk_frozen BK101.out 2; have hfz22_3 := blk_frozen BK101.out 3) | (go_at_call 19; (with_reducible refine (mooring_Shape.calls a0_0 _ _ l0_1 a0_2 a0_3 _ _ l1 a2 t115 t118 t121 _ ?side1 ?side2 ?side3 ?side4 A10.out).mono ?_); (case side1 => repeat (first | exact (Kd.C_below HR0_1.out HB.out) | (with_reducible refine Kd.C_alloc ?_ _) | (with_reducible refine Kd.C_drewN ?_ _) | (with_reducible refine Kd.C_drew ?_))); (case side2 => exact HC0_1.out); (case side3 => repeat (first | exact (Kd.C_below HR1.out HB.out) | (with_reducible refine Kd.C_alloc ?_ _) | (with_reducible refine Kd.C_drewN ?_ _) | (with_reducible refine Kd.C_drew ?_))); (case side4 => exact HC1.out); rintro e w23 ⟨v116, v119, rfl, ho0, ho1, hb⟩; have n0_ := Aside0.mk (Kd.R_mono (Kd.R_told (Kd.R_told (Kd.R_old (by (with_reducible repeat (first | apply Kd.R_alloc | apply Kd.R_drewN | apply Kd.R_drew)); exact HO106.out) hb) (Kd.R_base ho0)) (Kd.R_base ho1)) (fun _ h_ => h_.1)); have n1_ := Aside0.mk (Kd.R_mono (Kd.R_told (Kd.R_told (Kd.R_old (by (with_reducible repeat (first | apply Kd.R_alloc | apply Kd.R_drewN | apply Kd.R_drew)); exact HO109.out) hb) (Kd.R_base ho0)) (Kd.R_base ho1)) (fun _ h_ => h_.1)); have n2_ := Aside0.mk (Kd.R_mono (Kd.R_told (Kd.R_told (Kd.R_old (by (with_reducible repeat (first | apply Kd.R_alloc | apply Kd.R_drewN | apply Kd.R_drew)); exact HO113.out) hb) (Kd.R_base ho0)) (Kd.R_base ho1)) (fun _ h_ => h_.1)); have n3_ := Aside0.mk (Kd.R_lower (Kd.R_new' (Kd.R_new' (Kd.R_new' ho0 (Kd.R_lt (by (with_reducible repeat (first | apply Kd.R_alloc | apply Kd.R_drewN | apply Kd.R_drew)); exact HO106.out))) (Kd.R_lt (by (with_reducible repeat (first | apply Kd.R_alloc | apply Kd.R_drewN | apply Kd.R_drew)); exact HO109.out))) (Kd.R_lt (by (with_reducible repeat (first | apply Kd.R_alloc | apply Kd.R_drewN | apply Kd.R_drew)); exact HO113.out))) (below_size (by repeat (first | (with_reducible first | exact HB.out | apply below_alloc | apply pw_below_drewN | apply below_drew1 | refine below_set ?_ GE101.out) | exact HB.out)))); have n4_ := Aside0.mk (Kd.R_lower (Kd.R_new' (Kd.R_new' (Kd.R_new' ho1 (Kd.R_lt (by (with_reducible repeat (first | apply Kd.R_alloc | apply Kd.R_drewN | apply Kd.R_drew)); exact HO106.out))) (Kd.R_lt (by (with_reducible repeat (first | apply Kd.R_alloc | apply Kd.R_drewN | apply Kd.R_drew)); exact HO109.out))) (Kd.R_lt (by (with_reducible repeat (first | apply Kd.R_alloc | apply Kd.R_drewN | apply Kd.R_drew)); exact HO113.out))) (below_size (by repeat (first | (with_reducible first | exact HB.out | apply below_alloc | apply pw_below_drewN | apply below_drew1 | refine below_set ?_ GE101.out) | exact HB.out)))); have n5_ := Aside0.mk (blk_below (g := gb101) (o := .cells #[.int .i64 a0_0, .slice A0_1 l0_1.length c0_1, .int .i64 a0_2, .int .i64 a0_3] 24 (0, 0)) (by (with_reducible repeat (first | refine blk_drewN ?_ _ | refine blk_drew ?_ | refine blk_alloc ?_ _)); exact BK101.out) hb); have n6_ := Aside0.mk (below_step (by repeat (first | (with_reducible first | exact HB.out | apply below_alloc | apply pw_below_drewN | apply below_drew1 | refine below_set ?_ GE101.out) | exact HB.out)) hb); clear HO106; clear HO109; clear HO113; clear BK101; clear HB; have HO106 := n0_; have HO109 := n1_; have HO113 := n2_; have HO117 := n3_; have HO120 := n4_; have BK101 := n5_; have HB := n6_; clear n0_ n1_ n2_ n3_ n4_ n5_ n6_; (try clear hb); (try clear hb2); (try clear hk); (try clear hi); (try clear ho0); (try clear ho1); have hcz24_0 : w23.cell? ⟨gb101, 0, none⟩ = some (.int .i64 a0_0) := (blk_cell BK101.out 0).trans rfl; have hcz24_1 : w23.cell? ⟨gb101, 1, none⟩ = some (.slice A0_1 l0_1.length c0_1) := (blk_cell BK101.out 1).trans rfl; have hcz24_2 : w23.cell? ⟨gb101, 2, none⟩ = some (.int .i64 a0_2) := (blk_cell BK101.out 2).trans rfl; have hcz24_3 : w23.cell? ⟨gb101, 3, none⟩ = some (.int .i64 a0_3) := (blk_cell BK101.out 3).trans rfl; have hfz24_0 := blk_frozen BK101.out 0; have hfz24_1 := blk_frozen BK101.out 1; have hfz24_2 := blk_frozen BK101.out 2; have hfz24_3 := blk_frozen BK101.out 3) | (go_at_call 19; (with_reducible refine (mooring_Shape.calls a0_0 _ _ l0_1 a0_2 a0_3 _ _ t104 a2 t122 t125 t128 _ ?side1 ?side2 ?side3 ?side4 A11.out).mono ?_); (case side1 => repeat (first | exact (Kd.C_below HR0_1.out HB.out) | (with_reducible refine Kd.C_alloc ?_ _) | (with_reducible refine Kd.C_drewN ?_ _) | (with_reducible refine Kd.C_drew ?_))); (case side2 => exact HC0_1.out); (case side3 => repeat (first | exact (Kd.R_reads' HO106.out).2.2 | (with_reducible refine Kd.C_alloc ?_ _) | (with_reducible refine Kd.C_drewN ?_ _) | (with_reducible refine Kd.C_drew ?_))); (case side4 => exact (Kd.R_reads' HO106.out).2.1); rintro e w25 ⟨v123, v126, rfl, ho0, ho1, hb⟩; have n0_ := Aside0.mk (Kd.R_mono (Kd.R_told (Kd.R_told (Kd.R_old (by (with_reducible repeat (first | apply Kd.R_alloc | apply Kd.R_drewN | apply Kd.R_drew)); exact HO106.out) hb) (Kd.R_base ho0)) (Kd.R_base ho1)) (fun _ h_ => h_.1)); have n1_ := Aside0.mk (Kd.R_mono (Kd.R_told (Kd.R_told (Kd.R_old (by (with_reducible repeat (first | apply Kd.R_alloc | apply Kd.R_drewN | apply Kd.R_drew)); exact HO109.out) hb) (Kd.R_base ho0)) (Kd.R_base ho1)) (fun _ h_ => h_.1)); have n2_ := Aside0.mk (Kd.R_mono (Kd.R_told (Kd.R_told (Kd.R_old (by (with_reducible repeat (first | apply Kd.R_alloc | apply Kd.R_drewN | apply Kd.R_drew)); exact HO113.out) hb) (Kd.R_base ho0)) (Kd.R_base ho1)) (fun _ h_ => h_.1)); have n3_ := Aside0.mk (Kd.R_mono (Kd.R_told (Kd.R_told (Kd.R_old (by (with_reducible repeat (first | apply Kd.R_alloc | apply Kd.R_drewN | apply Kd.R_drew)); exact HO117.out) hb) (Kd.R_base ho0)) (Kd.R_base ho1)) (fun _ h_ => h_.1)); have n4_ := Aside0.mk (Kd.R_mono (Kd.R_told (Kd.R_told (Kd.R_old (by (with_reducible repeat (first | apply Kd.R_alloc | apply Kd.R_drewN | apply Kd.R_drew)); exact HO120.out) hb) (Kd.R_base ho0)) (Kd.R_base ho1)) (fun _ h_ => h_.1)); have n5_ := Aside0.mk (Kd.R_lower (Kd.R_new' (Kd.R_new' (Kd.R_new' (Kd.R_new' (Kd.R_new' ho0 (Kd.R_lt (by (with_reducible repeat (first | apply Kd.R_alloc | apply Kd.R_drewN | apply Kd.R_drew)); exact HO106.out))) (Kd.R_lt (by (with_reducible repeat (first | apply Kd.R_alloc | apply Kd.R_drewN | apply Kd.R_drew)); exact HO109.out))) (Kd.R_lt (by (with_reducible repeat (first | apply Kd.R_alloc | apply Kd.R_drewN | apply Kd.R_drew)); exact HO113.out))) (Kd.R_lt (by (with_reducible repeat (first | apply Kd.R_alloc | apply Kd.R_drewN | apply Kd.R_drew)); exact HO117.out))) (Kd.R_lt (by (with_reducible repeat (first | apply Kd.R_alloc | apply Kd.R_drewN | apply Kd.R_drew)); exact HO120.out))) (below_size (by repeat (first | (with_reducible first | exact HB.out | apply below_alloc | apply pw_below_drewN | apply below_drew1 | refine below_set ?_ GE101.out) | exact HB.out)))); have n6_ := Aside0.mk (Kd.R_lower (Kd.R_new' (Kd.R_new' (Kd.R_new' (Kd.R_new' (Kd.R_new' ho1 (Kd.R_lt (by (with_reducible repeat (first | apply Kd.R_alloc | apply Kd.R_drewN | apply Kd.R_drew)); exact HO106.out))) (Kd.R_lt (by (with_reducible repeat (first | apply Kd.R_alloc | apply Kd.R_drewN | apply Kd.R_drew)); exact HO109.out))) (Kd.R_lt (by (with_reducible repeat (first | apply Kd.R_alloc | apply Kd.R_drewN | apply Kd.R_drew)); exact HO113.out))) (Kd.R_lt (by (with_reducible repeat (first | apply Kd.R_alloc | apply Kd.R_drewN | apply Kd.R_drew)); exact HO117.out))) (Kd.R_lt (by (with_reducible repeat (first | apply Kd.R_alloc | apply Kd.R_drewN | apply Kd.R_drew)); exact HO120.out))) (below_size (by repeat (first | (with_reducible first | exact HB.out | apply below_alloc | apply pw_below_drewN | apply below_drew1 | refine below_set ?_ GE101.out) | exact HB.out)))); have n7_ := Aside0.mk (blk_below (g := gb101) (o := .cells #[.int .i64 a0_0, .slice A0_1 l0_1.length c0_1, .int .i64 a0_2, .int .i64 a0_3] 24 (0, 0)) (by (with_reducible repeat (first | refine blk_drewN ?_ _ | refine blk_drew ?_ | refine blk_alloc ?_ _)); exact BK101.out) hb); have n8_ := Aside0.mk (below_step (by repeat (first | (with_reducible first | exact HB.out | apply below_alloc | apply pw_below_drewN | apply below_drew1 | refine below_set ?_ GE101.out) | exact HB.out)) hb); clear HO106; clear HO109; clear HO113; clear HO117; clear HO120; clear BK101; clear HB; have HO106 := n0_; have HO109 := n1_; have HO113 := n2_; have HO117 := n3_; have HO120 := n4_; have HO124 := n5_; have HO127 := n6_; have BK101 := n7_; have HB := n8_; clear n0_ n1_ n2_ n3_ n4_ n5_ n6_ n7_ n8_; (try clear hb); (try clear hb2); (try clear hk); (try clear hi); (try clear ho0); (try clear ho1))); go_upto_region 8 with (first | ((with_reducible refine gate_dst (N := 4) rfl ?_); (try (refine gate_guard (by rfl) ?_; dsimp only)); refine box_event ?hg (N := 4) ?hd (cs := #[.int .i64 a0_0, .slice A0_1 l0_1.length c0_1, .int .i64 a0_2, .int .i64 a0_3]) (t := 24) ?hr ?_; (case hd => rfl); (case hg => rfl); (case hr => first | (go_simp; done) | (go_simp; rfl)); intro gb101 hg w13 hbox hb; have n0_ := Aside0.mk (below_step (by repeat (first | (with_reducible first | exact HB.out | apply below_alloc | apply pw_below_drewN | apply below_drew1) | exact HB.out)) hb); have n1_ := Aside0.mk (hbox); have n2_ := Aside0.mk ((by rw [hg]; exact (below_size (by repeat (first | (with_reducible first | exact HB.out | apply below_alloc | apply pw_below_drewN | apply below_drew1) | exact HB.out))) : w.heap.size ≤ gb101)); have n3_ := Aside0.mk ((by rw [hg]; exact (below_size (by repeat (first | (with_reducible first | exact HB.out | apply below_alloc | apply pw_below_drewN | apply below_drew1) | exact HB.out))) : w.heap.size ≤ gb101)); clear HB; have HB := n0_; have BK101 := n1_; have GW101 := n2_; have GE101 := n3_; clear n0_ n1_ n2_ n3_; clear hb hbox hg; have hcz14_0 : w13.cell? ⟨gb101, 0, none⟩ = some (.int .i64 a0_0) := (blk_cell BK101.out 0).trans rfl; have hcz14_1 : w13.cell? ⟨gb101, 1, none⟩ = some (.slice A0_1 l0_1.length c0_1) := (blk_cell BK101.out 1).trans rfl; have hcz14_2 : w13.cell? ⟨gb101, 2, none⟩ = some (.int .i64 a0_2) := (blk_cell BK101.out 2).trans rfl; have hcz14_3 : w13.cell? ⟨gb101, 3, none⟩ = some (.int .i64 a0_3) := (blk_cell BK101.out 3).trans rfl; have hfz14_0 := blk_frozen BK101.out 0; have hfz14_1 := blk_frozen BK101.out 1; have hfz14_2 := blk_frozen BK101.out 2; have hfz14_3 := blk_frozen BK101.out 3) | (go_at_call 16; (with_reducible refine (isobathlaw02_valid.calls k a0_0 _ _ l0_1 a0_2 a0_3 _ _ l1 true _ ?side1 ?side2 ?side3 ?side4 A5.out).mono ?_); (case side1 => repeat (first | exact (Kd.C_below HR0_1.out HB.out) | (with_reducible refine Kd.C_alloc ?_ _) | (with_reducible refine Kd.C_drewN ?_ _) | (with_reducible refine Kd.C_drew ?_))); (case side2 => exact HC0_1.out); (case side3 => repeat (first | exact (Kd.C_below HR1.out HB.out) | (with_reducible refine Kd.C_alloc ?_ _) | (with_reducible refine Kd.C_drewN ?_ _) | (with_reducible refine Kd.C_drew ?_))); (case side4 => exact HC1.out); rintro e w15 ⟨rfl, hb⟩; have n0_ := Aside0.mk (blk_below (g := gb101) (o := .cells #[.int .i64 a0_0, .slice A0_1 l0_1.length c0_1, .int .i64 a0_2, .int .i64 a0_3] 24 (0, 0)) (by (with_reducible repeat (first | refine blk_drewN ?_ _ | refine blk_drew ?_ | refine blk_alloc ?_ _)); exact BK101.out) hb); have n1_ := Aside0.mk (below_step (by repeat (first | (with_reducible first | exact HB.out | apply below_alloc | apply pw_below_drewN | apply below_drew1 | refine below_set ?_ GE101.out) | exact HB.out)) hb); clear BK101; clear HB; have BK101 := n0_; have HB := n1_; clear n0_ n1_; (try clear hb); (try clear hb2); (try clear hk); (try clear hi)) | (go_at_call 17; (with_reducible refine (isobathlaw02_narrow.calls k _ _ l1 _ _ l3 t104 _ ?side1 ?side2 ?side3 ?side4 A7.out).mono ?_); (case side1 => repeat (first | exact (Kd.C_below HR1.out HB.out) | (with_reducible refine Kd.C_alloc ?_ _) | (with_reducible refine Kd.C_drewN ?_ _) | (with_reducible refine Kd.C_drew ?_))); (case side2 => exact HC1.out); (case side3 => repeat (first | exact (Kd.C_below HR3.out HB.out) | (with_reducible refine Kd.C_alloc ?_ _) | (with_reducible refine Kd.C_drewN ?_ _) | (with_reducible refine Kd.C_drew ?_))); (case side4 => exact HC3.out); rintro e w16 ⟨v105, rfl, ho0, hb⟩; have n0_ := Aside0.mk (Kd.R_lower ho0 (below_size (by repeat (first | (with_reducible first | exact HB.out | apply below_alloc | apply pw_below_drewN | apply below_drew1 | refine below_set ?_ GE101.out) | exact HB.out)))); have n1_ := Aside0.mk (blk_below (g := gb101) (o := .cells #[.int .i64 a0_0, .slice A0_1 l0_1.length c0_1, .int .i64 a0_2, .int .i64 a0_3] 24 (0, 0)) (by (with_reducible repeat (first | refine blk_drewN ?_ _ | refine blk_drew ?_ | refine blk_alloc ?_ _)); exact BK101.out) hb); have n2_ := Aside0.mk (below_step (by repeat (first | (with_reducible first | exact HB.out | apply below_alloc | apply pw_below_drewN | apply below_drew1 | refine below_set ?_ GE101.out) | exact HB.out)) hb); clear BK101; clear HB; have HO106 := n0_; have BK101 := n1_; have HB := n2_; clear n0_ n1_ n2_; (try clear hb); (try clear hb2); (try clear hk); (try clear hi); (try clear ho0); have hcz17_0 : w16.cell? ⟨gb101, 0, none⟩ = some (.int .i64 a0_0) := (blk_cell BK101.out 0).trans rfl; have hcz17_1 : w16.cell? ⟨gb101, 1, none⟩ = some (.slice A0_1 l0_1.length c0_1) := (blk_cell BK101.out 1).trans rfl; have hcz17_2 : w16.cell? ⟨gb101, 2, none⟩ = some (.int .i64 a0_2) := (blk_cell BK101.out 2).trans rfl; have hcz17_3 : w16.cell? ⟨gb101, 3, none⟩ = some (.int .i64 a0_3) := (blk_cell BK101.out 3).trans rfl; have hfz17_0 := blk_frozen BK101.out 0; have hfz17_1 := blk_frozen BK101.out 1; have hfz17_2 := blk_frozen BK101.out 2; have hfz17_3 := blk_frozen BK101.out 3) | (go_at_call 18; (with_reducible refine (mooring_Tensions.calls a0_0 _ _ l0_1 a0_2 a0_3 _ _ l1 a2 t107 t110 _ ?side1 ?side2 ?side3 ?side4 A8.out).mono ?_); (case side1 => repeat (first | exact (Kd.C_below HR0_1.out HB.out) | (with_reducible refine Kd.C_alloc ?_ _) | (with_reducible refine Kd.C_drewN ?_ _) | (with_reducible refine Kd.C_drew ?_))); (case side2 => exact HC0_1.out); (case side3 => repeat (first | exact (Kd.C_below HR1.out HB.out) | (with_reducible refine Kd.C_alloc ?_ _) | (with_reducible refine Kd.C_drewN ?_ _) | (with_reducible refine Kd.C_drew ?_))); (case side4 => exact HC1.out); rintro e w18 ⟨v108, rfl, ho0, hb⟩; have n0_ := Aside0.mk (Kd.R_elder' (by (with_reducible repeat (first | apply Kd.R_alloc | apply Kd.R_drewN | apply Kd.R_drew)); exact HO106.out) (Kd.R_base ho0) hb); have n1_ := Aside0.mk (Kd.R_lower (Kd.R_new' ho0 (Kd.R_lt (by (with_reducible repeat (first | apply Kd.R_alloc | apply Kd.R_drewN | apply Kd.R_drew)); exact HO106.out))) (below_size (by repeat (first | (with_reducible first | exact HB.out | apply below_alloc | apply pw_below_drewN | apply below_drew1 | refine below_set ?_ GE101.out) | exact HB.out)))); have n2_ := Aside0.mk (blk_below (g := gb101) (o := .cells #[.int .i64 a0_0, .slice A0_1 l0_1.length c0_1, .int .i64 a0_2, .int .i64 a0_3] 24 (0, 0)) (by (with_reducible repeat (first | refine blk_drewN ?_ _ | refine blk_drew ?_ | refine blk_alloc ?_ _)); exact BK101.out) hb); have n3_ := Aside0.mk (below_step (by repeat (first | (with_reducible first | exact HB.out | apply below_alloc | apply pw_below_drewN | apply below_drew1 | refine below_set ?_ GE101.out) | exact HB.out)) hb); clear HO106; clear BK101; clear HB; have HO106 := n0_; have HO109 := n1_; have BK101 := n2_; have HB := n3_; clear n0_ n1_ n2_ n3_; (try clear hb); (try clear hb2); (try clear hk); (try clear hi); (try clear ho0); have hcz19_0 : w18.cell? ⟨gb101, 0, none⟩ = some (.int .i64 a0_0) := (blk_cell BK101.out 0).trans rfl; have hcz19_1 : w18.cell? ⟨gb101, 1, none⟩ = some (.slice A0_1 l0_1.length c0_1) := (blk_cell BK101.out 1).trans rfl; have hcz19_2 : w18.cell? ⟨gb101, 2, none⟩ = some (.int .i64 a0_2) := (blk_cell BK101.out 2).trans rfl; have hcz19_3 : w18.cell? ⟨gb101, 3, none⟩ = some (.int .i64 a0_3) := (blk_cell BK101.out 3).trans rfl; have hfz19_0 := blk_frozen BK101.out 0; have hfz19_1 := blk_frozen BK101.out 1; have hfz19_2 := blk_frozen BK101.out 2; have hfz19_3 := blk_frozen BK101.out 3; obtain ⟨Ao20, co20, eo20⟩ := Kd.R_slice HO106.out; subst eo20) | (go_at_call 18; (with_reducible refine (mooring_Tensions.calls a0_0 _ _ l0_1 a0_2 a0_3 _ _ t104 a2 t111 t114 _ ?side1 ?side2 ?side3 ?side4 A9.out).mono ?_); (case side1 => repeat (first | exact (Kd.C_below HR0_1.out HB.out) | (with_reducible refine Kd.C_alloc ?_ _) | (with_reducible refine Kd.C_drewN ?_ _) | (with_reducible refine Kd.C_drew ?_))); (case side2 => exact HC0_1.out); (case side3 => repeat (first | exact (Kd.R_reads' HO106.out).2.2 | (with_reducible refine Kd.C_alloc ?_ _) | (with_reducible refine Kd.C_drewN ?_ _) | (with_reducible refine Kd.C_drew ?_))); (case side4 => exact (Kd.R_reads' HO106.out).2.1); rintro e w21 ⟨v112, rfl, ho0, hb⟩; have n0_ := Aside0.mk (Kd.R_elder' (by (with_reducible repeat (first | apply Kd.R_alloc | apply Kd.R_drewN | apply Kd.R_drew)); exact HO106.out) (Kd.R_base ho0) hb); have n1_ := Aside0.mk (Kd.R_elder' (by (with_reducible repeat (first | apply Kd.R_alloc | apply Kd.R_drewN | apply Kd.R_drew)); exact HO109.out) (Kd.R_base ho0) hb); have n2_ := Aside0.mk (Kd.R_lower (Kd.R_new' (Kd.R_new' ho0 (Kd.R_lt (by (with_reducible repeat (first | apply Kd.R_alloc | apply Kd.R_drewN | apply Kd.R_drew)); exact HO106.out))) (Kd.R_lt (by (with_reducible repeat (first | apply Kd.R_alloc | apply Kd.R_drewN | apply Kd.R_drew)); exact HO109.out))) (below_size (by repeat (first | (with_reducible first | exact HB.out | apply below_alloc | apply pw_below_drewN | apply below_drew1 | refine below_set ?_ GE101.out) | exact HB.out)))); have n3_ := Aside0.mk (blk_below (g := gb101) (o := .cells #[.int .i64 a0_0, .slice A0_1 l0_1.length c0_1, .int .i64 a0_2, .int .i64 a0_3] 24 (0, 0)) (by (with_reducible repeat (first | refine blk_drewN ?_ _ | refine blk_drew ?_ | refine blk_alloc ?_ _)); exact BK101.out) hb); have n4_ := Aside0.mk (below_step (by repeat (first | (with_reducible first | exact HB.out | apply below_alloc | apply pw_below_drewN | apply below_drew1 | refine below_set ?_ GE101.out) | exact HB.out)) hb); clear HO106; clear HO109; clear BK101; clear HB; have HO106 := n0_; have HO109 := n1_; have HO113 := n2_; have BK101 := n3_; have HB := n4_; clear n0_ n1_ n2_ n3_ n4_; (try clear hb); (try clear hb2); (try clear hk); (try clear hi); (try clear ho0); have hcz22_0 : w21.cell? ⟨gb101, 0, none⟩ = some (.int .i64 a0_0) := (blk_cell BK101.out 0).trans rfl; have hcz22_1 : w21.cell? ⟨gb101, 1, none⟩ = some (.slice A0_1 l0_1.length c0_1) := (blk_cell BK101.out 1).trans rfl; have hcz22_2 : w21.cell? ⟨gb101, 2, none⟩ = some (.int .i64 a0_2) := (blk_cell BK101.out 2).trans rfl; have hcz22_3 : w21.cell? ⟨gb101, 3, none⟩ = some (.int .i64 a0_3) := (blk_cell BK101.out 3).trans rfl; have hfz22_0 := blk_frozen BK101.out 0; have hfz22_1 := blk_frozen BK101.out 1; have hfz22_2 := blk_frozen BK101.out 2; have hfz22_3 := blk_frozen BK101.out 3) | (go_at_call 19; (with_reducible refine (mooring_Shape.calls a0_0 _ _ l0_1 a0_2 a0_3 _ _ l1 a2 t115 t118 t121 _ ?side1 ?side2 ?side3 ?side4 A10.out).mono ?_); (case side1 => repeat (first | exact (Kd.C_below HR0_1.out HB.out) | (with_reducible refine Kd.C_alloc ?_ _) | (with_reducible refine Kd.C_drewN ?_ _) | (with_reducible refine Kd.C_drew ?_))); (case side2 => exact HC0_1.out); (case side3 => repeat (first | exact (Kd.C_below HR1.out HB.out) | (with_reducible refine Kd.C_alloc ?_ _) | (with_reducible refine Kd.C_drewN ?_ _) | (with_reducible refine Kd.C_drew ?_))); (case side4 => exact HC1.out); rintro e w23 ⟨v116, v119, rfl, ho0, ho1, hb⟩; have n0_ := Aside0.mk (Kd.R_mono (Kd.R_told (Kd.R_told (Kd.R_old (by (with_reducible repeat (first | apply Kd.R_alloc | apply Kd.R_drewN | apply Kd.R_drew)); exact HO106.out) hb) (Kd.R_base ho0)) (Kd.R_base ho1)) (fun _ h_ => h_.1)); have n1_ := Aside0.mk (Kd.R_mono (Kd.R_told (Kd.R_told (Kd.R_old (by (with_reducible repeat (first | apply Kd.R_alloc | apply Kd.R_drewN | apply Kd.R_drew)); exact HO109.out) hb) (Kd.R_base ho0)) (Kd.R_base ho1)) (fun _ h_ => h_.1)); have n2_ := Aside0.mk (Kd.R_mono (Kd.R_told (Kd.R_told (Kd.R_old (by (with_reducible repeat (first | apply Kd.R_alloc | apply Kd.R_drewN | apply Kd.R_drew)); exact HO113.out) hb) (Kd.R_base ho0)) (Kd.R_base ho1)) (fun _ h_ => h_.1)); have n3_ := Aside0.mk (Kd.R_lower (Kd.R_new' (Kd.R_new' (Kd.R_new' ho0 (Kd.R_lt (by (with_reducible repeat (first | apply Kd.R_alloc | apply Kd.R_drewN | apply Kd.R_drew)); exact HO106.out))) (Kd.R_lt (by (with_reducible repeat (first | apply Kd.R_alloc | apply Kd.R_drewN | apply Kd.R_drew)); exact HO109.out))) (Kd.R_lt (by (with_reducible repeat (first | apply Kd.R_alloc | apply Kd.R_drewN | apply Kd.R_drew)); exact HO113.out))) (below_size (by repeat (first | (with_reducible first | exact HB.out | apply below_alloc | apply pw_below_drewN | apply below_drew1 | refine below_set ?_ GE101.out) | exact HB.out)))); have n4_ := Aside0.mk (Kd.R_lower (Kd.R_new' (Kd.R_new' (Kd.R_new' ho1 (Kd.R_lt (by (with_reducible repeat (first | apply Kd.R_alloc | apply Kd.R_drewN | apply Kd.R_drew)); exact HO106.out))) (Kd.R_lt (by (with_reducible repeat (first | apply Kd.R_alloc | apply Kd.R_drewN | apply Kd.R_drew)); exact HO109.out))) (Kd.R_lt (by (with_reducible repeat (first | apply Kd.R_alloc | apply Kd.R_drewN | apply Kd.R_drew)); exact HO113.out))) (below_size (by repeat (first | (with_reducible first | exact HB.out | apply below_alloc | apply pw_below_drewN | apply below_drew1 | refine below_set ?_ GE101.out) | exact HB.out)))); have n5_ := Aside0.mk (blk_below (g := gb101) (o := .cells #[.int .i64 a0_0, .slice A0_1 l0_1.length c0_1, .int .i64 a0_2, .int .i64 a0_3] 24 (0, 0)) (by (with_reducible repeat (first | refine blk_drewN ?_ _ | refine blk_drew ?_ | refine blk_alloc ?_ _)); exact BK101.out) hb); have n6_ := Aside0.mk (below_step (by repeat (first | (with_reducible first | exact HB.out | apply below_alloc | apply pw_below_drewN | apply below_drew1 | refine below_set ?_ GE101.out) | exact HB.out)) hb); clear HO106; clear HO109; clear HO113; clear BK101; clear HB; have HO106 := n0_; have HO109 := n1_; have HO113 := n2_; have HO117 := n3_; have HO120 := n4_; have BK101 := n5_; have HB := n6_; clear n0_ n1_ n2_ n3_ n4_ n5_ n6_; (try clear hb); (try clear hb2); (try clear hk); (try clear hi); (try clear ho0); (try clear ho1); have hcz24_0 : w23.cell? ⟨gb101, 0, none⟩ = some (.int .i64 a0_0) := (blk_cell BK101.out 0).trans rfl; have hcz24_1 : w23.cell? ⟨gb101, 1, none⟩ = some (.slice A0_1 l0_1.length c0_1) := (blk_cell BK101.out 1).trans rfl; have hcz24_2 : w23.cell? ⟨gb101, 2, none⟩ = some (.int .i64 a0_2) := (blk_cell BK101.out 2).trans rfl; have hcz24_3 : w23.cell? ⟨gb101, 3, none⟩ = some (.int .i64 a0_3) := (blk_cell BK101.out 3).trans rfl; have hfz24_0 := blk_frozen BK101.out 0; have hfz24_1 := blk_frozen BK101.out 1; have hfz24_2 := blk_frozen BK101.out 2; have hfz24_3 := blk_frozen BK101.out 3) | (go_at_call 19; (with_reducible refine (mooring_Shape.calls a0_0 _ _ l0_1 a0_2 a0_3 _ _ t104 a2 t122 t125 t128 _ ?side1 ?side2 ?side3 ?side4 A11.out).mono ?_); (case side1 => repeat (first | exact (Kd.C_below HR0_1.out HB.out) | (with_reducible refine Kd.C_alloc ?_ _) | (with_reducible refine Kd.C_drewN ?_ _) | (with_reducible refine Kd.C_drew ?_))); (case side2 => exact HC0_1.out); (case side3 => repeat (first | exact (Kd.R_reads' HO106.out).2.2 | (with_reducible refine Kd.C_alloc ?_ _) | (with_reducible refine Kd.C_drewN ?_ _) | (with_reducible refine Kd.C_drew ?_))); (case side4 => exact (Kd.R_reads' HO106.out).2.1); rintro e w25 ⟨v123, v126, rfl, ho0, ho1, hb⟩; have n0_ := Aside0.mk (Kd.R_mono (Kd.R_told (Kd.R_told (Kd.R_old (by (with_reducible repeat (first | apply Kd.R_alloc | apply Kd.R_drewN | apply Kd.R_drew)); exact HO106.out) hb) (Kd.R_base ho0)) (Kd.R_base ho1)) (fun _ h_ => h_.1)); have n1_ := Aside0.mk (Kd.R_mono (Kd.R_told (Kd.R_told (Kd.R_old (by (with_reducible repeat (first | apply Kd.R_alloc | apply Kd.R_drewN | apply Kd.R_drew)); exact HO109.out) hb) (Kd.R_base ho0)) (Kd.R_base ho1)) (fun _ h_ => h_.1)); have n2_ := Aside0.mk (Kd.R_mono (Kd.R_told (Kd.R_told (Kd.R_old (by (with_reducible repeat (first | apply Kd.R_alloc | apply Kd.R_drewN | apply Kd.R_drew)); exact HO113.out) hb) (Kd.R_base ho0)) (Kd.R_base ho1)) (fun _ h_ => h_.1)); have n3_ := Aside0.mk (Kd.R_mono (Kd.R_told (Kd.R_told (Kd.R_old (by (with_reducible repeat (first | apply Kd.R_alloc | apply Kd.R_drewN | apply Kd.R_drew)); exact HO117.out) hb) (Kd.R_base ho0)) (Kd.R_base ho1)) (fun _ h_ => h_.1)); have n4_ := Aside0.mk (Kd.R_mono (Kd.R_told (Kd.R_told (Kd.R_old (by (with_reducible repeat (first | apply Kd.R_alloc | apply Kd.R_drewN | apply Kd.R_drew)); exact HO120.out) hb) (Kd.R_base ho0)) (Kd.R_base ho1)) (fun _ h_ => h_.1)); have n5_ := Aside0.mk (Kd.R_lower (Kd.R_new' (Kd.R_new' (Kd.R_new' (Kd.R_new' (Kd.R_new' ho0 (Kd.R_lt (by (with_reducible repeat (first | apply Kd.R_alloc | apply Kd.R_drewN | apply Kd.R_drew)); exact HO106.out))) (Kd.R_lt (by (with_reducible repeat (first | apply Kd.R_alloc | apply Kd.R_drewN | apply Kd.R_drew)); exact HO109.out))) (Kd.R_lt (by (with_reducible repeat (first | apply Kd.R_alloc | apply Kd.R_drewN | apply Kd.R_drew)); exact HO113.out))) (Kd.R_lt (by (with_reducible repeat (first | apply Kd.R_alloc | apply Kd.R_drewN | apply Kd.R_drew)); exact HO117.out))) (Kd.R_lt (by (with_reducible repeat (first | apply Kd.R_alloc | apply Kd.R_drewN | apply Kd.R_drew)); exact HO120.out))) (below_size (by repeat (first | (with_reducible first | exact HB.out | apply below_alloc | apply pw_below_drewN | apply below_drew1 | refine below_set ?_ GE101.out) | exact HB.out)))); have n6_ := Aside0.mk (Kd.R_lower (Kd.R_new' (Kd.R_new' (Kd.R_new' (Kd.R_new' (Kd.R_new' ho1 (Kd.R_lt (by (with_reducible repeat (first | apply Kd.R_alloc | apply Kd.R_drewN | apply Kd.R_drew)); exact HO106.out))) (Kd.R_lt (by (with_reducible repeat (first | apply Kd.R_alloc | apply Kd.R_drewN | apply Kd.R_drew)); exact HO109.out))) (Kd.R_lt (by (with_reducible repeat (first | apply Kd.R_alloc | apply Kd.R_drewN | apply Kd.R_drew)); exact HO113.out))) (Kd.R_lt (by (with_reducible repeat (first | apply Kd.R_alloc | apply Kd.R_drewN | apply Kd.R_drew)); exact HO117.out))) (Kd.R_lt (by (with_reducible repeat (first | apply Kd.R_alloc | apply Kd.R_drewN | apply Kd.R_drew)); exact HO120.out))) (below_size (by repeat (first | (with_reducible first | exact HB.out | apply below_alloc | apply pw_below_drewN | apply below_drew1 | refine below_set ?_ GE101.out) | exact HB.out)))); have n7_ := Aside0.mk (blk_below (g := gb101) (o := .cells #[.int .i64 a0_0, .slice A0_1 l0_1.length c0_1, .int .i64 a0_2, .int .i64 a0_3] 24 (0, 0)) (by (with_reducible repeat (first | refine blk_drewN ?_ _ | refine blk_drew ?_ | refine blk_alloc ?_ _)); exact BK101.out) hb); have n8_ := Aside0.mk (below_step (by repeat (first | (with_reducible first | exact HB.out | apply below_alloc | apply pw_below_drewN | apply below_drew1 | refine below_set ?_ GE101.out) | exact HB.out)) hb); clear HO106; clear HO109; clear HO113; clear HO117; clear HO120; clear BK101; clear HB; have HO106 := n0_; have HO109 := n1_; have HO113 := n2_; have HO117 := n3_; have HO120 := n4_; have HO124 := n5_; have HO127 := n6_; have BK101 := n7_; have HB := n8_; clear n0_ n1_ n2_ n3_ n4_ n5_ n6_ n7_ n8_; (try clear hb); (try clear hb2); (try clear hk); (try clear hi); (try clear ho0); (try clear ho1))))
    (try simp only [Act.put, List.setIfInBounds_toArray, List.set_cons_zero, List.set_cons_succ])
    go_cut [92] (fun v92 wc => ∃ (kq : Nat) (x92_11 : Bool), v92 = .bool x92_11 ∧ Aside0 (isobathlaw02_MooringNarrower.j0 kq l1 a2 t104 x92_11 a0_0 l0_1 a0_2 a0_3 = some r) ∧ Aside0 (kq ≤ k) ∧ Aside0 (Kd.R k52 52 wc w.heap.size (fun _ => True) (.slice Ao20 t104.length co20) t104) ∧ Aside0 (wc.heap[gb101]? = some (.cells #[.int .i64 a0_0, (.slice A0_1 l0_1.length c0_1), .int .i64 a0_2, .int .i64 a0_3] 24 (0, 0))) ∧ Aside0 (Below w.heap.size w wc))
    case first =>
      have H := HC12.out
      clear HC12
      by_cases c26 : (wrap64 ((wrap64 ((wrap64 (t110 + t114)) + t121)) + t128)) = 0
      · rw [if_pos c26] at H
        have c26b0 : ((wrap64 ((wrap64 ((wrap64 (t110 + t114)) + t121)) + t128)) == 0) = true := beq_iff_eq.mpr c26
        have c26b1 : ((wrap64 ((wrap64 ((wrap64 (t110 + t114)) + t121)) + t128)) != 0) = false := bne_eq_false_iff_eq.mpr c26
        clear c26
        (first | rw [c26b0] | (simp only [i64_w, i32_w]; rw [c26b0]) | skip)
        replace H := Option.bind_eq_some_iff.mp H
        obtain ⟨t129, A270, H⟩ := H
        replace H : (if t129 = true then ((isobathlaw02_inside.f k t122 t115).bind fun t130 => (if t130 = true then ((isobathlaw02_inside.f k t125 t118).bind fun t131 => (isobathlaw02_MooringNarrower.j0 k l1 a2 t104 (!t131) a0_0 l0_1 a0_2 a0_3)) else (none))) else (none)) = some r := H
        have A27 := Aside0.mk A270
        clear A270
        by_cases c28 : t129 = true
        · subst c28
          have H1 : ((isobathlaw02_inside.f k t122 t115).bind fun t130 => (if t130 = true then ((isobathlaw02_inside.f k t125 t118).bind fun t131 => (isobathlaw02_MooringNarrower.j0 k l1 a2 t104 (!t131) a0_0 l0_1 a0_2 a0_3)) else (none))) = some r := by rw [if_pos rfl] at H; exact H
          clear H
          have H := H1
          clear H1
          replace H := Option.bind_eq_some_iff.mp H
          obtain ⟨t130, A290, H⟩ := H
          replace H : (if t130 = true then ((isobathlaw02_inside.f k t125 t118).bind fun t131 => (isobathlaw02_MooringNarrower.j0 k l1 a2 t104 (!t131) a0_0 l0_1 a0_2 a0_3)) else (none)) = some r := H
          have A29 := Aside0.mk A290
          clear A290
          by_cases c30 : t130 = true
          · subst c30
            have H1 : ((isobathlaw02_inside.f k t125 t118).bind fun t131 => (isobathlaw02_MooringNarrower.j0 k l1 a2 t104 (!t131) a0_0 l0_1 a0_2 a0_3)) = some r := by rw [if_pos rfl] at H; exact H
            clear H
            have H := H1
            clear H1
            replace H := Option.bind_eq_some_iff.mp H
            obtain ⟨t131, A310, H⟩ := H
            replace H : (isobathlaw02_MooringNarrower.j0 k l1 a2 t104 (!t131) a0_0 l0_1 a0_2 a0_3) = some r := H
            have A31 := Aside0.mk A310
            clear A310
            have H' := Aside0.mk H
            clear H
            obtain ⟨Ao32, co32, eo32⟩ := Kd.R_slice HO113.out
            subst eo32
            obtain ⟨Ao33, co33, eo33⟩ := Kd.R_slice HO109.out
            subst eo33
            go_wp2_with (first | (go_at_call 20; (with_reducible refine (isobathlaw02_inside.calls k _ _ t111 _ _ t107 true _ ?side1 ?side2 ?side3 ?side4 A27.out).mono ?_); (case side1 => repeat (first | exact (Kd.R_reads' HO113.out).2.2 | (with_reducible refine Kd.C_alloc ?_ _) | (with_reducible refine Kd.C_drewN ?_ _) | (with_reducible refine Kd.C_drew ?_))); (case side2 => exact (Kd.R_reads' HO113.out).2.1); (case side3 => repeat (first | exact (Kd.R_reads' HO109.out).2.2 | (with_reducible refine Kd.C_alloc ?_ _) | (with_reducible refine Kd.C_drewN ?_ _) | (with_reducible refine Kd.C_drew ?_))); (case side4 => exact (Kd.R_reads' HO109.out).2.1); rintro e w' ⟨rfl, ⟨nd, rfl⟩⟩; (try first | exact ⟨rfl, _, World.drewN_drewN _ _ _⟩ | exact ⟨rfl, _, Eq.trans (World.drewN_drewN _ _ _) (congrArg (World.drewN _) (Nat.add_assoc _ _ _))⟩); obtain ⟨Ao34, co34, eo34⟩ := Kd.R_slice HO124.out; subst eo34; obtain ⟨Ao35, co35, eo35⟩ := Kd.R_slice HO117.out; subst eo35) | (go_at_call 20; (with_reducible refine (isobathlaw02_inside.calls k _ _ t122 _ _ t115 true _ ?side1 ?side2 ?side3 ?side4 A29.out).mono ?_); (case side1 => repeat (first | exact (Kd.R_reads' HO124.out).2.2 | (with_reducible refine Kd.C_alloc ?_ _) | (with_reducible refine Kd.C_drewN ?_ _) | (with_reducible refine Kd.C_drew ?_))); (case side2 => exact (Kd.R_reads' HO124.out).2.1); (case side3 => repeat (first | exact (Kd.R_reads' HO117.out).2.2 | (with_reducible refine Kd.C_alloc ?_ _) | (with_reducible refine Kd.C_drewN ?_ _) | (with_reducible refine Kd.C_drew ?_))); (case side4 => exact (Kd.R_reads' HO117.out).2.1); rintro e w' ⟨rfl, ⟨nd, rfl⟩⟩; (try first | exact ⟨rfl, _, World.drewN_drewN _ _ _⟩ | exact ⟨rfl, _, Eq.trans (World.drewN_drewN _ _ _) (congrArg (World.drewN _) (Nat.add_assoc _ _ _))⟩); obtain ⟨Ao36, co36, eo36⟩ := Kd.R_slice HO127.out; subst eo36; obtain ⟨Ao37, co37, eo37⟩ := Kd.R_slice HO120.out; subst eo37) | (go_at_call 20; (with_reducible refine (isobathlaw02_inside.calls k _ _ t125 _ _ t118 t131 _ ?side1 ?side2 ?side3 ?side4 A31.out).mono ?_); (case side1 => repeat (first | exact (Kd.R_reads' HO127.out).2.2 | (with_reducible refine Kd.C_alloc ?_ _) | (with_reducible refine Kd.C_drewN ?_ _) | (with_reducible refine Kd.C_drew ?_))); (case side2 => exact (Kd.R_reads' HO127.out).2.1); (case side3 => repeat (first | exact (Kd.R_reads' HO120.out).2.2 | (with_reducible refine Kd.C_alloc ?_ _) | (with_reducible refine Kd.C_drewN ?_ _) | (with_reducible refine Kd.C_drew ?_))); (case side4 => exact (Kd.R_reads' HO120.out).2.1); rintro e w' ⟨rfl, ⟨nd, rfl⟩⟩; (try first | exact ⟨rfl, _, World.drewN_drewN _ _ _⟩ | exact ⟨rfl, _, Eq.trans (World.drewN_drewN _ _ _) (congrArg (World.drewN _) (Nat.add_assoc _ _ _))⟩)))
            repeat (go_quiet (first | (go_at_call 20; (with_reducible refine (isobathlaw02_inside.calls k _ _ t111 _ _ t107 true _ ?side1 ?side2 ?side3 ?side4 A27.out).mono ?_); (case side1 => repeat (first | exact (Kd.R_reads' HO113.out).2.2 | (with_reducible refine Kd.C_alloc ?_ _) | (with_reducible refine Kd.C_drewN ?_ _) | (with_reducible refine Kd.C_drew ?_))); (case side2 => exact (Kd.R_reads' HO113.out).2.1); (case side3 => repeat (first | exact (Kd.R_reads' HO109.out).2.2 | (with_reducible refine Kd.C_alloc ?_ _) | (with_reducible refine Kd.C_drewN ?_ _) | (with_reducible refine Kd.C_drew ?_))); (case side4 => exact (Kd.R_reads' HO109.out).2.1); rintro e w' ⟨rfl, ⟨nd, rfl⟩⟩; (try first | exact ⟨rfl, _, World.drewN_drewN _ _ _⟩ | exact ⟨rfl, _, Eq.trans (World.drewN_drewN _ _ _) (congrArg (World.drewN _) (Nat.add_assoc _ _ _))⟩); obtain ⟨Ao34, co34, eo34⟩ := Kd.R_slice HO124.out; subst eo34; obtain ⟨Ao35, co35, eo35⟩ := Kd.R_slice HO117.out; subst eo35) | (go_at_call 20; (with_reducible refine (isobathlaw02_inside.calls k _ _ t122 _ _ t115 true _ ?side1 ?side2 ?side3 ?side4 A29.out).mono ?_); (case side1 => repeat (first | exact (Kd.R_reads' HO124.out).2.2 | (with_reducible refine Kd.C_alloc ?_ _) | (with_reducible refine Kd.C_drewN ?_ _) | (with_reducible refine Kd.C_drew ?_))); (case side2 => exact (Kd.R_reads' HO124.out).2.1); (case side3 => repeat (first | exact (Kd.R_reads' HO117.out).2.2 | (with_reducible refine Kd.C_alloc ?_ _) | (with_reducible refine Kd.C_drewN ?_ _) | (with_reducible refine Kd.C_drew ?_))); (case side4 => exact (Kd.R_reads' HO117.out).2.1); rintro e w' ⟨rfl, ⟨nd, rfl⟩⟩; (try first | exact ⟨rfl, _, World.drewN_drewN _ _ _⟩ | exact ⟨rfl, _, Eq.trans (World.drewN_drewN _ _ _) (congrArg (World.drewN _) (Nat.add_assoc _ _ _))⟩); obtain ⟨Ao36, co36, eo36⟩ := Kd.R_slice HO127.out; subst eo36; obtain ⟨Ao37, co37, eo37⟩ := Kd.R_slice HO120.out; subst eo37) | (go_at_call 20; (with_reducible refine (isobathlaw02_inside.calls k _ _ t125 _ _ t118 t131 _ ?side1 ?side2 ?side3 ?side4 A31.out).mono ?_); (case side1 => repeat (first | exact (Kd.R_reads' HO127.out).2.2 | (with_reducible refine Kd.C_alloc ?_ _) | (with_reducible refine Kd.C_drewN ?_ _) | (with_reducible refine Kd.C_drew ?_))); (case side2 => exact (Kd.R_reads' HO127.out).2.1); (case side3 => repeat (first | exact (Kd.R_reads' HO120.out).2.2 | (with_reducible refine Kd.C_alloc ?_ _) | (with_reducible refine Kd.C_drewN ?_ _) | (with_reducible refine Kd.C_drew ?_))); (case side4 => exact (Kd.R_reads' HO120.out).2.1); rintro e w' ⟨rfl, ⟨nd, rfl⟩⟩; (try first | exact ⟨rfl, _, World.drewN_drewN _ _ _⟩ | exact ⟨rfl, _, Eq.trans (World.drewN_drewN _ _ _) (congrArg (World.drewN _) (Nat.add_assoc _ _ _))⟩))); try go_wp2_with (first | (go_at_call 20; (with_reducible refine (isobathlaw02_inside.calls k _ _ t111 _ _ t107 true _ ?side1 ?side2 ?side3 ?side4 A27.out).mono ?_); (case side1 => repeat (first | exact (Kd.R_reads' HO113.out).2.2 | (with_reducible refine Kd.C_alloc ?_ _) | (with_reducible refine Kd.C_drewN ?_ _) | (with_reducible refine Kd.C_drew ?_))); (case side2 => exact (Kd.R_reads' HO113.out).2.1); (case side3 => repeat (first | exact (Kd.R_reads' HO109.out).2.2 | (with_reducible refine Kd.C_alloc ?_ _) | (with_reducible refine Kd.C_drewN ?_ _) | (with_reducible refine Kd.C_drew ?_))); (case side4 => exact (Kd.R_reads' HO109.out).2.1); rintro e w' ⟨rfl, ⟨nd, rfl⟩⟩; (try first | exact ⟨rfl, _, World.drewN_drewN _ _ _⟩ | exact ⟨rfl, _, Eq.trans (World.drewN_drewN _ _ _) (congrArg (World.drewN _) (Nat.add_assoc _ _ _))⟩); obtain ⟨Ao34, co34, eo34⟩ := Kd.R_slice HO124.out; subst eo34; obtain ⟨Ao35, co35, eo35⟩ := Kd.R_slice HO117.out; subst eo35) | (go_at_call 20; (with_reducible refine (isobathlaw02_inside.calls k _ _ t122 _ _ t115 true _ ?side1 ?side2 ?side3 ?side4 A29.out).mono ?_); (case side1 => repeat (first | exact (Kd.R_reads' HO124.out).2.2 | (with_reducible refine Kd.C_alloc ?_ _) | (with_reducible refine Kd.C_drewN ?_ _) | (with_reducible refine Kd.C_drew ?_))); (case side2 => exact (Kd.R_reads' HO124.out).2.1); (case side3 => repeat (first | exact (Kd.R_reads' HO117.out).2.2 | (with_reducible refine Kd.C_alloc ?_ _) | (with_reducible refine Kd.C_drewN ?_ _) | (with_reducible refine Kd.C_drew ?_))); (case side4 => exact (Kd.R_reads' HO117.out).2.1); rintro e w' ⟨rfl, ⟨nd, rfl⟩⟩; (try first | exact ⟨rfl, _, World.drewN_drewN _ _ _⟩ | exact ⟨rfl, _, Eq.trans (World.drewN_drewN _ _ _) (congrArg (World.drewN _) (Nat.add_assoc _ _ _))⟩); obtain ⟨Ao36, co36, eo36⟩ := Kd.R_slice HO127.out; subst eo36; obtain ⟨Ao37, co37, eo37⟩ := Kd.R_slice HO120.out; subst eo37) | (go_at_call 20; (with_reducible refine (isobathlaw02_inside.calls k _ _ t125 _ _ t118 t131 _ ?side1 ?side2 ?side3 ?side4 A31.out).mono ?_); (case side1 => repeat (first | exact (Kd.R_reads' HO127.out).2.2 | (with_reducible refine Kd.C_alloc ?_ _) | (with_reducible refine Kd.C_drewN ?_ _) | (with_reducible refine Kd.C_drew ?_))); (case side2 => exact (Kd.R_reads' HO127.out).2.1); (case side3 => repeat (first | exact (Kd.R_reads' HO120.out).2.2 | (with_reducible refine Kd.C_alloc ?_ _) | (with_reducible refine Kd.C_drewN ?_ _) | (with_reducible refine Kd.C_drew ?_))); (case side4 => exact (Kd.R_reads' HO120.out).2.1); rintro e w' ⟨rfl, ⟨nd, rfl⟩⟩; (try first | exact ⟨rfl, _, World.drewN_drewN _ _ _⟩ | exact ⟨rfl, _, Eq.trans (World.drewN_drewN _ _ _) (congrArg (World.drewN _) (Nat.add_assoc _ _ _))⟩))))
            go_meet
            case rel => exact ⟨_, (!t131), (by first | rfl | (simp; done) | (simp [*]; done)), H', ⟨by first | omega | exact Nat.le_refl _⟩, ⟨by (with_reducible repeat (first | apply Kd.R_alloc | apply Kd.R_drewN | apply Kd.R_drew)); exact Kd.R_mono HO106.out (fun _ hk => trivial)⟩, ⟨by (with_reducible repeat (first | refine blk_drewN ?_ _ | refine blk_drew ?_ | refine blk_alloc ?_ _)); exact BK101.out⟩, ⟨by repeat (first | (with_reducible first | exact HB.out | apply below_alloc | apply pw_below_drewN | apply below_drew1 | refine below_set ?_ GE101.out) | exact HB.out)⟩⟩
          · replace c30 := Bool.eq_false_iff.mpr c30
            subst c30
            have H1 : (none) = some r := by rw [if_neg (show ¬ (false = true) by decide)] at H; exact H
            clear H
            have H := H1
            clear H1
            exact absurd H (by simp)
        · replace c28 := Bool.eq_false_iff.mpr c28
          subst c28
          have H1 : (none) = some r := by rw [if_neg (show ¬ (false = true) by decide)] at H; exact H
          clear H
          have H := H1
          clear H1
          exact absurd H (by simp)
      · rw [if_neg c26] at H
        exact absurd H (by simp)
    case rest =>
      clear HC12
      try clear c1
      try clear c2
      try clear p2
      try clear c3
      try clear c4
      try clear c6
      try clear p6
      try clear c26
      try clear c26b0
      try clear c26b1
      try clear c28
      try clear c30
      try clear hcz14_0
      try clear hcz14_1
      try clear hcz14_2
      try clear hcz14_3
      try clear hcz17_0
      try clear hcz17_1
      try clear hcz17_2
      try clear hcz17_3
      try clear hcz19_0
      try clear hcz19_1
      try clear hcz19_2
      try clear hcz19_3
      try clear hcz22_0
      try clear hcz22_1
      try clear hcz22_2
      try clear hcz22_3
      try clear hcz24_0
      try clear hcz24_1
      try clear hcz24_2
      try clear hcz24_3
      try clear hfz14_0
      try clear hfz14_1
      try clear hfz14_2
      try clear hfz14_3
      try clear hfz17_0
      try clear hfz17_1
      try clear hfz17_2
      try clear hfz17_3
      try clear hfz19_0
      try clear hfz19_1
      try clear hfz19_2
      try clear hfz19_3
      try clear hfz22_0
      try clear hfz22_1
      try clear hfz22_2
      try clear hfz22_3
      try clear hfz24_0
      try clear hfz24_1
      try clear hfz24_2
      try clear hfz24_3
      obtain ⟨kq, x92_11, rfl, HA, HJ11, HO_9, BK101, HB⟩ := hcut
      cases kq with
      | zero => exact absurd HA.out (by simp [isobathlaw02_MooringNarrower.j0])
      | succ kj11 =>
        have H := HA.out
        clear HA
        simp only [isobathlaw02_MooringNarrower.j0] at H
        by_cases c38 : x92_11 = true
        · subst c38
          have H1 : (none) = some r := by rw [if_pos rfl] at H; exact H
          clear H
          have H := H1
          clear H1
          exact absurd H (by simp)
        · replace c38 := Bool.eq_false_iff.mpr c38
          subst c38
          have H1 : ((mooring_Circle.f a0_0 l0_1 a0_2 a0_3 l1 a2).bind fun bt132 => ((mooring_Circle.f a0_0 l0_1 a0_2 a0_3 t104 a2).bind fun bt134 => ((mooring_Strong.f a0_0 l0_1 a0_2 a0_3 l1 a2).bind fun bt136 => ((mooring_Strong.f a0_0 l0_1 a0_2 a0_3 t104 a2).bind fun bt140 => ((mooring_Holds.f a0_0 l0_1 a0_2 a0_3 l1 a2).bind fun bt144 => ((mooring_Holds.f a0_0 l0_1 a0_2 a0_3 t104 a2).bind fun bt146 => (if (wrap64 ((wrap64 ((wrap64 ((wrap64 ((wrap64 (bt132.2 + bt134.2)) + bt136.2)) + bt140.2)) + bt144.2)) + bt146.2)) = 0 then (if bt134.1 > bt132.1 then (none) else (if (bt136.1.length : Int) = (bt140.1.length : Int) then (if bt144.1 = 1 then (isobathlaw02_MooringNarrower.j1 kj11 bt136.1 bt140.1 false) else (isobathlaw02_MooringNarrower.j1 kj11 bt136.1 bt140.1 (bt146.1 != bt144.1))) else (none))) else (none)))))))) = some r := by rw [if_neg (show ¬ (false = true) by decide)] at H; exact H
          clear H
          have H := H1
          clear H1
          replace H := Option.bind_eq_some_iff.mp H
          obtain ⟨⟨t132, t133⟩, A390, H⟩ := H
          replace H : ((mooring_Circle.f a0_0 l0_1 a0_2 a0_3 t104 a2).bind fun bt134 => ((mooring_Strong.f a0_0 l0_1 a0_2 a0_3 l1 a2).bind fun bt136 => ((mooring_Strong.f a0_0 l0_1 a0_2 a0_3 t104 a2).bind fun bt140 => ((mooring_Holds.f a0_0 l0_1 a0_2 a0_3 l1 a2).bind fun bt144 => ((mooring_Holds.f a0_0 l0_1 a0_2 a0_3 t104 a2).bind fun bt146 => (if (wrap64 ((wrap64 ((wrap64 ((wrap64 ((wrap64 (t133 + bt134.2)) + bt136.2)) + bt140.2)) + bt144.2)) + bt146.2)) = 0 then (if bt134.1 > t132 then (none) else (if (bt136.1.length : Int) = (bt140.1.length : Int) then (if bt144.1 = 1 then (isobathlaw02_MooringNarrower.j1 kj11 bt136.1 bt140.1 false) else (isobathlaw02_MooringNarrower.j1 kj11 bt136.1 bt140.1 (bt146.1 != bt144.1))) else (none))) else (none))))))) = some r := H
          have A39 := Aside0.mk A390
          clear A390
          replace H := Option.bind_eq_some_iff.mp H
          obtain ⟨⟨t134, t135⟩, A400, H⟩ := H
          replace H : ((mooring_Strong.f a0_0 l0_1 a0_2 a0_3 l1 a2).bind fun bt136 => ((mooring_Strong.f a0_0 l0_1 a0_2 a0_3 t104 a2).bind fun bt140 => ((mooring_Holds.f a0_0 l0_1 a0_2 a0_3 l1 a2).bind fun bt144 => ((mooring_Holds.f a0_0 l0_1 a0_2 a0_3 t104 a2).bind fun bt146 => (if (wrap64 ((wrap64 ((wrap64 ((wrap64 ((wrap64 (t133 + t135)) + bt136.2)) + bt140.2)) + bt144.2)) + bt146.2)) = 0 then (if t134 > t132 then (none) else (if (bt136.1.length : Int) = (bt140.1.length : Int) then (if bt144.1 = 1 then (isobathlaw02_MooringNarrower.j1 kj11 bt136.1 bt140.1 false) else (isobathlaw02_MooringNarrower.j1 kj11 bt136.1 bt140.1 (bt146.1 != bt144.1))) else (none))) else (none)))))) = some r := H
          have A40 := Aside0.mk A400
          clear A400
          replace H := Option.bind_eq_some_iff.mp H
          obtain ⟨⟨t136, t139⟩, A410, H⟩ := H
          replace H : ((mooring_Strong.f a0_0 l0_1 a0_2 a0_3 t104 a2).bind fun bt140 => ((mooring_Holds.f a0_0 l0_1 a0_2 a0_3 l1 a2).bind fun bt144 => ((mooring_Holds.f a0_0 l0_1 a0_2 a0_3 t104 a2).bind fun bt146 => (if (wrap64 ((wrap64 ((wrap64 ((wrap64 ((wrap64 (t133 + t135)) + t139)) + bt140.2)) + bt144.2)) + bt146.2)) = 0 then (if t134 > t132 then (none) else (if (t136.length : Int) = (bt140.1.length : Int) then (if bt144.1 = 1 then (isobathlaw02_MooringNarrower.j1 kj11 t136 bt140.1 false) else (isobathlaw02_MooringNarrower.j1 kj11 t136 bt140.1 (bt146.1 != bt144.1))) else (none))) else (none))))) = some r := H
          have A41 := Aside0.mk A410
          clear A410
          replace H := Option.bind_eq_some_iff.mp H
          obtain ⟨⟨t140, t143⟩, A420, H⟩ := H
          replace H : ((mooring_Holds.f a0_0 l0_1 a0_2 a0_3 l1 a2).bind fun bt144 => ((mooring_Holds.f a0_0 l0_1 a0_2 a0_3 t104 a2).bind fun bt146 => (if (wrap64 ((wrap64 ((wrap64 ((wrap64 ((wrap64 (t133 + t135)) + t139)) + t143)) + bt144.2)) + bt146.2)) = 0 then (if t134 > t132 then (none) else (if (t136.length : Int) = (t140.length : Int) then (if bt144.1 = 1 then (isobathlaw02_MooringNarrower.j1 kj11 t136 t140 false) else (isobathlaw02_MooringNarrower.j1 kj11 t136 t140 (bt146.1 != bt144.1))) else (none))) else (none)))) = some r := H
          have A42 := Aside0.mk A420
          clear A420
          replace H := Option.bind_eq_some_iff.mp H
          obtain ⟨⟨t144, t145⟩, A430, H⟩ := H
          replace H : ((mooring_Holds.f a0_0 l0_1 a0_2 a0_3 t104 a2).bind fun bt146 => (if (wrap64 ((wrap64 ((wrap64 ((wrap64 ((wrap64 (t133 + t135)) + t139)) + t143)) + t145)) + bt146.2)) = 0 then (if t134 > t132 then (none) else (if (t136.length : Int) = (t140.length : Int) then (if t144 = 1 then (isobathlaw02_MooringNarrower.j1 kj11 t136 t140 false) else (isobathlaw02_MooringNarrower.j1 kj11 t136 t140 (bt146.1 != t144))) else (none))) else (none))) = some r := H
          have A43 := Aside0.mk A430
          clear A430
          replace H := Option.bind_eq_some_iff.mp H
          obtain ⟨⟨t146, t147⟩, A440, H⟩ := H
          replace H : (if (wrap64 ((wrap64 ((wrap64 ((wrap64 ((wrap64 (t133 + t135)) + t139)) + t143)) + t145)) + t147)) = 0 then (if t134 > t132 then (none) else (if (t136.length : Int) = (t140.length : Int) then (if t144 = 1 then (isobathlaw02_MooringNarrower.j1 kj11 t136 t140 false) else (isobathlaw02_MooringNarrower.j1 kj11 t136 t140 (t146 != t144))) else (none))) else (none)) = some r := H
          have A44 := Aside0.mk A440
          clear A440
          have HC45 := Aside0.mk H
          clear H
          have hcz46_0 : wc.cell? ⟨gb101, 0, none⟩ = some (.int .i64 a0_0) := (blk_cell BK101.out 0).trans rfl
          have hcz46_1 : wc.cell? ⟨gb101, 1, none⟩ = some (.slice A0_1 l0_1.length c0_1) := (blk_cell BK101.out 1).trans rfl
          have hcz46_2 : wc.cell? ⟨gb101, 2, none⟩ = some (.int .i64 a0_2) := (blk_cell BK101.out 2).trans rfl
          have hcz46_3 : wc.cell? ⟨gb101, 3, none⟩ = some (.int .i64 a0_3) := (blk_cell BK101.out 3).trans rfl
          have hfz46_0 := blk_frozen BK101.out 0
          have hfz46_1 := blk_frozen BK101.out 1
          have hfz46_2 := blk_frozen BK101.out 2
          have hfz46_3 := blk_frozen BK101.out 3
          go_upto_region 16 with (first | (go_at_call 21; (with_reducible refine (mooring_Circle.calls a0_0 _ _ l0_1 a0_2 a0_3 _ _ l1 a2 t132 t133 _ ?side1 ?side2 ?side3 ?side4 A39.out).mono ?_); (case side1 => repeat (first | exact (Kd.C_below HR0_1.out HB.out) | (with_reducible refine Kd.C_alloc ?_ _) | (with_reducible refine Kd.C_drewN ?_ _) | (with_reducible refine Kd.C_drew ?_))); (case side2 => exact HC0_1.out); (case side3 => repeat (first | exact (Kd.C_below HR1.out HB.out) | (with_reducible refine Kd.C_alloc ?_ _) | (with_reducible refine Kd.C_drewN ?_ _) | (with_reducible refine Kd.C_drew ?_))); (case side4 => exact HC1.out); rintro e w47 ⟨rfl, hb⟩; have n0_ := Aside0.mk (Kd.R_below (by (with_reducible repeat (first | apply Kd.R_alloc | apply Kd.R_drewN | apply Kd.R_drew)); exact HO_9.out) hb); have n1_ := Aside0.mk (blk_below (g := gb101) (o := .cells #[.int .i64 a0_0, .slice A0_1 l0_1.length c0_1, .int .i64 a0_2, .int .i64 a0_3] 24 (0, 0)) (by (with_reducible repeat (first | refine blk_drewN ?_ _ | refine blk_drew ?_ | refine blk_alloc ?_ _)); exact BK101.out) hb); have n2_ := Aside0.mk (below_step (by repeat (first | (with_reducible first | exact HB.out | apply below_alloc | apply pw_below_drewN | apply below_drew1 | refine below_set ?_ GE101.out) | exact HB.out)) hb); clear HO_9; clear BK101; clear HB; have HO_9 := n0_; have BK101 := n1_; have HB := n2_; clear n0_ n1_ n2_; (try clear hb); (try clear hb2); (try clear hk); (try clear hi); have hcz48_0 : w47.cell? ⟨gb101, 0, none⟩ = some (.int .i64 a0_0) := (blk_cell BK101.out 0).trans rfl; have hcz48_1 : w47.cell? ⟨gb101, 1, none⟩ = some (.slice A0_1 l0_1.length c0_1) := (blk_cell BK101.out 1).trans rfl; have hcz48_2 : w47.cell? ⟨gb101, 2, none⟩ = some (.int .i64 a0_2) := (blk_cell BK101.out 2).trans rfl; have hcz48_3 : w47.cell? ⟨gb101, 3, none⟩ = some (.int .i64 a0_3) := (blk_cell BK101.out 3).trans rfl; have hfz48_0 := blk_frozen BK101.out 0; have hfz48_1 := blk_frozen BK101.out 1; have hfz48_2 := blk_frozen BK101.out 2; have hfz48_3 := blk_frozen BK101.out 3) | (go_at_call 21; (with_reducible refine (mooring_Circle.calls a0_0 _ _ l0_1 a0_2 a0_3 _ _ t104 a2 t134 t135 _ ?side1 ?side2 ?side3 ?side4 A40.out).mono ?_); (case side1 => repeat (first | exact (Kd.C_below HR0_1.out HB.out) | (with_reducible refine Kd.C_alloc ?_ _) | (with_reducible refine Kd.C_drewN ?_ _) | (with_reducible refine Kd.C_drew ?_))); (case side2 => exact HC0_1.out); (case side3 => repeat (first | exact (Kd.R_reads' HO_9.out).2.2 | (with_reducible refine Kd.C_alloc ?_ _) | (with_reducible refine Kd.C_drewN ?_ _) | (with_reducible refine Kd.C_drew ?_))); (case side4 => exact (Kd.R_reads' HO_9.out).2.1); rintro e w49 ⟨rfl, hb⟩; have n0_ := Aside0.mk (Kd.R_below (by (with_reducible repeat (first | apply Kd.R_alloc | apply Kd.R_drewN | apply Kd.R_drew)); exact HO_9.out) hb); have n1_ := Aside0.mk (blk_below (g := gb101) (o := .cells #[.int .i64 a0_0, .slice A0_1 l0_1.length c0_1, .int .i64 a0_2, .int .i64 a0_3] 24 (0, 0)) (by (with_reducible repeat (first | refine blk_drewN ?_ _ | refine blk_drew ?_ | refine blk_alloc ?_ _)); exact BK101.out) hb); have n2_ := Aside0.mk (below_step (by repeat (first | (with_reducible first | exact HB.out | apply below_alloc | apply pw_below_drewN | apply below_drew1 | refine below_set ?_ GE101.out) | exact HB.out)) hb); clear HO_9; clear BK101; clear HB; have HO_9 := n0_; have BK101 := n1_; have HB := n2_; clear n0_ n1_ n2_; (try clear hb); (try clear hb2); (try clear hk); (try clear hi); have hcz50_0 : w49.cell? ⟨gb101, 0, none⟩ = some (.int .i64 a0_0) := (blk_cell BK101.out 0).trans rfl; have hcz50_1 : w49.cell? ⟨gb101, 1, none⟩ = some (.slice A0_1 l0_1.length c0_1) := (blk_cell BK101.out 1).trans rfl; have hcz50_2 : w49.cell? ⟨gb101, 2, none⟩ = some (.int .i64 a0_2) := (blk_cell BK101.out 2).trans rfl; have hcz50_3 : w49.cell? ⟨gb101, 3, none⟩ = some (.int .i64 a0_3) := (blk_cell BK101.out 3).trans rfl; have hfz50_0 := blk_frozen BK101.out 0; have hfz50_1 := blk_frozen BK101.out 1; have hfz50_2 := blk_frozen BK101.out 2; have hfz50_3 := blk_frozen BK101.out 3) | (go_at_call 8; (with_reducible refine (mooring_Strong.calls a0_0 _ _ l0_1 a0_2 a0_3 _ _ l1 a2 t136 t139 _ ?side1 ?side2 ?side3 ?side4 ?sideV A41.out).mono ?_); (case sideV => exact HV_.out.below (by repeat (first | (with_reducible first | exact HB.out | apply below_alloc | apply pw_below_drewN | apply below_drew1 | refine below_set ?_ GE101.out) | exact HB.out))); (case side1 => repeat (first | exact (Kd.C_below HR0_1.out HB.out) | (with_reducible refine Kd.C_alloc ?_ _) | (with_reducible refine Kd.C_drewN ?_ _) | (with_reducible refine Kd.C_drew ?_))); (case side2 => exact HC0_1.out); (case side3 => repeat (first | exact (Kd.C_below HR1.out HB.out) | (with_reducible refine Kd.C_alloc ?_ _) | (with_reducible refine Kd.C_drewN ?_ _) | (with_reducible refine Kd.C_drew ?_))); (case side4 => exact HC1.out); rintro e w51 ⟨v137, rfl, ho0, hb⟩; have n0_ := Aside0.mk (Kd.R_below (by (with_reducible repeat (first | apply Kd.R_alloc | apply Kd.R_drewN | apply Kd.R_drew)); exact HO_9.out) hb); have n1_ := Aside0.mk (Kd.R_lower ho0 (below_size (by repeat (first | (with_reducible first | exact HB.out | apply below_alloc | apply pw_below_drewN | apply below_drew1 | refine below_set ?_ GE101.out) | exact HB.out)))); have n2_ := Aside0.mk (blk_below (g := gb101) (o := .cells #[.int .i64 a0_0, .slice A0_1 l0_1.length c0_1, .int .i64 a0_2, .int .i64 a0_3] 24 (0, 0)) (by (with_reducible repeat (first | refine blk_drewN ?_ _ | refine blk_drew ?_ | refine blk_alloc ?_ _)); exact BK101.out) hb); have n3_ := Aside0.mk (below_step (by repeat (first | (with_reducible first | exact HB.out | apply below_alloc | apply pw_below_drewN | apply below_drew1 | refine below_set ?_ GE101.out) | exact HB.out)) hb); clear HO_9; clear BK101; clear HB; have HO_9 := n0_; have HO138 := n1_; have BK101 := n2_; have HB := n3_; clear n0_ n1_ n2_ n3_; (try clear hb); (try clear hb2); (try clear hk); (try clear hi); (try clear ho0); have hcz52_0 : w51.cell? ⟨gb101, 0, none⟩ = some (.int .i64 a0_0) := (blk_cell BK101.out 0).trans rfl; have hcz52_1 : w51.cell? ⟨gb101, 1, none⟩ = some (.slice A0_1 l0_1.length c0_1) := (blk_cell BK101.out 1).trans rfl; have hcz52_2 : w51.cell? ⟨gb101, 2, none⟩ = some (.int .i64 a0_2) := (blk_cell BK101.out 2).trans rfl; have hcz52_3 : w51.cell? ⟨gb101, 3, none⟩ = some (.int .i64 a0_3) := (blk_cell BK101.out 3).trans rfl; have hfz52_0 := blk_frozen BK101.out 0; have hfz52_1 := blk_frozen BK101.out 1; have hfz52_2 := blk_frozen BK101.out 2; have hfz52_3 := blk_frozen BK101.out 3) | (go_at_call 8; (with_reducible refine (mooring_Strong.calls a0_0 _ _ l0_1 a0_2 a0_3 _ _ t104 a2 t140 t143 _ ?side1 ?side2 ?side3 ?side4 ?sideV A42.out).mono ?_); (case sideV => exact HV_.out.below (by repeat (first | (with_reducible first | exact HB.out | apply below_alloc | apply pw_below_drewN | apply below_drew1 | refine below_set ?_ GE101.out) | exact HB.out))); (case side1 => repeat (first | exact (Kd.C_below HR0_1.out HB.out) | (with_reducible refine Kd.C_alloc ?_ _) | (with_reducible refine Kd.C_drewN ?_ _) | (with_reducible refine Kd.C_drew ?_))); (case side2 => exact HC0_1.out); (case side3 => repeat (first | exact (Kd.R_reads' HO_9.out).2.2 | (with_reducible refine Kd.C_alloc ?_ _) | (with_reducible refine Kd.C_drewN ?_ _) | (with_reducible refine Kd.C_drew ?_))); (case side4 => exact (Kd.R_reads' HO_9.out).2.1); rintro e w53 ⟨v141, rfl, ho0, hb⟩; have n0_ := Aside0.mk (Kd.R_below (by (with_reducible repeat (first | apply Kd.R_alloc | apply Kd.R_drewN | apply Kd.R_drew)); exact HO_9.out) hb); have n1_ := Aside0.mk (Kd.R_elder' (by (with_reducible repeat (first | apply Kd.R_alloc | apply Kd.R_drewN | apply Kd.R_drew)); exact HO138.out) (Kd.R_base ho0) hb); have n2_ := Aside0.mk (Kd.R_lower (Kd.R_new' ho0 (Kd.R_lt (by (with_reducible repeat (first | apply Kd.R_alloc | apply Kd.R_drewN | apply Kd.R_drew)); exact HO138.out))) (below_size (by repeat (first | (with_reducible first | exact HB.out | apply below_alloc | apply pw_below_drewN | apply below_drew1 | refine below_set ?_ GE101.out) | exact HB.out)))); have n3_ := Aside0.mk (blk_below (g := gb101) (o := .cells #[.int .i64 a0_0, .slice A0_1 l0_1.length c0_1, .int .i64 a0_2, .int .i64 a0_3] 24 (0, 0)) (by (with_reducible repeat (first | refine blk_drewN ?_ _ | refine blk_drew ?_ | refine blk_alloc ?_ _)); exact BK101.out) hb); have n4_ := Aside0.mk (below_step (by repeat (first | (with_reducible first | exact HB.out | apply below_alloc | apply pw_below_drewN | apply below_drew1 | refine below_set ?_ GE101.out) | exact HB.out)) hb); clear HO_9; clear HO138; clear BK101; clear HB; have HO_9 := n0_; have HO138 := n1_; have HO142 := n2_; have BK101 := n3_; have HB := n4_; clear n0_ n1_ n2_ n3_ n4_; (try clear hb); (try clear hb2); (try clear hk); (try clear hi); (try clear ho0); have hcz54_0 : w53.cell? ⟨gb101, 0, none⟩ = some (.int .i64 a0_0) := (blk_cell BK101.out 0).trans rfl; have hcz54_1 : w53.cell? ⟨gb101, 1, none⟩ = some (.slice A0_1 l0_1.length c0_1) := (blk_cell BK101.out 1).trans rfl; have hcz54_2 : w53.cell? ⟨gb101, 2, none⟩ = some (.int .i64 a0_2) := (blk_cell BK101.out 2).trans rfl; have hcz54_3 : w53.cell? ⟨gb101, 3, none⟩ = some (.int .i64 a0_3) := (blk_cell BK101.out 3).trans rfl; have hfz54_0 := blk_frozen BK101.out 0; have hfz54_1 := blk_frozen BK101.out 1; have hfz54_2 := blk_frozen BK101.out 2; have hfz54_3 := blk_frozen BK101.out 3) | (go_at_call 10; (with_reducible refine (mooring_Holds.calls a0_0 _ _ l0_1 a0_2 a0_3 _ _ l1 a2 t144 t145 _ ?side1 ?side2 ?side3 ?side4 ?sideV A43.out).mono ?_); (case sideV => exact HV_.out.below (by repeat (first | (with_reducible first | exact HB.out | apply below_alloc | apply pw_below_drewN | apply below_drew1 | refine below_set ?_ GE101.out) | exact HB.out))); (case side1 => repeat (first | exact (Kd.C_below HR0_1.out HB.out) | (with_reducible refine Kd.C_alloc ?_ _) | (with_reducible refine Kd.C_drewN ?_ _) | (with_reducible refine Kd.C_drew ?_))); (case side2 => exact HC0_1.out); (case side3 => repeat (first | exact (Kd.C_below HR1.out HB.out) | (with_reducible refine Kd.C_alloc ?_ _) | (with_reducible refine Kd.C_drewN ?_ _) | (with_reducible refine Kd.C_drew ?_))); (case side4 => exact HC1.out); rintro e w55 ⟨rfl, hb⟩; have n0_ := Aside0.mk (Kd.R_below (by (with_reducible repeat (first | apply Kd.R_alloc | apply Kd.R_drewN | apply Kd.R_drew)); exact HO_9.out) hb); have n1_ := Aside0.mk (Kd.R_below (by (with_reducible repeat (first | apply Kd.R_alloc | apply Kd.R_drewN | apply Kd.R_drew)); exact HO138.out) hb); have n2_ := Aside0.mk (Kd.R_below (by (with_reducible repeat (first | apply Kd.R_alloc | apply Kd.R_drewN | apply Kd.R_drew)); exact HO142.out) hb); have n3_ := Aside0.mk (blk_below (g := gb101) (o := .cells #[.int .i64 a0_0, .slice A0_1 l0_1.length c0_1, .int .i64 a0_2, .int .i64 a0_3] 24 (0, 0)) (by (with_reducible repeat (first | refine blk_drewN ?_ _ | refine blk_drew ?_ | refine blk_alloc ?_ _)); exact BK101.out) hb); have n4_ := Aside0.mk (below_step (by repeat (first | (with_reducible first | exact HB.out | apply below_alloc | apply pw_below_drewN | apply below_drew1 | refine below_set ?_ GE101.out) | exact HB.out)) hb); clear HO_9; clear HO138; clear HO142; clear BK101; clear HB; have HO_9 := n0_; have HO138 := n1_; have HO142 := n2_; have BK101 := n3_; have HB := n4_; clear n0_ n1_ n2_ n3_ n4_; (try clear hb); (try clear hb2); (try clear hk); (try clear hi); have hcz56_0 : w55.cell? ⟨gb101, 0, none⟩ = some (.int .i64 a0_0) := (blk_cell BK101.out 0).trans rfl; have hcz56_1 : w55.cell? ⟨gb101, 1, none⟩ = some (.slice A0_1 l0_1.length c0_1) := (blk_cell BK101.out 1).trans rfl; have hcz56_2 : w55.cell? ⟨gb101, 2, none⟩ = some (.int .i64 a0_2) := (blk_cell BK101.out 2).trans rfl; have hcz56_3 : w55.cell? ⟨gb101, 3, none⟩ = some (.int .i64 a0_3) := (blk_cell BK101.out 3).trans rfl; have hfz56_0 := blk_frozen BK101.out 0; have hfz56_1 := blk_frozen BK101.out 1; have hfz56_2 := blk_frozen BK101.out 2; have hfz56_3 := blk_frozen BK101.out 3) | (go_at_call 10; (with_reducible refine (mooring_Holds.calls a0_0 _ _ l0_1 a0_2 a0_3 _ _ t104 a2 t146 t147 _ ?side1 ?side2 ?side3 ?side4 ?sideV A44.out).mono ?_); (case sideV => exact HV_.out.below (by repeat (first | (with_reducible first | exact HB.out | apply below_alloc | apply pw_below_drewN | apply below_drew1 | refine below_set ?_ GE101.out) | exact HB.out))); (case side1 => repeat (first | exact (Kd.C_below HR0_1.out HB.out) | (with_reducible refine Kd.C_alloc ?_ _) | (with_reducible refine Kd.C_drewN ?_ _) | (with_reducible refine Kd.C_drew ?_))); (case side2 => exact HC0_1.out); (case side3 => repeat (first | exact (Kd.R_reads' HO_9.out).2.2 | (with_reducible refine Kd.C_alloc ?_ _) | (with_reducible refine Kd.C_drewN ?_ _) | (with_reducible refine Kd.C_drew ?_))); (case side4 => exact (Kd.R_reads' HO_9.out).2.1); rintro e w57 ⟨rfl, hb⟩; have n0_ := Aside0.mk (Kd.R_below (by (with_reducible repeat (first | apply Kd.R_alloc | apply Kd.R_drewN | apply Kd.R_drew)); exact HO_9.out) hb); have n1_ := Aside0.mk (Kd.R_below (by (with_reducible repeat (first | apply Kd.R_alloc | apply Kd.R_drewN | apply Kd.R_drew)); exact HO138.out) hb); have n2_ := Aside0.mk (Kd.R_below (by (with_reducible repeat (first | apply Kd.R_alloc | apply Kd.R_drewN | apply Kd.R_drew)); exact HO142.out) hb); have n3_ := Aside0.mk (blk_below (g := gb101) (o := .cells #[.int .i64 a0_0, .slice A0_1 l0_1.length c0_1, .int .i64 a0_2, .int .i64 a0_3] 24 (0, 0)) (by (with_reducible repeat (first | refine blk_drewN ?_ _ | refine blk_drew ?_ | refine blk_alloc ?_ _)); exact BK101.out) hb); have n4_ := Aside0.mk (below_step (by repeat (first | (with_reducible first | exact HB.out | apply below_alloc | apply pw_below_drewN | apply below_drew1 | refine below_set ?_ GE101.out) | exact HB.out)) hb); clear HO_9; clear HO138; clear HO142; clear BK101; clear HB; have HO_9 := n0_; have HO138 := n1_; have HO142 := n2_; have BK101 := n3_; have HB := n4_; clear n0_ n1_ n2_ n3_ n4_; (try clear hb); (try clear hb2); (try clear hk); (try clear hi)))
          repeat (go_quiet (first | (go_at_call 21; (with_reducible refine (mooring_Circle.calls a0_0 _ _ l0_1 a0_2 a0_3 _ _ l1 a2 t132 t133 _ ?side1 ?side2 ?side3 ?side4 A39.out).mono ?_); (case side1 => repeat (first | exact (Kd.C_below HR0_1.out HB.out) | (with_reducible refine Kd.C_alloc ?_ _) | (with_reducible refine Kd.C_drewN ?_ _) | (with_reducible refine Kd.C_drew ?_))); (case side2 => exact HC0_1.out); (case side3 => repeat (first | exact (Kd.C_below HR1.out HB.out) | (with_reducible refine Kd.C_alloc ?_ _) | (with_reducible refine Kd.C_drewN ?_ _) | (with_reducible refine Kd.C_drew ?_))); (case side4 => exact HC1.out); rintro e w47 ⟨rfl, hb⟩; have n0_ := Aside0.mk (Kd.R_below (by (with_reducible repeat (first | apply Kd.R_alloc | apply Kd.R_drewN | apply Kd.R_drew)); exact HO_9.out) hb); have n1_ := Aside0.mk (blk_below (g := gb101) (o := .cells #[.int .i64 a0_0, .slice A0_1 l0_1.length c0_1, .int .i64 a0_2, .int .i64 a0_3] 24 (0, 0)) (by (with_reducible repeat (first | refine blk_drewN ?_ _ | refine blk_drew ?_ | refine blk_alloc ?_ _)); exact BK101.out) hb); have n2_ := Aside0.mk (below_step (by repeat (first | (with_reducible first | exact HB.out | apply below_alloc | apply pw_below_drewN | apply below_drew1 | refine below_set ?_ GE101.out) | exact HB.out)) hb); clear HO_9; clear BK101; clear HB; have HO_9 := n0_; have BK101 := n1_; have HB := n2_; clear n0_ n1_ n2_; (try clear hb); (try clear hb2); (try clear hk); (try clear hi); have hcz48_0 : w47.cell? ⟨gb101, 0, none⟩ = some (.int .i64 a0_0) := (blk_cell BK101.out 0).trans rfl; have hcz48_1 : w47.cell? ⟨gb101, 1, none⟩ = some (.slice A0_1 l0_1.length c0_1) := (blk_cell BK101.out 1).trans rfl; have hcz48_2 : w47.cell? ⟨gb101, 2, none⟩ = some (.int .i64 a0_2) := (blk_cell BK101.out 2).trans rfl; have hcz48_3 : w47.cell? ⟨gb101, 3, none⟩ = some (.int .i64 a0_3) := (blk_cell BK101.out 3).trans rfl; have hfz48_0 := blk_frozen BK101.out 0; have hfz48_1 := blk_frozen BK101.out 1; have hfz48_2 := blk_frozen BK101.out 2; have hfz48_3 := blk_frozen BK101.out 3) | (go_at_call 21; (with_reducible refine (mooring_Circle.calls a0_0 _ _ l0_1 a0_2 a0_3 _ _ t104 a2 t134 t135 _ ?side1 ?side2 ?side3 ?side4 A40.out).mono ?_); (case side1 => repeat (first | exact (Kd.C_below HR0_1.out HB.out) | (with_reducible refine Kd.C_alloc ?_ _) | (with_reducible refine Kd.C_drewN ?_ _) | (with_reducible refine Kd.C_drew ?_))); (case side2 => exact HC0_1.out); (case side3 => repeat (first | exact (Kd.R_reads' HO_9.out).2.2 | (with_reducible refine Kd.C_alloc ?_ _) | (with_reducible refine Kd.C_drewN ?_ _) | (with_reducible refine Kd.C_drew ?_))); (case side4 => exact (Kd.R_reads' HO_9.out).2.1); rintro e w49 ⟨rfl, hb⟩; have n0_ := Aside0.mk (Kd.R_below (by (with_reducible repeat (first | apply Kd.R_alloc | apply Kd.R_drewN | apply Kd.R_drew)); exact HO_9.out) hb); have n1_ := Aside0.mk (blk_below (g := gb101) (o := .cells #[.int .i64 a0_0, .slice A0_1 l0_1.length c0_1, .int .i64 a0_2, .int .i64 a0_3] 24 (0, 0)) (by (with_reducible repeat (first | refine blk_drewN ?_ _ | refine blk_drew ?_ | refine blk_alloc ?_ _)); exact BK101.out) hb); have n2_ := Aside0.mk (below_step (by repeat (first | (with_reducible first | exact HB.out | apply below_alloc | apply pw_below_drewN | apply below_drew1 | refine below_set ?_ GE101.out) | exact HB.out)) hb); clear HO_9; clear BK101; clear HB; have HO_9 := n0_; have BK101 := n1_; have HB := n2_; clear n0_ n1_ n2_; (try clear hb); (try clear hb2); (try clear hk); (try clear hi); have hcz50_0 : w49.cell? ⟨gb101, 0, none⟩ = some (.int .i64 a0_0) := (blk_cell BK101.out 0).trans rfl; have hcz50_1 : w49.cell? ⟨gb101, 1, none⟩ = some (.slice A0_1 l0_1.length c0_1) := (blk_cell BK101.out 1).trans rfl; have hcz50_2 : w49.cell? ⟨gb101, 2, none⟩ = some (.int .i64 a0_2) := (blk_cell BK101.out 2).trans rfl; have hcz50_3 : w49.cell? ⟨gb101, 3, none⟩ = some (.int .i64 a0_3) := (blk_cell BK101.out 3).trans rfl; have hfz50_0 := blk_frozen BK101.out 0; have hfz50_1 := blk_frozen BK101.out 1; have hfz50_2 := blk_frozen BK101.out 2; have hfz50_3 := blk_frozen BK101.out 3) | (go_at_call 8; (with_reducible refine (mooring_Strong.calls a0_0 _ _ l0_1 a0_2 a0_3 _ _ l1 a2 t136 t139 _ ?side1 ?side2 ?side3 ?side4 ?sideV A41.out).mono ?_); (case sideV => exact HV_.out.below (by repeat (first | (with_reducible first | exact HB.out | apply below_alloc | apply pw_below_drewN | apply below_drew1 | refine below_set ?_ GE101.out) | exact HB.out))); (case side1 => repeat (first | exact (Kd.C_below HR0_1.out HB.out) | (with_reducible refine Kd.C_alloc ?_ _) | (with_reducible refine Kd.C_drewN ?_ _) | (with_reducible refine Kd.C_drew ?_))); (case side2 => exact HC0_1.out); (case side3 => repeat (first | exact (Kd.C_below HR1.out HB.out) | (with_reducible refine Kd.C_alloc ?_ _) | (with_reducible refine Kd.C_drewN ?_ _) | (with_reducible refine Kd.C_drew ?_))); (case side4 => exact HC1.out); rintro e w51 ⟨v137, rfl, ho0, hb⟩; have n0_ := Aside0.mk (Kd.R_below (by (with_reducible repeat (first | apply Kd.R_alloc | apply Kd.R_drewN | apply Kd.R_drew)); exact HO_9.out) hb); have n1_ := Aside0.mk (Kd.R_lower ho0 (below_size (by repeat (first | (with_reducible first | exact HB.out | apply below_alloc | apply pw_below_drewN | apply below_drew1 | refine below_set ?_ GE101.out) | exact HB.out)))); have n2_ := Aside0.mk (blk_below (g := gb101) (o := .cells #[.int .i64 a0_0, .slice A0_1 l0_1.length c0_1, .int .i64 a0_2, .int .i64 a0_3] 24 (0, 0)) (by (with_reducible repeat (first | refine blk_drewN ?_ _ | refine blk_drew ?_ | refine blk_alloc ?_ _)); exact BK101.out) hb); have n3_ := Aside0.mk (below_step (by repeat (first | (with_reducible first | exact HB.out | apply below_alloc | apply pw_below_drewN | apply below_drew1 | refine below_set ?_ GE101.out) | exact HB.out)) hb); clear HO_9; clear BK101; clear HB; have HO_9 := n0_; have HO138 := n1_; have BK101 := n2_; have HB := n3_; clear n0_ n1_ n2_ n3_; (try clear hb); (try clear hb2); (try clear hk); (try clear hi); (try clear ho0); have hcz52_0 : w51.cell? ⟨gb101, 0, none⟩ = some (.int .i64 a0_0) := (blk_cell BK101.out 0).trans rfl; have hcz52_1 : w51.cell? ⟨gb101, 1, none⟩ = some (.slice A0_1 l0_1.length c0_1) := (blk_cell BK101.out 1).trans rfl; have hcz52_2 : w51.cell? ⟨gb101, 2, none⟩ = some (.int .i64 a0_2) := (blk_cell BK101.out 2).trans rfl; have hcz52_3 : w51.cell? ⟨gb101, 3, none⟩ = some (.int .i64 a0_3) := (blk_cell BK101.out 3).trans rfl; have hfz52_0 := blk_frozen BK101.out 0; have hfz52_1 := blk_frozen BK101.out 1; have hfz52_2 := blk_frozen BK101.out 2; have hfz52_3 := blk_frozen BK101.out 3) | (go_at_call 8; (with_reducible refine (mooring_Strong.calls a0_0 _ _ l0_1 a0_2 a0_3 _ _ t104 a2 t140 t143 _ ?side1 ?side2 ?side3 ?side4 ?sideV A42.out).mono ?_); (case sideV => exact HV_.out.below (by repeat (first | (with_reducible first | exact HB.out | apply below_alloc | apply pw_below_drewN | apply below_drew1 | refine below_set ?_ GE101.out) | exact HB.out))); (case side1 => repeat (first | exact (Kd.C_below HR0_1.out HB.out) | (with_reducible refine Kd.C_alloc ?_ _) | (with_reducible refine Kd.C_drewN ?_ _) | (with_reducible refine Kd.C_drew ?_))); (case side2 => exact HC0_1.out); (case side3 => repeat (first | exact (Kd.R_reads' HO_9.out).2.2 | (with_reducible refine Kd.C_alloc ?_ _) | (with_reducible refine Kd.C_drewN ?_ _) | (with_reducible refine Kd.C_drew ?_))); (case side4 => exact (Kd.R_reads' HO_9.out).2.1); rintro e w53 ⟨v141, rfl, ho0, hb⟩; have n0_ := Aside0.mk (Kd.R_below (by (with_reducible repeat (first | apply Kd.R_alloc | apply Kd.R_drewN | apply Kd.R_drew)); exact HO_9.out) hb); have n1_ := Aside0.mk (Kd.R_elder' (by (with_reducible repeat (first | apply Kd.R_alloc | apply Kd.R_drewN | apply Kd.R_drew)); exact HO138.out) (Kd.R_base ho0) hb); have n2_ := Aside0.mk (Kd.R_lower (Kd.R_new' ho0 (Kd.R_lt (by (with_reducible repeat (first | apply Kd.R_alloc | apply Kd.R_drewN | apply Kd.R_drew)); exact HO138.out))) (below_size (by repeat (first | (with_reducible first | exact HB.out | apply below_alloc | apply pw_below_drewN | apply below_drew1 | refine below_set ?_ GE101.out) | exact HB.out)))); have n3_ := Aside0.mk (blk_below (g := gb101) (o := .cells #[.int .i64 a0_0, .slice A0_1 l0_1.length c0_1, .int .i64 a0_2, .int .i64 a0_3] 24 (0, 0)) (by (with_reducible repeat (first | refine blk_drewN ?_ _ | refine blk_drew ?_ | refine blk_alloc ?_ _)); exact BK101.out) hb); have n4_ := Aside0.mk (below_step (by repeat (first | (with_reducible first | exact HB.out | apply below_alloc | apply pw_below_drewN | apply below_drew1 | refine below_set ?_ GE101.out) | exact HB.out)) hb); clear HO_9; clear HO138; clear BK101; clear HB; have HO_9 := n0_; have HO138 := n1_; have HO142 := n2_; have BK101 := n3_; have HB := n4_; clear n0_ n1_ n2_ n3_ n4_; (try clear hb); (try clear hb2); (try clear hk); (try clear hi); (try clear ho0); have hcz54_0 : w53.cell? ⟨gb101, 0, none⟩ = some (.int .i64 a0_0) := (blk_cell BK101.out 0).trans rfl; have hcz54_1 : w53.cell? ⟨gb101, 1, none⟩ = some (.slice A0_1 l0_1.length c0_1) := (blk_cell BK101.out 1).trans rfl; have hcz54_2 : w53.cell? ⟨gb101, 2, none⟩ = some (.int .i64 a0_2) := (blk_cell BK101.out 2).trans rfl; have hcz54_3 : w53.cell? ⟨gb101, 3, none⟩ = some (.int .i64 a0_3) := (blk_cell BK101.out 3).trans rfl; have hfz54_0 := blk_frozen BK101.out 0; have hfz54_1 := blk_frozen BK101.out 1; have hfz54_2 := blk_frozen BK101.out 2; have hfz54_3 := blk_frozen BK101.out 3) | (go_at_call 10; (with_reducible refine (mooring_Holds.calls a0_0 _ _ l0_1 a0_2 a0_3 _ _ l1 a2 t144 t145 _ ?side1 ?side2 ?side3 ?side4 ?sideV A43.out).mono ?_); (case sideV => exact HV_.out.below (by repeat (first | (with_reducible first | exact HB.out | apply below_alloc | apply pw_below_drewN | apply below_drew1 | refine below_set ?_ GE101.out) | exact HB.out))); (case side1 => repeat (first | exact (Kd.C_below HR0_1.out HB.out) | (with_reducible refine Kd.C_alloc ?_ _) | (with_reducible refine Kd.C_drewN ?_ _) | (with_reducible refine Kd.C_drew ?_))); (case side2 => exact HC0_1.out); (case side3 => repeat (first | exact (Kd.C_below HR1.out HB.out) | (with_reducible refine Kd.C_alloc ?_ _) | (with_reducible refine Kd.C_drewN ?_ _) | (with_reducible refine Kd.C_drew ?_))); (case side4 => exact HC1.out); rintro e w55 ⟨rfl, hb⟩; have n0_ := Aside0.mk (Kd.R_below (by (with_reducible repeat (first | apply Kd.R_alloc | apply Kd.R_drewN | apply Kd.R_drew)); exact HO_9.out) hb); have n1_ := Aside0.mk (Kd.R_below (by (with_reducible repeat (first | apply Kd.R_alloc | apply Kd.R_drewN | apply Kd.R_drew)); exact HO138.out) hb); have n2_ := Aside0.mk (Kd.R_below (by (with_reducible repeat (first | apply Kd.R_alloc | apply Kd.R_drewN | apply Kd.R_drew)); exact HO142.out) hb); have n3_ := Aside0.mk (blk_below (g := gb101) (o := .cells #[.int .i64 a0_0, .slice A0_1 l0_1.length c0_1, .int .i64 a0_2, .int .i64 a0_3] 24 (0, 0)) (by (with_reducible repeat (first | refine blk_drewN ?_ _ | refine blk_drew ?_ | refine blk_alloc ?_ _)); exact BK101.out) hb); have n4_ := Aside0.mk (below_step (by repeat (first | (with_reducible first | exact HB.out | apply below_alloc | apply pw_below_drewN | apply below_drew1 | refine below_set ?_ GE101.out) | exact HB.out)) hb); clear HO_9; clear HO138; clear HO142; clear BK101; clear HB; have HO_9 := n0_; have HO138 := n1_; have HO142 := n2_; have BK101 := n3_; have HB := n4_; clear n0_ n1_ n2_ n3_ n4_; (try clear hb); (try clear hb2); (try clear hk); (try clear hi); have hcz56_0 : w55.cell? ⟨gb101, 0, none⟩ = some (.int .i64 a0_0) := (blk_cell BK101.out 0).trans rfl; have hcz56_1 : w55.cell? ⟨gb101, 1, none⟩ = some (.slice A0_1 l0_1.length c0_1) := (blk_cell BK101.out 1).trans rfl; have hcz56_2 : w55.cell? ⟨gb101, 2, none⟩ = some (.int .i64 a0_2) := (blk_cell BK101.out 2).trans rfl; have hcz56_3 : w55.cell? ⟨gb101, 3, none⟩ = some (.int .i64 a0_3) := (blk_cell BK101.out 3).trans rfl; have hfz56_0 := blk_frozen BK101.out 0; have hfz56_1 := blk_frozen BK101.out 1; have hfz56_2 := blk_frozen BK101.out 2; have hfz56_3 := blk_frozen BK101.out 3) | (go_at_call 10; (with_reducible refine (mooring_Holds.calls a0_0 _ _ l0_1 a0_2 a0_3 _ _ t104 a2 t146 t147 _ ?side1 ?side2 ?side3 ?side4 ?sideV A44.out).mono ?_); (case sideV => exact HV_.out.below (by repeat (first | (with_reducible first | exact HB.out | apply below_alloc | apply pw_below_drewN | apply below_drew1 | refine below_set ?_ GE101.out) | exact HB.out))); (case side1 => repeat (first | exact (Kd.C_below HR0_1.out HB.out) | (with_reducible refine Kd.C_alloc ?_ _) | (with_reducible refine Kd.C_drewN ?_ _) | (with_reducible refine Kd.C_drew ?_))); (case side2 => exact HC0_1.out); (case side3 => repeat (first | exact (Kd.R_reads' HO_9.out).2.2 | (with_reducible refine Kd.C_alloc ?_ _) | (with_reducible refine Kd.C_drewN ?_ _) | (with_reducible refine Kd.C_drew ?_))); (case side4 => exact (Kd.R_reads' HO_9.out).2.1); rintro e w57 ⟨rfl, hb⟩; have n0_ := Aside0.mk (Kd.R_below (by (with_reducible repeat (first | apply Kd.R_alloc | apply Kd.R_drewN | apply Kd.R_drew)); exact HO_9.out) hb); have n1_ := Aside0.mk (Kd.R_below (by (with_reducible repeat (first | apply Kd.R_alloc | apply Kd.R_drewN | apply Kd.R_drew)); exact HO138.out) hb); have n2_ := Aside0.mk (Kd.R_below (by (with_reducible repeat (first | apply Kd.R_alloc | apply Kd.R_drewN | apply Kd.R_drew)); exact HO142.out) hb); have n3_ := Aside0.mk (blk_below (g := gb101) (o := .cells #[.int .i64 a0_0, .slice A0_1 l0_1.length c0_1, .int .i64 a0_2, .int .i64 a0_3] 24 (0, 0)) (by (with_reducible repeat (first | refine blk_drewN ?_ _ | refine blk_drew ?_ | refine blk_alloc ?_ _)); exact BK101.out) hb); have n4_ := Aside0.mk (below_step (by repeat (first | (with_reducible first | exact HB.out | apply below_alloc | apply pw_below_drewN | apply below_drew1 | refine below_set ?_ GE101.out) | exact HB.out)) hb); clear HO_9; clear HO138; clear HO142; clear BK101; clear HB; have HO_9 := n0_; have HO138 := n1_; have HO142 := n2_; have BK101 := n3_; have HB := n4_; clear n0_ n1_ n2_ n3_ n4_; (try clear hb); (try clear hb2); (try clear hk); (try clear hi))); go_upto_region 16 with (first | (go_at_call 21; (with_reducible refine (mooring_Circle.calls a0_0 _ _ l0_1 a0_2 a0_3 _ _ l1 a2 t132 t133 _ ?side1 ?side2 ?side3 ?side4 A39.out).mono ?_); (case side1 => repeat (first | exact (Kd.C_below HR0_1.out HB.out) | (with_reducible refine Kd.C_alloc ?_ _) | (with_reducible refine Kd.C_drewN ?_ _) | (with_reducible refine Kd.C_drew ?_))); (case side2 => exact HC0_1.out); (case side3 => repeat (first | exact (Kd.C_below HR1.out HB.out) | (with_reducible refine Kd.C_alloc ?_ _) | (with_reducible refine Kd.C_drewN ?_ _) | (with_reducible refine Kd.C_drew ?_))); (case side4 => exact HC1.out); rintro e w47 ⟨rfl, hb⟩; have n0_ := Aside0.mk (Kd.R_below (by (with_reducible repeat (first | apply Kd.R_alloc | apply Kd.R_drewN | apply Kd.R_drew)); exact HO_9.out) hb); have n1_ := Aside0.mk (blk_below (g := gb101) (o := .cells #[.int .i64 a0_0, .slice A0_1 l0_1.length c0_1, .int .i64 a0_2, .int .i64 a0_3] 24 (0, 0)) (by (with_reducible repeat (first | refine blk_drewN ?_ _ | refine blk_drew ?_ | refine blk_alloc ?_ _)); exact BK101.out) hb); have n2_ := Aside0.mk (below_step (by repeat (first | (with_reducible first | exact HB.out | apply below_alloc | apply pw_below_drewN | apply below_drew1 | refine below_set ?_ GE101.out) | exact HB.out)) hb); clear HO_9; clear BK101; clear HB; have HO_9 := n0_; have BK101 := n1_; have HB := n2_; clear n0_ n1_ n2_; (try clear hb); (try clear hb2); (try clear hk); (try clear hi); have hcz48_0 : w47.cell? ⟨gb101, 0, none⟩ = some (.int .i64 a0_0) := (blk_cell BK101.out 0).trans rfl; have hcz48_1 : w47.cell? ⟨gb101, 1, none⟩ = some (.slice A0_1 l0_1.length c0_1) := (blk_cell BK101.out 1).trans rfl; have hcz48_2 : w47.cell? ⟨gb101, 2, none⟩ = some (.int .i64 a0_2) := (blk_cell BK101.out 2).trans rfl; have hcz48_3 : w47.cell? ⟨gb101, 3, none⟩ = some (.int .i64 a0_3) := (blk_cell BK101.out 3).trans rfl; have hfz48_0 := blk_frozen BK101.out 0; have hfz48_1 := blk_frozen BK101.out 1; have hfz48_2 := blk_frozen BK101.out 2; have hfz48_3 := blk_frozen BK101.out 3) | (go_at_call 21; (with_reducible refine (mooring_Circle.calls a0_0 _ _ l0_1 a0_2 a0_3 _ _ t104 a2 t134 t135 _ ?side1 ?side2 ?side3 ?side4 A40.out).mono ?_); (case side1 => repeat (first | exact (Kd.C_below HR0_1.out HB.out) | (with_reducible refine Kd.C_alloc ?_ _) | (with_reducible refine Kd.C_drewN ?_ _) | (with_reducible refine Kd.C_drew ?_))); (case side2 => exact HC0_1.out); (case side3 => repeat (first | exact (Kd.R_reads' HO_9.out).2.2 | (with_reducible refine Kd.C_alloc ?_ _) | (with_reducible refine Kd.C_drewN ?_ _) | (with_reducible refine Kd.C_drew ?_))); (case side4 => exact (Kd.R_reads' HO_9.out).2.1); rintro e w49 ⟨rfl, hb⟩; have n0_ := Aside0.mk (Kd.R_below (by (with_reducible repeat (first | apply Kd.R_alloc | apply Kd.R_drewN | apply Kd.R_drew)); exact HO_9.out) hb); have n1_ := Aside0.mk (blk_below (g := gb101) (o := .cells #[.int .i64 a0_0, .slice A0_1 l0_1.length c0_1, .int .i64 a0_2, .int .i64 a0_3] 24 (0, 0)) (by (with_reducible repeat (first | refine blk_drewN ?_ _ | refine blk_drew ?_ | refine blk_alloc ?_ _)); exact BK101.out) hb); have n2_ := Aside0.mk (below_step (by repeat (first | (with_reducible first | exact HB.out | apply below_alloc | apply pw_below_drewN | apply below_drew1 | refine below_set ?_ GE101.out) | exact HB.out)) hb); clear HO_9; clear BK101; clear HB; have HO_9 := n0_; have BK101 := n1_; have HB := n2_; clear n0_ n1_ n2_; (try clear hb); (try clear hb2); (try clear hk); (try clear hi); have hcz50_0 : w49.cell? ⟨gb101, 0, none⟩ = some (.int .i64 a0_0) := (blk_cell BK101.out 0).trans rfl; have hcz50_1 : w49.cell? ⟨gb101, 1, none⟩ = some (.slice A0_1 l0_1.length c0_1) := (blk_cell BK101.out 1).trans rfl; have hcz50_2 : w49.cell? ⟨gb101, 2, none⟩ = some (.int .i64 a0_2) := (blk_cell BK101.out 2).trans rfl; have hcz50_3 : w49.cell? ⟨gb101, 3, none⟩ = some (.int .i64 a0_3) := (blk_cell BK101.out 3).trans rfl; have hfz50_0 := blk_frozen BK101.out 0; have hfz50_1 := blk_frozen BK101.out 1; have hfz50_2 := blk_frozen BK101.out 2; have hfz50_3 := blk_frozen BK101.out 3) | (go_at_call 8; (with_reducible refine (mooring_Strong.calls a0_0 _ _ l0_1 a0_2 a0_3 _ _ l1 a2 t136 t139 _ ?side1 ?side2 ?side3 ?side4 ?sideV A41.out).mono ?_); (case sideV => exact HV_.out.below (by repeat (first | (with_reducible first | exact HB.out | apply below_alloc | apply pw_below_drewN | apply below_drew1 | refine below_set ?_ GE101.out) | exact HB.out))); (case side1 => repeat (first | exact (Kd.C_below HR0_1.out HB.out) | (with_reducible refine Kd.C_alloc ?_ _) | (with_reducible refine Kd.C_drewN ?_ _) | (with_reducible refine Kd.C_drew ?_))); (case side2 => exact HC0_1.out); (case side3 => repeat (first | exact (Kd.C_below HR1.out HB.out) | (with_reducible refine Kd.C_alloc ?_ _) | (with_reducible refine Kd.C_drewN ?_ _) | (with_reducible refine Kd.C_drew ?_))); (case side4 => exact HC1.out); rintro e w51 ⟨v137, rfl, ho0, hb⟩; have n0_ := Aside0.mk (Kd.R_below (by (with_reducible repeat (first | apply Kd.R_alloc | apply Kd.R_drewN | apply Kd.R_drew)); exact HO_9.out) hb); have n1_ := Aside0.mk (Kd.R_lower ho0 (below_size (by repeat (first | (with_reducible first | exact HB.out | apply below_alloc | apply pw_below_drewN | apply below_drew1 | refine below_set ?_ GE101.out) | exact HB.out)))); have n2_ := Aside0.mk (blk_below (g := gb101) (o := .cells #[.int .i64 a0_0, .slice A0_1 l0_1.length c0_1, .int .i64 a0_2, .int .i64 a0_3] 24 (0, 0)) (by (with_reducible repeat (first | refine blk_drewN ?_ _ | refine blk_drew ?_ | refine blk_alloc ?_ _)); exact BK101.out) hb); have n3_ := Aside0.mk (below_step (by repeat (first | (with_reducible first | exact HB.out | apply below_alloc | apply pw_below_drewN | apply below_drew1 | refine below_set ?_ GE101.out) | exact HB.out)) hb); clear HO_9; clear BK101; clear HB; have HO_9 := n0_; have HO138 := n1_; have BK101 := n2_; have HB := n3_; clear n0_ n1_ n2_ n3_; (try clear hb); (try clear hb2); (try clear hk); (try clear hi); (try clear ho0); have hcz52_0 : w51.cell? ⟨gb101, 0, none⟩ = some (.int .i64 a0_0) := (blk_cell BK101.out 0).trans rfl; have hcz52_1 : w51.cell? ⟨gb101, 1, none⟩ = some (.slice A0_1 l0_1.length c0_1) := (blk_cell BK101.out 1).trans rfl; have hcz52_2 : w51.cell? ⟨gb101, 2, none⟩ = some (.int .i64 a0_2) := (blk_cell BK101.out 2).trans rfl; have hcz52_3 : w51.cell? ⟨gb101, 3, none⟩ = some (.int .i64 a0_3) := (blk_cell BK101.out 3).trans rfl; have hfz52_0 := blk_frozen BK101.out 0; have hfz52_1 := blk_frozen BK101.out 1; have hfz52_2 := blk_frozen BK101.out 2; have hfz52_3 := blk_frozen BK101.out 3) | (go_at_call 8; (with_reducible refine (mooring_Strong.calls a0_0 _ _ l0_1 a0_2 a0_3 _ _ t104 a2 t140 t143 _ ?side1 ?side2 ?side3 ?side4 ?sideV A42.out).mono ?_); (case sideV => exact HV_.out.below (by repeat (first | (with_reducible first | exact HB.out | apply below_alloc | apply pw_below_drewN | apply below_drew1 | refine below_set ?_ GE101.out) | exact HB.out))); (case side1 => repeat (first | exact (Kd.C_below HR0_1.out HB.out) | (with_reducible refine Kd.C_alloc ?_ _) | (with_reducible refine Kd.C_drewN ?_ _) | (with_reducible refine Kd.C_drew ?_))); (case side2 => exact HC0_1.out); (case side3 => repeat (first | exact (Kd.R_reads' HO_9.out).2.2 | (with_reducible refine Kd.C_alloc ?_ _) | (with_reducible refine Kd.C_drewN ?_ _) | (with_reducible refine Kd.C_drew ?_))); (case side4 => exact (Kd.R_reads' HO_9.out).2.1); rintro e w53 ⟨v141, rfl, ho0, hb⟩; have n0_ := Aside0.mk (Kd.R_below (by (with_reducible repeat (first | apply Kd.R_alloc | apply Kd.R_drewN | apply Kd.R_drew)); exact HO_9.out) hb); have n1_ := Aside0.mk (Kd.R_elder' (by (with_reducible repeat (first | apply Kd.R_alloc | apply Kd.R_drewN | apply Kd.R_drew)); exact HO138.out) (Kd.R_base ho0) hb); have n2_ := Aside0.mk (Kd.R_lower (Kd.R_new' ho0 (Kd.R_lt (by (with_reducible repeat (first | apply Kd.R_alloc | apply Kd.R_drewN | apply Kd.R_drew)); exact HO138.out))) (below_size (by repeat (first | (with_reducible first | exact HB.out | apply below_alloc | apply pw_below_drewN | apply below_drew1 | refine below_set ?_ GE101.out) | exact HB.out)))); have n3_ := Aside0.mk (blk_below (g := gb101) (o := .cells #[.int .i64 a0_0, .slice A0_1 l0_1.length c0_1, .int .i64 a0_2, .int .i64 a0_3] 24 (0, 0)) (by (with_reducible repeat (first | refine blk_drewN ?_ _ | refine blk_drew ?_ | refine blk_alloc ?_ _)); exact BK101.out) hb); have n4_ := Aside0.mk (below_step (by repeat (first | (with_reducible first | exact HB.out | apply below_alloc | apply pw_below_drewN | apply below_drew1 | refine below_set ?_ GE101.out) | exact HB.out)) hb); clear HO_9; clear HO138; clear BK101; clear HB; have HO_9 := n0_; have HO138 := n1_; have HO142 := n2_; have BK101 := n3_; have HB := n4_; clear n0_ n1_ n2_ n3_ n4_; (try clear hb); (try clear hb2); (try clear hk); (try clear hi); (try clear ho0); have hcz54_0 : w53.cell? ⟨gb101, 0, none⟩ = some (.int .i64 a0_0) := (blk_cell BK101.out 0).trans rfl; have hcz54_1 : w53.cell? ⟨gb101, 1, none⟩ = some (.slice A0_1 l0_1.length c0_1) := (blk_cell BK101.out 1).trans rfl; have hcz54_2 : w53.cell? ⟨gb101, 2, none⟩ = some (.int .i64 a0_2) := (blk_cell BK101.out 2).trans rfl; have hcz54_3 : w53.cell? ⟨gb101, 3, none⟩ = some (.int .i64 a0_3) := (blk_cell BK101.out 3).trans rfl; have hfz54_0 := blk_frozen BK101.out 0; have hfz54_1 := blk_frozen BK101.out 1; have hfz54_2 := blk_frozen BK101.out 2; have hfz54_3 := blk_frozen BK101.out 3) | (go_at_call 10; (with_reducible refine (mooring_Holds.calls a0_0 _ _ l0_1 a0_2 a0_3 _ _ l1 a2 t144 t145 _ ?side1 ?side2 ?side3 ?side4 ?sideV A43.out).mono ?_); (case sideV => exact HV_.out.below (by repeat (first | (with_reducible first | exact HB.out | apply below_alloc | apply pw_below_drewN | apply below_drew1 | refine below_set ?_ GE101.out) | exact HB.out))); (case side1 => repeat (first | exact (Kd.C_below HR0_1.out HB.out) | (with_reducible refine Kd.C_alloc ?_ _) | (with_reducible refine Kd.C_drewN ?_ _) | (with_reducible refine Kd.C_drew ?_))); (case side2 => exact HC0_1.out); (case side3 => repeat (first | exact (Kd.C_below HR1.out HB.out) | (with_reducible refine Kd.C_alloc ?_ _) | (with_reducible refine Kd.C_drewN ?_ _) | (with_reducible refine Kd.C_drew ?_))); (case side4 => exact HC1.out); rintro e w55 ⟨rfl, hb⟩; have n0_ := Aside0.mk (Kd.R_below (by (with_reducible repeat (first | apply Kd.R_alloc | apply Kd.R_drewN | apply Kd.R_drew)); exact HO_9.out) hb); have n1_ := Aside0.mk (Kd.R_below (by (with_reducible repeat (first | apply Kd.R_alloc | apply Kd.R_drewN | apply Kd.R_drew)); exact HO138.out) hb); have n2_ := Aside0.mk (Kd.R_below (by (with_reducible repeat (first | apply Kd.R_alloc | apply Kd.R_drewN | apply Kd.R_drew)); exact HO142.out) hb); have n3_ := Aside0.mk (blk_below (g := gb101) (o := .cells #[.int .i64 a0_0, .slice A0_1 l0_1.length c0_1, .int .i64 a0_2, .int .i64 a0_3] 24 (0, 0)) (by (with_reducible repeat (first | refine blk_drewN ?_ _ | refine blk_drew ?_ | refine blk_alloc ?_ _)); exact BK101.out) hb); have n4_ := Aside0.mk (below_step (by repeat (first | (with_reducible first | exact HB.out | apply below_alloc | apply pw_below_drewN | apply below_drew1 | refine below_set ?_ GE101.out) | exact HB.out)) hb); clear HO_9; clear HO138; clear HO142; clear BK101; clear HB; have HO_9 := n0_; have HO138 := n1_; have HO142 := n2_; have BK101 := n3_; have HB := n4_; clear n0_ n1_ n2_ n3_ n4_; (try clear hb); (try clear hb2); (try clear hk); (try clear hi); have hcz56_0 : w55.cell? ⟨gb101, 0, none⟩ = some (.int .i64 a0_0) := (blk_cell BK101.out 0).trans rfl; have hcz56_1 : w55.cell? ⟨gb101, 1, none⟩ = some (.slice A0_1 l0_1.length c0_1) := (blk_cell BK101.out 1).trans rfl; have hcz56_2 : w55.cell? ⟨gb101, 2, none⟩ = some (.int .i64 a0_2) := (blk_cell BK101.out 2).trans rfl; have hcz56_3 : w55.cell? ⟨gb101, 3, none⟩ = some (.int .i64 a0_3) := (blk_cell BK101.out 3).trans rfl; have hfz56_0 := blk_frozen BK101.out 0; have hfz56_1 := blk_frozen BK101.out 1; have hfz56_2 := blk_frozen BK101.out 2; have hfz56_3 := blk_frozen BK101.out 3) | (go_at_call 10; (with_reducible refine (mooring_Holds.calls a0_0 _ _ l0_1 a0_2 a0_3 _ _ t104 a2 t146 t147 _ ?side1 ?side2 ?side3 ?side4 ?sideV A44.out).mono ?_); (case sideV => exact HV_.out.below (by repeat (first | (with_reducible first | exact HB.out | apply below_alloc | apply pw_below_drewN | apply below_drew1 | refine below_set ?_ GE101.out) | exact HB.out))); (case side1 => repeat (first | exact (Kd.C_below HR0_1.out HB.out) | (with_reducible refine Kd.C_alloc ?_ _) | (with_reducible refine Kd.C_drewN ?_ _) | (with_reducible refine Kd.C_drew ?_))); (case side2 => exact HC0_1.out); (case side3 => repeat (first | exact (Kd.R_reads' HO_9.out).2.2 | (with_reducible refine Kd.C_alloc ?_ _) | (with_reducible refine Kd.C_drewN ?_ _) | (with_reducible refine Kd.C_drew ?_))); (case side4 => exact (Kd.R_reads' HO_9.out).2.1); rintro e w57 ⟨rfl, hb⟩; have n0_ := Aside0.mk (Kd.R_below (by (with_reducible repeat (first | apply Kd.R_alloc | apply Kd.R_drewN | apply Kd.R_drew)); exact HO_9.out) hb); have n1_ := Aside0.mk (Kd.R_below (by (with_reducible repeat (first | apply Kd.R_alloc | apply Kd.R_drewN | apply Kd.R_drew)); exact HO138.out) hb); have n2_ := Aside0.mk (Kd.R_below (by (with_reducible repeat (first | apply Kd.R_alloc | apply Kd.R_drewN | apply Kd.R_drew)); exact HO142.out) hb); have n3_ := Aside0.mk (blk_below (g := gb101) (o := .cells #[.int .i64 a0_0, .slice A0_1 l0_1.length c0_1, .int .i64 a0_2, .int .i64 a0_3] 24 (0, 0)) (by (with_reducible repeat (first | refine blk_drewN ?_ _ | refine blk_drew ?_ | refine blk_alloc ?_ _)); exact BK101.out) hb); have n4_ := Aside0.mk (below_step (by repeat (first | (with_reducible first | exact HB.out | apply below_alloc | apply pw_below_drewN | apply below_drew1 | refine below_set ?_ GE101.out) | exact HB.out)) hb); clear HO_9; clear HO138; clear HO142; clear BK101; clear HB; have HO_9 := n0_; have HO138 := n1_; have HO142 := n2_; have BK101 := n3_; have HB := n4_; clear n0_ n1_ n2_ n3_ n4_; (try clear hb); (try clear hb2); (try clear hk); (try clear hi))))
          (try simp only [Act.put, List.setIfInBounds_toArray, List.set_cons_zero, List.set_cons_succ])
          go_cut [167] (fun v167 wc => ∃ (kq : Nat) (x167_44 : Bool), v167 = .bool x167_44 ∧ Aside0 (isobathlaw02_MooringNarrower.j1 kq t136 t140 x167_44 = some r) ∧ Aside0 (kq ≤ kj11) ∧ Aside0 (Kd.R (Kd.int .i64) 32 wc w.heap.size (fun k_ => some k_ ≠ (v141 : Value).ownBlock) v137 t136) ∧ Aside0 (Kd.R (Kd.int .i64) 32 wc w.heap.size (fun k_ => some k_ ≠ (v137 : Value).ownBlock) v141 t140) ∧ Aside0 (wc.heap[gb101]? = some (.cells #[.int .i64 a0_0, (.slice A0_1 l0_1.length c0_1), .int .i64 a0_2, .int .i64 a0_3] 24 (0, 0))) ∧ Aside0 (Below w.heap.size w wc))
          case first =>
            have H := HC45.out
            clear HC45
            by_cases c58 : (wrap64 ((wrap64 ((wrap64 ((wrap64 ((wrap64 (t133 + t135)) + t139)) + t143)) + t145)) + t147)) = 0
            · rw [if_pos c58] at H
              have c58b0 : ((wrap64 ((wrap64 ((wrap64 ((wrap64 ((wrap64 (t133 + t135)) + t139)) + t143)) + t145)) + t147)) == 0) = true := beq_iff_eq.mpr c58
              have c58b1 : ((wrap64 ((wrap64 ((wrap64 ((wrap64 ((wrap64 (t133 + t135)) + t139)) + t143)) + t145)) + t147)) != 0) = false := bne_eq_false_iff_eq.mpr c58
              clear c58
              (first | rw [c58b0] | (simp only [i64_w, i32_w]; rw [c58b0]) | skip)
              by_cases c59 : t134 > t132
              · rw [if_pos c59] at H
                exact absurd H (by simp)
              · rw [if_neg c59] at H
                have c59b0 : decide (t132 < t134) = false := decide_eq_false c59
                clear c59
                by_cases c60 : (t136.length : Int) = (t140.length : Int)
                · rw [if_pos c60] at H
                  have c60b0 : ((t136.length : Int) == (t140.length : Int)) = true := beq_iff_eq.mpr c60
                  have c60b1 : ((t136.length : Int) != (t140.length : Int)) = false := bne_eq_false_iff_eq.mpr c60
                  have c60b2 : (t136.length == t140.length) = true := by first | simpa using c60 | (simp at c60 ⊢; omega)
                  clear c60
                  by_cases c61 : t144 = 1
                  · rw [if_pos c61] at H
                    have c61b0 : (t144 == 1) = true := beq_iff_eq.mpr c61
                    have c61b1 : (t144 != 1) = false := bne_eq_false_iff_eq.mpr c61
                    clear c61
                    have H' := Aside0.mk H
                    clear H
                    obtain ⟨Ao62, co62, eo62⟩ := Kd.R_slice HO138.out
                    subst eo62
                    obtain ⟨Ao63, co63, eo63⟩ := Kd.R_slice HO142.out
                    subst eo63
                    go_wp2
                    repeat (go_quiet (fail); try go_wp2)
                    go_meet
                    case rel => exact ⟨_, (false), (by first | rfl | (simp; done) | (simp [*]; done)), H', ⟨by have := HJ11.out; first | omega | exact Nat.le_refl _⟩, ⟨by (with_reducible repeat (first | apply Kd.R_alloc | apply Kd.R_drewN | apply Kd.R_drew)); exact Kd.R_mono HO138.out (fun _ hk => hk.2)⟩, ⟨by (with_reducible repeat (first | apply Kd.R_alloc | apply Kd.R_drewN | apply Kd.R_drew)); exact Kd.R_mono HO142.out (fun _ hk => hk.2)⟩, ⟨by (with_reducible repeat (first | refine blk_drewN ?_ _ | refine blk_drew ?_ | refine blk_alloc ?_ _)); exact BK101.out⟩, ⟨by repeat (first | (with_reducible first | exact HB.out | apply below_alloc | apply pw_below_drewN | apply below_drew1 | refine below_set ?_ GE101.out) | exact HB.out)⟩⟩
                  · rw [if_neg c61] at H
                    have c61b0 : (t144 == 1) = false := beq_eq_false_iff_ne.mpr c61
                    have c61b1 : (t144 != 1) = true := bne_iff_ne.mpr c61
                    have H' := Aside0.mk H
                    clear H
                    obtain ⟨Ao64, co64, eo64⟩ := Kd.R_slice HO138.out
                    subst eo64
                    obtain ⟨Ao65, co65, eo65⟩ := Kd.R_slice HO142.out
                    subst eo65
                    go_wp2
                    repeat (go_quiet (fail); try go_wp2)
                    go_meet
                    case rel => exact ⟨_, ((t146 != t144)), (by first | rfl | (simp; done) | (simp [*]; done)), H', ⟨by have := HJ11.out; first | omega | exact Nat.le_refl _⟩, ⟨by (with_reducible repeat (first | apply Kd.R_alloc | apply Kd.R_drewN | apply Kd.R_drew)); exact Kd.R_mono HO138.out (fun _ hk => hk.2)⟩, ⟨by (with_reducible repeat (first | apply Kd.R_alloc | apply Kd.R_drewN | apply Kd.R_drew)); exact Kd.R_mono HO142.out (fun _ hk => hk.2)⟩, ⟨by (with_reducible repeat (first | refine blk_drewN ?_ _ | refine blk_drew ?_ | refine blk_alloc ?_ _)); exact BK101.out⟩, ⟨by repeat (first | (with_reducible first | exact HB.out | apply below_alloc | apply pw_below_drewN | apply below_drew1 | refine below_set ?_ GE101.out) | exact HB.out)⟩⟩
                · rw [if_neg c60] at H
                  exact absurd H (by simp)
            · rw [if_neg c58] at H
              exact absurd H (by simp)
          case rest =>
            clear HC45
            try clear c1
            try clear c2
            try clear p2
            try clear c3
            try clear c4
            try clear c5
            try clear c6
            try clear p6
            try clear c26
            try clear c26b0
            try clear c26b1
            try clear c28
            try clear c30
            try clear c38
            try clear c58
            try clear c58b0
            try clear c58b1
            try clear c59
            try clear c59b0
            try clear c60
            try clear c60b0
            try clear c60b1
            try clear c60b2
            try clear c61
            try clear c61b0
            try clear c61b1
            try clear p64
            try clear hcz14_0
            try clear hcz14_1
            try clear hcz14_2
            try clear hcz14_3
            try clear hcz17_0
            try clear hcz17_1
            try clear hcz17_2
            try clear hcz17_3
            try clear hcz19_0
            try clear hcz19_1
            try clear hcz19_2
            try clear hcz19_3
            try clear hcz22_0
            try clear hcz22_1
            try clear hcz22_2
            try clear hcz22_3
            try clear hcz24_0
            try clear hcz24_1
            try clear hcz24_2
            try clear hcz24_3
            try clear hcz46_0
            try clear hcz46_1
            try clear hcz46_2
            try clear hcz46_3
            try clear hcz48_0
            try clear hcz48_1
            try clear hcz48_2
            try clear hcz48_3
            try clear hcz50_0
            try clear hcz50_1
            try clear hcz50_2
            try clear hcz50_3
            try clear hcz52_0
            try clear hcz52_1
            try clear hcz52_2
            try clear hcz52_3
            try clear hcz54_0
            try clear hcz54_1
            try clear hcz54_2
            try clear hcz54_3
            try clear hcz56_0
            try clear hcz56_1
            try clear hcz56_2
            try clear hcz56_3
            try clear hfz14_0
            try clear hfz14_1
            try clear hfz14_2
            try clear hfz14_3
            try clear hfz17_0
            try clear hfz17_1
            try clear hfz17_2
            try clear hfz17_3
            try clear hfz19_0
            try clear hfz19_1
            try clear hfz19_2
            try clear hfz19_3
            try clear hfz22_0
            try clear hfz22_1
            try clear hfz22_2
            try clear hfz22_3
            try clear hfz24_0
            try clear hfz24_1
            try clear hfz24_2
            try clear hfz24_3
            try clear hfz46_0
            try clear hfz46_1
            try clear hfz46_2
            try clear hfz46_3
            try clear hfz48_0
            try clear hfz48_1
            try clear hfz48_2
            try clear hfz48_3
            try clear hfz50_0
            try clear hfz50_1
            try clear hfz50_2
            try clear hfz50_3
            try clear hfz52_0
            try clear hfz52_1
            try clear hfz52_2
            try clear hfz52_3
            try clear hfz54_0
            try clear hfz54_1
            try clear hfz54_2
            try clear hfz54_3
            try clear hfz56_0
            try clear hfz56_1
            try clear hfz56_2
            try clear hfz56_3
            try clear p2
            try clear p6
            obtain ⟨kq, x167_44, rfl, HA, HJ44, HO_22, HO_23, BK101, HB⟩ := hcut
            cases kq with
            | zero => exact absurd HA.out (by simp [isobathlaw02_MooringNarrower.j1])
            | succ kj44 =>
              have H := HA.out
              clear HA
              simp only [isobathlaw02_MooringNarrower.j1] at H
              by_cases c66 : x167_44 = true
              · subst c66
                have H1 : (none) = some r := by rw [if_pos rfl] at H; exact H
                clear H
                have H := H1
                clear H1
                exact absurd H (by simp)
              · replace c66 := Bool.eq_false_iff.mpr c66
                subst c66
                have H1 : (isobathlaw02_MooringNarrower.l0 kj44 t136 t140 0) = some r := by rw [if_neg (show ¬ (false = true) by decide)] at H; exact H
                clear H
                have H := H1
                clear H1
                have H' := Aside0.mk H
                clear H
                go_wp2
                repeat (go_quiet (fail); try go_wp2)
                go_loopg [28] kj44 (fun kq v28 w' => ∃ (x28_3 : Int), v28 = .int .i64 x28_3 ∧ Aside0 (isobathlaw02_MooringNarrower.l0 kq t136 t140 x28_3 = some r) ∧ Aside0 (kq ≤ kj44) ∧ Aside0 (Kd.R (Kd.int .i64) 32 w' w.heap.size (fun k_ => some k_ ≠ (v141 : Value).ownBlock) v137 t136) ∧ Aside0 (Kd.R (Kd.int .i64) 32 w' w.heap.size (fun k_ => some k_ ≠ (v137 : Value).ownBlock) v141 t140) ∧ Aside0 (w'.heap[gb101]? = some (.cells #[.int .i64 a0_0, (.slice A0_1 l0_1.length c0_1), .int .i64 a0_2, .int .i64 a0_3] 24 (0, 0))) ∧ Aside0 (Below w.heap.size w w'))
                case atStart => exact ⟨(0), (by first | rfl | (simp; done) | (simp [*]; done)), H', ⟨Nat.le_refl _⟩, ⟨by (with_reducible repeat (first | apply Kd.R_alloc | apply Kd.R_drewN | apply Kd.R_drew)); exact HO_22.out⟩, ⟨by (with_reducible repeat (first | apply Kd.R_alloc | apply Kd.R_drewN | apply Kd.R_drew)); exact HO_23.out⟩, ⟨by (with_reducible repeat (first | refine blk_drewN ?_ _ | refine blk_drew ?_ | refine blk_alloc ?_ _)); exact BK101.out⟩, ⟨by repeat (first | (with_reducible first | exact HB.out | apply below_alloc | apply pw_below_drewN | apply below_drew1 | refine below_set ?_ GE101.out) | exact HB.out)⟩⟩
                case round =>
                  clear H'
                  try clear c1
                  try clear c2
                  try clear p2
                  try clear c3
                  try clear c4
                  try clear c5
                  try clear c6
                  try clear p6
                  try clear c26
                  try clear c26b0
                  try clear c26b1
                  try clear c28
                  try clear c30
                  try clear c38
                  try clear c58
                  try clear c58b0
                  try clear c58b1
                  try clear c59
                  try clear c59b0
                  try clear c60
                  try clear c60b0
                  try clear c60b1
                  try clear c60b2
                  try clear c61
                  try clear c61b0
                  try clear c61b1
                  try clear p64
                  try clear c66
                  try clear hcz14_0
                  try clear hcz14_1
                  try clear hcz14_2
                  try clear hcz14_3
                  try clear hcz17_0
                  try clear hcz17_1
                  try clear hcz17_2
                  try clear hcz17_3
                  try clear hcz19_0
                  try clear hcz19_1
                  try clear hcz19_2
                  try clear hcz19_3
                  try clear hcz22_0
                  try clear hcz22_1
                  try clear hcz22_2
                  try clear hcz22_3
                  try clear hcz24_0
                  try clear hcz24_1
                  try clear hcz24_2
                  try clear hcz24_3
                  try clear hcz46_0
                  try clear hcz46_1
                  try clear hcz46_2
                  try clear hcz46_3
                  try clear hcz48_0
                  try clear hcz48_1
                  try clear hcz48_2
                  try clear hcz48_3
                  try clear hcz50_0
                  try clear hcz50_1
                  try clear hcz50_2
                  try clear hcz50_3
                  try clear hcz52_0
                  try clear hcz52_1
                  try clear hcz52_2
                  try clear hcz52_3
                  try clear hcz54_0
                  try clear hcz54_1
                  try clear hcz54_2
                  try clear hcz54_3
                  try clear hcz56_0
                  try clear hcz56_1
                  try clear hcz56_2
                  try clear hcz56_3
                  try clear hfz14_0
                  try clear hfz14_1
                  try clear hfz14_2
                  try clear hfz14_3
                  try clear hfz17_0
                  try clear hfz17_1
                  try clear hfz17_2
                  try clear hfz17_3
                  try clear hfz19_0
                  try clear hfz19_1
                  try clear hfz19_2
                  try clear hfz19_3
                  try clear hfz22_0
                  try clear hfz22_1
                  try clear hfz22_2
                  try clear hfz22_3
                  try clear hfz24_0
                  try clear hfz24_1
                  try clear hfz24_2
                  try clear hfz24_3
                  try clear hfz46_0
                  try clear hfz46_1
                  try clear hfz46_2
                  try clear hfz46_3
                  try clear hfz48_0
                  try clear hfz48_1
                  try clear hfz48_2
                  try clear hfz48_3
                  try clear hfz50_0
                  try clear hfz50_1
                  try clear hfz50_2
                  try clear hfz50_3
                  try clear hfz52_0
                  try clear hfz52_1
                  try clear hfz52_2
                  try clear hfz52_3
                  try clear hfz54_0
                  try clear hfz54_1
                  try clear hfz54_2
                  try clear hfz54_3
                  try clear hfz56_0
                  try clear hfz56_1
                  try clear hfz56_2
                  try clear hfz56_3
                  try clear p2
                  try clear p6
                  try clear p64
                  obtain ⟨x28_3, rfl, HA, HK3, HO_22, HO_23, BK101, HB⟩ := hrel
                  cases gk with
                  | zero => exact absurd HA.out (by simp [isobathlaw02_MooringNarrower.l0])
                  | succ k3 =>
                    have H := HA.out
                    clear HA
                    simp only [isobathlaw02_MooringNarrower.l0] at H
                    by_cases c67 : x28_3 < (t136.length : Int)
                    · rw [if_pos c67] at H
                      have c67b0 : decide (x28_3 < (t136.length : Int)) = true := decide_eq_true c67
                      clear c67
                      by_cases c68 : 0 ≤ x28_3
                      · rw [if_pos c68] at H
                        have c68b0 : decide (0 ≤ x28_3) = true := decide_eq_true c68
                        clear c68
                        by_cases c69 : (rd t136 x28_3) = 1
                        · rw [if_pos c69] at H
                          have c69b0 : ((rd t136 x28_3) == 1) = true := beq_iff_eq.mpr c69
                          have c69b1 : ((rd t136 x28_3) != 1) = false := bne_eq_false_iff_eq.mpr c69
                          clear c69
                          have H' := Aside0.mk H
                          clear H
                          obtain ⟨Ao70, co70, eo70⟩ := Kd.R_slice HO_22.out
                          subst eo70
                          have p148 : 0 ≤ (x28_3 : Int) := of_decide_eq_true (by first | (with_reducible assumption) | assumption)
                          have q148 : x28_3 < (t136.length : Int) := of_decide_eq_true (by first | (with_reducible assumption) | assumption)
                          obtain ⟨ad148, e148, hx148_0⟩ := Kd.at_int (Kd.R_reads' HO_22.out).2.2 x28_3 p148 q148
                          cases e148
                          replace p148 := eq_true p148
                          replace q148 := eq_true q148
                          go_wp2
                          repeat (go_quiet (fail); try go_wp2)
                          go_roundg k3
                          case measure => have := HJ11.out; have := HJ44.out; have := HK3.out; omega
                          case rel => exact ⟨(wrap64 (x28_3 + 1)), (by first | rfl | (simp; done) | (simp [*]; done)), H', ⟨by have := HJ11.out; have := HJ44.out; have := HK3.out; omega⟩, ⟨by (with_reducible repeat (first | apply Kd.R_alloc | apply Kd.R_drewN | apply Kd.R_drew)); exact HO_22.out⟩, ⟨by (with_reducible repeat (first | apply Kd.R_alloc | apply Kd.R_drewN | apply Kd.R_drew)); exact HO_23.out⟩, ⟨by (with_reducible repeat (first | refine blk_drewN ?_ _ | refine blk_drew ?_ | refine blk_alloc ?_ _)); exact BK101.out⟩, ⟨by repeat (first | (with_reducible first | exact HB.out | apply below_alloc | apply pw_below_drewN | apply below_drew1 | refine below_set ?_ GE101.out) | exact HB.out)⟩⟩
                        · rw [if_neg c69] at H
                          have c69b0 : ((rd t136 x28_3) == 1) = false := beq_eq_false_iff_ne.mpr c69
                          have c69b1 : ((rd t136 x28_3) != 1) = true := bne_iff_ne.mpr c69
                          by_cases c71 : x28_3 < (t140.length : Int)
                          · rw [if_pos c71] at H
                            have c71b0 : decide (x28_3 < (t140.length : Int)) = true := decide_eq_true c71
                            clear c71
                            by_cases c72 : (rd t140 x28_3) = (rd t136 x28_3)
                            · rw [if_pos c72] at H
                              have c72b0 : ((rd t140 x28_3) == (rd t136 x28_3)) = true := beq_iff_eq.mpr c72
                              have c72b1 : ((rd t140 x28_3) != (rd t136 x28_3)) = false := bne_eq_false_iff_eq.mpr c72
                              clear c72
                              have H' := Aside0.mk H
                              clear H
                              obtain ⟨Ao73, co73, eo73⟩ := Kd.R_slice HO_22.out
                              subst eo73
                              have p148 : 0 ≤ (x28_3 : Int) := of_decide_eq_true (by first | (with_reducible assumption) | assumption)
                              have q148 : x28_3 < (t136.length : Int) := of_decide_eq_true (by first | (with_reducible assumption) | assumption)
                              obtain ⟨ad148, e148, hx148_0⟩ := Kd.at_int (Kd.R_reads' HO_22.out).2.2 x28_3 p148 q148
                              cases e148
                              replace p148 := eq_true p148
                              replace q148 := eq_true q148
                              obtain ⟨Ao74, co74, eo74⟩ := Kd.R_slice HO_23.out
                              subst eo74
                              have p149 : 0 ≤ (x28_3 : Int) := of_decide_eq_true (by first | (with_reducible assumption) | assumption)
                              have q149 : x28_3 < (t140.length : Int) := of_decide_eq_true (by first | (with_reducible assumption) | assumption)
                              obtain ⟨ad149, e149, hx149_0⟩ := Kd.at_int (Kd.R_reads' HO_23.out).2.2 x28_3 p149 q149
                              cases e149
                              replace p149 := eq_true p149
                              replace q149 := eq_true q149
                              have p150 : 0 ≤ (x28_3 : Int) := of_decide_eq_true (by first | (with_reducible assumption) | assumption)
                              have q150 : x28_3 < (t136.length : Int) := of_decide_eq_true (by first | (with_reducible assumption) | assumption)
                              obtain ⟨ad150, e150, hx150_0⟩ := Kd.at_int (Kd.R_reads' HO_22.out).2.2 x28_3 p150 q150
                              obtain rfl : ad148 = ad150 := (by injection e150)
                              replace p150 := eq_true p150
                              replace q150 := eq_true q150
                              go_wp2
                              repeat (go_quiet (fail); try go_wp2)
                              go_roundg k3
                              case measure => have := HJ11.out; have := HJ44.out; have := HK3.out; omega
                              case rel => exact ⟨(wrap64 (x28_3 + 1)), (by first | rfl | (simp; done) | (simp [*]; done)), H', ⟨by have := HJ11.out; have := HJ44.out; have := HK3.out; omega⟩, ⟨by (with_reducible repeat (first | apply Kd.R_alloc | apply Kd.R_drewN | apply Kd.R_drew)); exact HO_22.out⟩, ⟨by (with_reducible repeat (first | apply Kd.R_alloc | apply Kd.R_drewN | apply Kd.R_drew)); exact HO_23.out⟩, ⟨by (with_reducible repeat (first | refine blk_drewN ?_ _ | refine blk_drew ?_ | refine blk_alloc ?_ _)); exact BK101.out⟩, ⟨by repeat (first | (with_reducible first | exact HB.out | apply below_alloc | apply pw_below_drewN | apply below_drew1 | refine below_set ?_ GE101.out) | exact HB.out)⟩⟩
                            · rw [if_neg c72] at H
                              exact absurd H (by simp)
                          · rw [if_neg c71] at H
                            exact absurd H (by simp)
                      · rw [if_neg c68] at H
                        exact absurd H (by simp)
                    · rw [if_neg c67] at H
                      have c67b0 : decide (x28_3 < (t136.length : Int)) = false := decide_eq_false c67
                      clear c67
                      replace H := Option.bind_eq_some_iff.mp H
                      obtain ⟨t151, A750, H⟩ := H
                      replace H : (some t151) = some r := H
                      have A75 := Aside0.mk A750
                      clear A750
                      obtain rfl := Option.some.inj H
                      obtain ⟨Ao76, co76, eo76⟩ := Kd.R_slice HO_22.out
                      subst eo76
                      go_wp2_with (first | (go_at_call 7; (with_reducible refine (isobathlaw02_fine.calls k3  t151 _ A75.out).mono ?_); rintro e w77 ⟨rfl, hb⟩; have n0_ := Aside0.mk (Kd.R_below (by (with_reducible repeat (first | apply Kd.R_alloc | apply Kd.R_drewN | apply Kd.R_drew)); exact HO_22.out) hb); have n1_ := Aside0.mk (Kd.R_below (by (with_reducible repeat (first | apply Kd.R_alloc | apply Kd.R_drewN | apply Kd.R_drew)); exact HO_23.out) hb); have n2_ := Aside0.mk (blk_below (g := gb101) (o := .cells #[.int .i64 a0_0, .slice A0_1 l0_1.length c0_1, .int .i64 a0_2, .int .i64 a0_3] 24 (0, 0)) (by (with_reducible repeat (first | refine blk_drewN ?_ _ | refine blk_drew ?_ | refine blk_alloc ?_ _)); exact BK101.out) hb); have n3_ := Aside0.mk (below_step (by repeat (first | (with_reducible first | exact HB.out | apply below_alloc | apply pw_below_drewN | apply below_drew1 | refine below_set ?_ GE101.out) | exact HB.out)) hb); clear HO_22; clear HO_23; clear BK101; clear HB; have HO_22 := n0_; have HO_23 := n1_; have BK101 := n2_; have HB := n3_; clear n0_ n1_ n2_ n3_; (try clear hb); (try clear hb2); (try clear hk); (try clear hi)))
                      repeat (go_quiet (first | (go_at_call 7; (with_reducible refine (isobathlaw02_fine.calls k3  t151 _ A75.out).mono ?_); rintro e w77 ⟨rfl, hb⟩; have n0_ := Aside0.mk (Kd.R_below (by (with_reducible repeat (first | apply Kd.R_alloc | apply Kd.R_drewN | apply Kd.R_drew)); exact HO_22.out) hb); have n1_ := Aside0.mk (Kd.R_below (by (with_reducible repeat (first | apply Kd.R_alloc | apply Kd.R_drewN | apply Kd.R_drew)); exact HO_23.out) hb); have n2_ := Aside0.mk (blk_below (g := gb101) (o := .cells #[.int .i64 a0_0, .slice A0_1 l0_1.length c0_1, .int .i64 a0_2, .int .i64 a0_3] 24 (0, 0)) (by (with_reducible repeat (first | refine blk_drewN ?_ _ | refine blk_drew ?_ | refine blk_alloc ?_ _)); exact BK101.out) hb); have n3_ := Aside0.mk (below_step (by repeat (first | (with_reducible first | exact HB.out | apply below_alloc | apply pw_below_drewN | apply below_drew1 | refine below_set ?_ GE101.out) | exact HB.out)) hb); clear HO_22; clear HO_23; clear BK101; clear HB; have HO_22 := n0_; have HO_23 := n1_; have BK101 := n2_; have HB := n3_; clear n0_ n1_ n2_ n3_; (try clear hb); (try clear hb2); (try clear hk); (try clear hi))); try go_wp2_with (first | (go_at_call 7; (with_reducible refine (isobathlaw02_fine.calls k3  t151 _ A75.out).mono ?_); rintro e w77 ⟨rfl, hb⟩; have n0_ := Aside0.mk (Kd.R_below (by (with_reducible repeat (first | apply Kd.R_alloc | apply Kd.R_drewN | apply Kd.R_drew)); exact HO_22.out) hb); have n1_ := Aside0.mk (Kd.R_below (by (with_reducible repeat (first | apply Kd.R_alloc | apply Kd.R_drewN | apply Kd.R_drew)); exact HO_23.out) hb); have n2_ := Aside0.mk (blk_below (g := gb101) (o := .cells #[.int .i64 a0_0, .slice A0_1 l0_1.length c0_1, .int .i64 a0_2, .int .i64 a0_3] 24 (0, 0)) (by (with_reducible repeat (first | refine blk_drewN ?_ _ | refine blk_drew ?_ | refine blk_alloc ?_ _)); exact BK101.out) hb); have n3_ := Aside0.mk (below_step (by repeat (first | (with_reducible first | exact HB.out | apply below_alloc | apply pw_below_drewN | apply below_drew1 | refine below_set ?_ GE101.out) | exact HB.out)) hb); clear HO_22; clear HO_23; clear BK101; clear HB; have HO_22 := n0_; have HO_23 := n1_; have BK101 := n2_; have HB := n3_; clear n0_ n1_ n2_ n3_; (try clear hb); (try clear hb2); (try clear hk); (try clear hi))))
                      go_ret
                      exact ⟨by first | rfl | (simp [errW_none, errW_some] <;> rfl) | (simp [*, errW_none, errW_some] <;> rfl), by repeat (first | (with_reducible first | exact HB.out | apply below_alloc | apply pw_below_drewN | apply below_drew1 | refine below_set ?_ GE101.out) | exact HB.out)⟩
  · replace c6 := Bool.eq_false_iff.mpr c6
    subst c6
    have H1 : ((isobathlaw02_fine.f k).bind fun t103 => (some t103)) = some r := by rw [if_neg (show ¬ (false = true) by decide)] at H; exact H
    clear H
    have H := H1
    clear H1
    replace H := Option.bind_eq_some_iff.mp H
    obtain ⟨t103, A780, H⟩ := H
    replace H : (some t103) = some r := H
    have A78 := Aside0.mk A780
    clear A780
    obtain rfl := Option.some.inj H
    go_enter Tryd.func4, Tryd.ntmps4
    go_wp2_with (first | ((with_reducible refine gate_dst (N := 4) rfl ?_); (try (refine gate_guard (by rfl) ?_; dsimp only)); refine box_event ?hg (N := 4) ?hd (cs := #[.int .i64 a0_0, .slice A0_1 l0_1.length c0_1, .int .i64 a0_2, .int .i64 a0_3]) (t := 24) ?hr ?_; (case hd => rfl); (case hg => rfl); (case hr => first | (go_simp; done) | (go_simp; rfl)); intro gb101 hg w79 hbox hb; have n0_ := Aside0.mk (below_step (by repeat (first | (with_reducible first | exact HB.out | apply below_alloc | apply pw_below_drewN | apply below_drew1) | exact HB.out)) hb); have n1_ := Aside0.mk (hbox); have n2_ := Aside0.mk ((by rw [hg]; exact (below_size (by repeat (first | (with_reducible first | exact HB.out | apply below_alloc | apply pw_below_drewN | apply below_drew1) | exact HB.out))) : w.heap.size ≤ gb101)); have n3_ := Aside0.mk ((by rw [hg]; exact (below_size (by repeat (first | (with_reducible first | exact HB.out | apply below_alloc | apply pw_below_drewN | apply below_drew1) | exact HB.out))) : w.heap.size ≤ gb101)); clear HB; have HB := n0_; have BK101 := n1_; have GW101 := n2_; have GE101 := n3_; clear n0_ n1_ n2_ n3_; clear hb hbox hg; have hcz80_0 : w79.cell? ⟨gb101, 0, none⟩ = some (.int .i64 a0_0) := (blk_cell BK101.out 0).trans rfl; have hcz80_1 : w79.cell? ⟨gb101, 1, none⟩ = some (.slice A0_1 l0_1.length c0_1) := (blk_cell BK101.out 1).trans rfl; have hcz80_2 : w79.cell? ⟨gb101, 2, none⟩ = some (.int .i64 a0_2) := (blk_cell BK101.out 2).trans rfl; have hcz80_3 : w79.cell? ⟨gb101, 3, none⟩ = some (.int .i64 a0_3) := (blk_cell BK101.out 3).trans rfl; have hfz80_0 := blk_frozen BK101.out 0; have hfz80_1 := blk_frozen BK101.out 1; have hfz80_2 := blk_frozen BK101.out 2; have hfz80_3 := blk_frozen BK101.out 3) | (go_at_call 16; (with_reducible refine (isobathlaw02_valid.calls k a0_0 _ _ l0_1 a0_2 a0_3 _ _ l1 false _ ?side1 ?side2 ?side3 ?side4 A5.out).mono ?_); (case side1 => repeat (first | exact (Kd.C_below HR0_1.out HB.out) | (with_reducible refine Kd.C_alloc ?_ _) | (with_reducible refine Kd.C_drewN ?_ _) | (with_reducible refine Kd.C_drew ?_))); (case side2 => exact HC0_1.out); (case side3 => repeat (first | exact (Kd.C_below HR1.out HB.out) | (with_reducible refine Kd.C_alloc ?_ _) | (with_reducible refine Kd.C_drewN ?_ _) | (with_reducible refine Kd.C_drew ?_))); (case side4 => exact HC1.out); rintro e w81 ⟨rfl, hb⟩; have n0_ := Aside0.mk (blk_below (g := gb101) (o := .cells #[.int .i64 a0_0, .slice A0_1 l0_1.length c0_1, .int .i64 a0_2, .int .i64 a0_3] 24 (0, 0)) (by (with_reducible repeat (first | refine blk_drewN ?_ _ | refine blk_drew ?_ | refine blk_alloc ?_ _)); exact BK101.out) hb); have n1_ := Aside0.mk (below_step (by repeat (first | (with_reducible first | exact HB.out | apply below_alloc | apply pw_below_drewN | apply below_drew1 | refine below_set ?_ GE101.out) | exact HB.out)) hb); clear BK101; clear HB; have BK101 := n0_; have HB := n1_; clear n0_ n1_; (try clear hb); (try clear hb2); (try clear hk); (try clear hi)) | (go_at_call 7; (with_reducible refine (isobathlaw02_fine.calls k  t103 _ A78.out).mono ?_); rintro e w82 ⟨rfl, hb⟩; have n0_ := Aside0.mk (blk_below (g := gb101) (o := .cells #[.int .i64 a0_0, .slice A0_1 l0_1.length c0_1, .int .i64 a0_2, .int .i64 a0_3] 24 (0, 0)) (by (with_reducible repeat (first | refine blk_drewN ?_ _ | refine blk_drew ?_ | refine blk_alloc ?_ _)); exact BK101.out) hb); have n1_ := Aside0.mk (below_step (by repeat (first | (with_reducible first | exact HB.out | apply below_alloc | apply pw_below_drewN | apply below_drew1 | refine below_set ?_ GE101.out) | exact HB.out)) hb); clear BK101; clear HB; have BK101 := n0_; have HB := n1_; clear n0_ n1_; (try clear hb); (try clear hb2); (try clear hk); (try clear hi)))
    repeat (go_quiet (first | ((with_reducible refine gate_dst (N := 4) rfl ?_); (try (refine gate_guard (by rfl) ?_; dsimp only)); refine box_event ?hg (N := 4) ?hd (cs := #[.int .i64 a0_0, .slice A0_1 l0_1.length c0_1, .int .i64 a0_2, .int .i64 a0_3]) (t := 24) ?hr ?_; (case hd => rfl); (case hg => rfl); (case hr => first | (go_simp; done) | (go_simp; rfl)); intro gb101 hg w79 hbox hb; have n0_ := Aside0.mk (below_step (by repeat (first | (with_reducible first | exact HB.out | apply below_alloc | apply pw_below_drewN | apply below_drew1) | exact HB.out)) hb); have n1_ := Aside0.mk (hbox); have n2_ := Aside0.mk ((by rw [hg]; exact (below_size (by repeat (first | (with_reducible first | exact HB.out | apply below_alloc | apply pw_below_drewN | apply below_drew1) | exact HB.out))) : w.heap.size ≤ gb101)); have n3_ := Aside0.mk ((by rw [hg]; exact (below_size (by repeat (first | (with_reducible first | exact HB.out | apply below_alloc | apply pw_below_drewN | apply below_drew1) | exact HB.out))) : w.heap.size ≤ gb101)); clear HB; have HB := n0_; have BK101 := n1_; have GW101 := n2_; have GE101 := n3_; clear n0_ n1_ n2_ n3_; clear hb hbox hg; have hcz80_0 : w79.cell? ⟨gb101, 0, none⟩ = some (.int .i64 a0_0) := (blk_cell BK101.out 0).trans rfl; have hcz80_1 : w79.cell? ⟨gb101, 1, none⟩ = some (.slice A0_1 l0_1.length c0_1) := (blk_cell BK101.out 1).trans rfl; have hcz80_2 : w79.cell? ⟨gb101, 2, none⟩ = some (.int .i64 a0_2) := (blk_cell BK101.out 2).trans rfl; have hcz80_3 : w79.cell? ⟨gb101, 3, none⟩ = some (.int .i64 a0_3) := (blk_cell BK101.out 3).trans rfl; have hfz80_0 := blk_frozen BK101.out 0; have hfz80_1 := blk_frozen BK101.out 1; have hfz80_2 := blk_frozen BK101.out 2; have hfz80_3 := blk_frozen BK101.out 3) | (go_at_call 16; (with_reducible refine (isobathlaw02_valid.calls k a0_0 _ _ l0_1 a0_2 a0_3 _ _ l1 false _ ?side1 ?side2 ?side3 ?side4 A5.out).mono ?_); (case side1 => repeat (first | exact (Kd.C_below HR0_1.out HB.out) | (with_reducible refine Kd.C_alloc ?_ _) | (with_reducible refine Kd.C_drewN ?_ _) | (with_reducible refine Kd.C_drew ?_))); (case side2 => exact HC0_1.out); (case side3 => repeat (first | exact (Kd.C_below HR1.out HB.out) | (with_reducible refine Kd.C_alloc ?_ _) | (with_reducible refine Kd.C_drewN ?_ _) | (with_reducible refine Kd.C_drew ?_))); (case side4 => exact HC1.out); rintro e w81 ⟨rfl, hb⟩; have n0_ := Aside0.mk (blk_below (g := gb101) (o := .cells #[.int .i64 a0_0, .slice A0_1 l0_1.length c0_1, .int .i64 a0_2, .int .i64 a0_3] 24 (0, 0)) (by (with_reducible repeat (first | refine blk_drewN ?_ _ | refine blk_drew ?_ | refine blk_alloc ?_ _)); exact BK101.out) hb); have n1_ := Aside0.mk (below_step (by repeat (first | (with_reducible first | exact HB.out | apply below_alloc | apply pw_below_drewN | apply below_drew1 | refine below_set ?_ GE101.out) | exact HB.out)) hb); clear BK101; clear HB; have BK101 := n0_; have HB := n1_; clear n0_ n1_; (try clear hb); (try clear hb2); (try clear hk); (try clear hi)) | (go_at_call 7; (with_reducible refine (isobathlaw02_fine.calls k  t103 _ A78.out).mono ?_); rintro e w82 ⟨rfl, hb⟩; have n0_ := Aside0.mk (blk_below (g := gb101) (o := .cells #[.int .i64 a0_0, .slice A0_1 l0_1.length c0_1, .int .i64 a0_2, .int .i64 a0_3] 24 (0, 0)) (by (with_reducible repeat (first | refine blk_drewN ?_ _ | refine blk_drew ?_ | refine blk_alloc ?_ _)); exact BK101.out) hb); have n1_ := Aside0.mk (below_step (by repeat (first | (with_reducible first | exact HB.out | apply below_alloc | apply pw_below_drewN | apply below_drew1 | refine below_set ?_ GE101.out) | exact HB.out)) hb); clear BK101; clear HB; have BK101 := n0_; have HB := n1_; clear n0_ n1_; (try clear hb); (try clear hb2); (try clear hk); (try clear hi))); try go_wp2_with (first | ((with_reducible refine gate_dst (N := 4) rfl ?_); (try (refine gate_guard (by rfl) ?_; dsimp only)); refine box_event ?hg (N := 4) ?hd (cs := #[.int .i64 a0_0, .slice A0_1 l0_1.length c0_1, .int .i64 a0_2, .int .i64 a0_3]) (t := 24) ?hr ?_; (case hd => rfl); (case hg => rfl); (case hr => first | (go_simp; done) | (go_simp; rfl)); intro gb101 hg w79 hbox hb; have n0_ := Aside0.mk (below_step (by repeat (first | (with_reducible first | exact HB.out | apply below_alloc | apply pw_below_drewN | apply below_drew1) | exact HB.out)) hb); have n1_ := Aside0.mk (hbox); have n2_ := Aside0.mk ((by rw [hg]; exact (below_size (by repeat (first | (with_reducible first | exact HB.out | apply below_alloc | apply pw_below_drewN | apply below_drew1) | exact HB.out))) : w.heap.size ≤ gb101)); have n3_ := Aside0.mk ((by rw [hg]; exact (below_size (by repeat (first | (with_reducible first | exact HB.out | apply below_alloc | apply pw_below_drewN | apply below_drew1) | exact HB.out))) : w.heap.size ≤ gb101)); clear HB; have HB := n0_; have BK101 := n1_; have GW101 := n2_; have GE101 := n3_; clear n0_ n1_ n2_ n3_; clear hb hbox hg; have hcz80_0 : w79.cell? ⟨gb101, 0, none⟩ = some (.int .i64 a0_0) := (blk_cell BK101.out 0).trans rfl; have hcz80_1 : w79.cell? ⟨gb101, 1, none⟩ = some (.slice A0_1 l0_1.length c0_1) := (blk_cell BK101.out 1).trans rfl; have hcz80_2 : w79.cell? ⟨gb101, 2, none⟩ = some (.int .i64 a0_2) := (blk_cell BK101.out 2).trans rfl; have hcz80_3 : w79.cell? ⟨gb101, 3, none⟩ = some (.int .i64 a0_3) := (blk_cell BK101.out 3).trans rfl; have hfz80_0 := blk_frozen BK101.out 0; have hfz80_1 := blk_frozen BK101.out 1; have hfz80_2 := blk_frozen BK101.out 2; have hfz80_3 := blk_frozen BK101.out 3) | (go_at_call 16; (with_reducible refine (isobathlaw02_valid.calls k a0_0 _ _ l0_1 a0_2 a0_3 _ _ l1 false _ ?side1 ?side2 ?side3 ?side4 A5.out).mono ?_); (case side1 => repeat (first | exact (Kd.C_below HR0_1.out HB.out) | (with_reducible refine Kd.C_alloc ?_ _) | (with_reducible refine Kd.C_drewN ?_ _) | (with_reducible refine Kd.C_drew ?_))); (case side2 => exact HC0_1.out); (case side3 => repeat (first | exact (Kd.C_below HR1.out HB.out) | (with_reducible refine Kd.C_alloc ?_ _) | (with_reducible refine Kd.C_drewN ?_ _) | (with_reducible refine Kd.C_drew ?_))); (case side4 => exact HC1.out); rintro e w81 ⟨rfl, hb⟩; have n0_ := Aside0.mk (blk_below (g := gb101) (o := .cells #[.int .i64 a0_0, .slice A0_1 l0_1.length c0_1, .int .i64 a0_2, .int .i64 a0_3] 24 (0, 0)) (by (with_reducible repeat (first | refine blk_drewN ?_ _ | refine blk_drew ?_ | refine blk_alloc ?_ _)); exact BK101.out) hb); have n1_ := Aside0.mk (below_step (by repeat (first | (with_reducible first | exact HB.out | apply below_alloc | apply pw_below_drewN | apply below_drew1 | refine below_set ?_ GE101.out) | exact HB.out)) hb); clear BK101; clear HB; have BK101 := n0_; have HB := n1_; clear n0_ n1_; (try clear hb); (try clear hb2); (try clear hk); (try clear hi)) | (go_at_call 7; (with_reducible refine (isobathlaw02_fine.calls k  t103 _ A78.out).mono ?_); rintro e w82 ⟨rfl, hb⟩; have n0_ := Aside0.mk (blk_below (g := gb101) (o := .cells #[.int .i64 a0_0, .slice A0_1 l0_1.length c0_1, .int .i64 a0_2, .int .i64 a0_3] 24 (0, 0)) (by (with_reducible repeat (first | refine blk_drewN ?_ _ | refine blk_drew ?_ | refine blk_alloc ?_ _)); exact BK101.out) hb); have n1_ := Aside0.mk (below_step (by repeat (first | (with_reducible first | exact HB.out | apply below_alloc | apply pw_below_drewN | apply below_drew1 | refine below_set ?_ GE101.out) | exact HB.out)) hb); clear BK101; clear HB; have BK101 := n0_; have HB := n1_; clear n0_ n1_; (try clear hb); (try clear hb2); (try clear hk); (try clear hi))))
    go_ret
    exact ⟨by first | rfl | (simp [errW_none, errW_some] <;> rfl) | (simp [*, errW_none, errW_some] <;> rfl), by repeat (first | (with_reducible first | exact HB.out | apply below_alloc | apply pw_below_drewN | apply below_drew1 | refine below_set ?_ GE101.out) | exact HB.out)⟩
end Go.Proofs.YtebcmhajbjkojaaDoor.P
namespace Go.Proofs.YtebcmhajbjkojaaDoor.P
open Go.RowKit Go.Proofs.YtebcmhajbjkojaaDoorW.PrintWords Go.Proofs.YtebcmhajbjkojaaDoorW.PrintLast Go.Proofs.YtebcmhajbjkojaaDoorW.PrintMore
attribute [local go_sem] max2_int min2_int max_two min_two max_three min_three max_four min_four   -- for this text's walks alone
set_option linter.unusedVariables false
set_option linter.unusedSimpArgs false
structure Opens {α : Type} (P : Program) (t : TypeId) (d : Kd α) (B : α → Prop) : Prop where
  run : ∀ {H : Type} {enc : TypeId × Value → H} {W : World} {fuel : Nat} {cs : List Value} {x : DataW H × List MemPlace}, DataW.trod enc P W 0 (fun _ => true) true fuel t cs = some x → ∃ a : α, d.K W a cs ∧ B a
theorem Opens.int {P : Program} {t : TypeId} {k : IntKind} (ht : P.underlying t = some (.int k)) : Opens P t (Kd.int k) (fun n => (Lit.int k n).wf = true) :=
  ⟨fun h => by
    obtain ⟨n, rfl, _, hw⟩ := DataW.trod_int ht h
    exact ⟨n, rfl, hw⟩⟩
theorem Opens.bool {P : Program} {t : TypeId} (ht : P.underlying t = some .bool) : Opens P t Kd.bool (fun _ => True) :=
  ⟨fun h => by
    obtain ⟨n, rfl, _⟩ := DataW.trod_bool ht h
    exact ⟨n, rfl, trivial⟩⟩
theorem Opens.slice {α : Type} {P : Program} {t e : TypeId} {d : Kd α} {B : α → Prop} (ht : P.underlying t = some (.slice e)) (hc : P.cellsOf e = d.sz) (he : Opens P e d B) :
    Opens P t (Kd.slice e d) (fun xs => xs.length ≤ 9223372036854775807 ∧ ∀ x ∈ xs, B x) := by
  refine ⟨fun {H enc W fuel cs x} h => ?_⟩
  rcases Deep.open_slice ht h with ⟨rfl, _⟩ | ⟨a, len, cap, m, n, D, Pl, rfl, _, hl, hm, hmm, _, hx⟩
  · exact ⟨[], ⟨none, 0, rfl, Nat.le_refl _, Kd.C_nil _ _⟩, by simp, by simp⟩
  · have hm' : cap ≤ 9223372036854775807 := by unfold maxLen at hm; exact hm
    have hme : m = cap := by simpa using hmm
    have hel : ∀ i, i < len → ∃ y : α, (∃ cs', W.cells? 0 (a.add (i * P.cellsOf e)) (P.cellsOf e) = some cs' ∧ d.K W y cs') ∧ B y := by
      intro i hi
      obtain ⟨cs', h1, h2⟩ := hx i (by omega)
      obtain ⟨y, hy, hB⟩ := he.run h2
      exact ⟨y, ⟨cs', h1, hy⟩, hB⟩
    rcases Nat.eq_zero_or_pos len with h0 | h0
    · subst h0
      exact ⟨[], ⟨some a, cap, rfl, Nat.zero_le _, rfl, Nat.zero_le _, fun hp => absurd hp (Nat.lt_irrefl 0)⟩, by simp, by simp⟩
    · have : Inhabited α := ⟨Classical.choose (hel 0 h0)⟩
      obtain ⟨f, hf⟩ := Deep.choose_lt (p := fun i y => (∃ cs', W.cells? 0 (a.add (i * P.cellsOf e)) (P.cellsOf e) = some cs' ∧ d.K W y cs') ∧ B y) hel
      have hlen : ((List.range len).map f).length = len := by simp
      refine ⟨(List.range len).map f, ⟨some a, cap, by rw [hlen], by rw [hlen]; exact hl, hlen ▸ rfl, by rw [hlen]; omega, fun _ => ⟨a, rfl, ?_⟩⟩, by rw [hlen]; omega, ?_⟩
      · intro j p hj
        have hjl : j < len := by
          have := (List.getElem?_eq_some_iff.1 hj).1
          rwa [hlen] at this
        have hp : p = f j := by
          rw [List.getElem?_map, List.getElem?_range hjl] at hj
          exact (Option.some.inj hj).symm
        subst hp
        obtain ⟨⟨cs', h1, h2⟩, _⟩ := hf j hjl
        obtain ⟨_, h3, h4⟩ := World.cells?_some h1
        rw [hc] at h3 h4
        refine ⟨cs', h3, h2, fun i u hu => ?_⟩
        have hi : i < d.sz := by
          have := (List.getElem?_eq_some_iff.1 hu).1
          omega
        rw [← Deep.add_add]
        exact (h4 i hi).trans hu
      · intro y hy
        obtain ⟨i, hi, rfl⟩ := List.mem_map.1 hy
        exact (hf i (List.mem_range.1 hi)).2
structure OpensF {α : Type} (P : Program) (fs : List Field) (off tot : Nat) (d : Kd α) (B : α → Prop) : Prop where
  run : ∀ {H : Type} {enc : TypeId × Value → H} {W : World} {n : Nat} {cs : List Value}, cs.length = tot → (∀ (i : Nat) (f : Field), fs[i]? = some f → ∃ y, DataW.trod enc P W 0 (fun _ => true) true n f.type ((cs.drop f.offset).take (P.cellsOf f.type)) = some y) → ∃ a : α, d.K W a (cs.drop off) ∧ B a
theorem OpensF.last {α : Type} {P : Program} {f : Field} {off tot : Nat} {d : Kd α} {B : α → Prop} (ho : f.offset = off) (ht : off + P.cellsOf f.type = tot) (h : Opens P f.type d B) : OpensF P [f] off tot d B := by
  refine ⟨fun {H enc W n cs} hl hy => ?_⟩
  obtain ⟨y, hy⟩ := hy 0 f rfl
  obtain ⟨a, ha, hB⟩ := h.run hy
  rw [ho, List.take_of_length_le (by rw [List.length_drop]; omega)] at ha
  exact ⟨a, ha, hB⟩
theorem OpensF.cons {α β : Type} {P : Program} {f : Field} {fs : List Field} {off tot : Nat} {d1 : Kd α} {d2 : Kd β} {B1 : α → Prop} {B2 : β → Prop} (ho : f.offset = off) (hs : P.cellsOf f.type = d1.sz) (h : Opens P f.type d1 B1) (hr : OpensF P fs (off + d1.sz) tot d2 B2) :
    OpensF P (f :: fs) off tot (Kd.pair d1 d2) (fun x => B1 x.1 ∧ B2 x.2) := by
  refine ⟨fun {H enc W n cs} hl hy => ?_⟩
  obtain ⟨y, hy0⟩ := hy 0 f rfl
  obtain ⟨a, ha, hB⟩ := h.run hy0
  obtain ⟨b, hb, hB2⟩ := hr.run hl (fun i g hg => hy (i + 1) g hg)
  rw [ho, hs] at ha
  refine ⟨(a, b), ⟨(cs.drop off).take d1.sz, cs.drop (off + d1.sz), ?_, ha, hb⟩, hB, hB2⟩
  rw [← List.drop_drop, List.take_append_drop]
theorem Opens.struct {α β : Type} {P : Program} {t : TypeId} {fs : Array Field} {d : Kd α} {B : α → Prop} (ht : P.underlying t = some (.struct fs)) (f : β → α) (g : α → β) (hg : ∀ a, f (g a) = a) (hF : OpensF P fs.toList 0 (P.cellsOf t) d B) : Opens P t (Kd.iso d f) (fun x => B (f x)) := by
  refine ⟨fun {H enc W fuel cs x} h => ?_⟩
  obtain ⟨xs, n, _, _, hl, hlen, hf⟩ := DataW.trod_struct ht h
  obtain ⟨a, ha, hB⟩ := hF.run (n := n) hl (fun i fl hfl => by
    have hfl' : fs[i]? = some fl := by simpa using hfl
    have hi : i < fs.size := (Array.getElem?_eq_some_iff.1 hfl').1
    exact ⟨xs[i]'(by omega), (hf i fl hfl').trans (List.getElem?_eq_getElem (by omega))⟩)
  refine ⟨g a, ?_, ?_⟩
  · show d.K W (f (g a)) cs
    rw [hg]
    simpa using ha
  · show B (f (g a))
    rw [hg]
    exact hB
theorem cells_agg {v : Value} {l : List Value} (h : v.cells.toList = l) (hl : 2 ≤ l.length) : v = .agg l.toArray := by
  subst h
  cases v <;> simp [Value.cells] at hl ⊢
end Go.Proofs.YtebcmhajbjkojaaDoor.P
namespace Go.Proofs.YtebcmhajbjkojaaDoor.P
open Go.RowKit Go.Proofs.YtebcmhajbjkojaaDoorW.PrintWords Go.Proofs.YtebcmhajbjkojaaDoorW.PrintLast Go.Proofs.YtebcmhajbjkojaaDoorW.PrintMore
namespace mooringNarrower
open Go.ChangeShapes Go.WideShapes Go.ChangeAt
set_option linter.unusedVariables false
set_option linter.unusedSimpArgs false
def B56 (x : S56) : Prop := (fun n : Int => (Lit.int .i64 n).wf = true) x.f0 ∧ (fun n : Int => (Lit.int .i64 n).wf = true) x.f1 ∧ (fun n : Int => (Lit.int .i64 n).wf = true) x.f2 ∧ (fun n : Int => (Lit.int .i64 n).wf = true) x.f3
theorem opens56 : Opens Tryd.prog 56 k56 B56 := Opens.struct (fs := _) Tryd.underlying56 (fun x : S56 => (x.f0, x.f1, x.f2, x.f3)) (fun t => ⟨t.1, t.2.1, t.2.2.1, t.2.2.2⟩) (fun _ => rfl) (OpensF.cons rfl (by kernel_rfl) (Opens.int Tryd.underlying2) (OpensF.cons rfl (by kernel_rfl) (Opens.int Tryd.underlying2) (OpensF.cons rfl (by kernel_rfl) (Opens.int Tryd.underlying2) (OpensF.last rfl (by kernel_rfl) (Opens.int Tryd.underlying2)))))
def B24 (x : S24) : Prop := (fun n : Int => (Lit.int .i64 n).wf = true) x.f0 ∧ (fun xs : List S56 => xs.length ≤ 9223372036854775807 ∧ ∀ x ∈ xs, B56 x) x.f1 ∧ (fun n : Int => (Lit.int .i64 n).wf = true) x.f2 ∧ (fun n : Int => (Lit.int .i64 n).wf = true) x.f3
theorem opens24 : Opens Tryd.prog 24 k24 B24 := Opens.struct (fs := _) Tryd.underlying24 (fun x : S24 => (x.f0, x.f1, x.f2, x.f3)) (fun t => ⟨t.1, t.2.1, t.2.2.1, t.2.2.2⟩) (fun _ => rfl) (OpensF.cons rfl (by kernel_rfl) (Opens.int Tryd.underlying2) (OpensF.cons rfl (by kernel_rfl) (Opens.slice Tryd.underlying22 (by kernel_rfl) opens56) (OpensF.cons rfl (by kernel_rfl) (Opens.int Tryd.underlying2) (OpensF.last rfl (by kernel_rfl) (Opens.int Tryd.underlying2)))))
def B52 (x : S52) : Prop := (fun n : Int => (Lit.int .i64 n).wf = true) x.f0 ∧ (fun n : Int => (Lit.int .i64 n).wf = true) x.f1
theorem opens52 : Opens Tryd.prog 52 k52 B52 := Opens.struct (fs := _) Tryd.underlying52 (fun x : S52 => (x.f0, x.f1)) (fun t => ⟨t.1, t.2⟩) (fun _ => rfl) (OpensF.cons rfl (by kernel_rfl) (Opens.int Tryd.underlying2) (OpensF.last rfl (by kernel_rfl) (Opens.int Tryd.underlying2)))
def Pure : Prop := ∀ (x0 : S24) (x1 : (List S52)) (x2 : Bool) (x3 : (List Int)), B24 x0 → (fun xs : List S52 => xs.length ≤ 9223372036854775807 ∧ ∀ x ∈ xs, B52 x) x1 → (fun xs : List Int => xs.length ≤ 9223372036854775807 ∧ ∀ x ∈ xs, (fun n : Int => (Lit.int .u8 n).wf = true) x) x3 → ∃ k, isobathlaw02_MooringNarrower.f k x0.f0 x0.f1 x0.f2 x0.f3 x1 x2 x3 = some true
theorem own : ownKnob Tryd.prog.godebug = none := by kernel_rfl
theorem laidOut : laidOutB Tryd.prog = true := by kernel_rfl
set_option maxRecDepth 100000 in
theorem lifted (hP : Pure) (os : Os) (started : os.Started) (H : Type) (enc : TypeId × Value → H) :
    ReturnsInHanded {} Tryd.checked os 4 .any (fun w args => (Rows.mooringNarrowerSpec.pre enc Tryd.prog Tryd.f4 [] false w args ∧ laidMetH Tryd.prog Rows.mooringNarrowerRow.laid w) ∧ sizedMet enc Tryd.prog Tryd.f4 (OpenSpec.ofChange Rows.mooringNarrowerSpec) false w args) (Rows.mooringNarrowerSpec.post enc Tryd.prog Tryd.f4 false true false false) := by
  refine returnsInHanded_of_change_and (C := Tryd.checked) (X := fun w _ => laidMetH Tryd.prog Rows.mooringNarrowerRow.laid w) (fun _ _ _ hh h => h.of_heap hh) own started (by kernel_rfl) Tryd.func4
    (ChangeSpec.witness_shaped (enc := enc) (C := Tryd.checked) (os := os) (X := fun w _ => laidMetH Tryd.prog Rows.mooringNarrowerRow.laid w) false (World.laidAll Tryd.prog os Rows.mooringNarrowerRow.laid) #[.agg #[.int .i64 0, .slice none 0 0, .int .i64 0, .int .i64 0], .slice none 0 0, .bool false, .slice none 0 0] 8 (World.laidAll_os _ _ _)
      (World.shaped_of_ZipB (by kernel_rfl) (by kernel_rfl)) (by kernel_rfl) (by kernel_rfl) (by kernel_rfl)
      (by rw [MakeChecks.laidMetH_plain _ _ _ (by kernel_rfl)]; exact laidMet_laidAll _ (by kernel_rfl) (by kernel_rfl))) ?_
  intro W base args ds gs before hval0 hW hcnd hsz0 hL _
  have hVD := Verd.of_laid hL
  have hval : ∀ (j : Nat) t v, Tryd.f4.params[j]? = some t → args[j]? = some v → Value.okWide Tryd.prog W .any base t v := hval0
  have hW' := hW
  obtain ⟨p, q, hA0, hV, rfl, hfz, hnd⟩ := hW
  have hA : DataW.TrodAll enc Tryd.prog W 0 (fun _ => true) true Tryd.f4.params.toList args.toList ds p := hA0
  rw [Tryd.params4] at hA hval
  obtain ⟨v0, vs0, d0, ds0, p0, q0, hargs, rfl, rfl, h0, r0⟩ := trodAll_cons hA
  obtain ⟨v1, vs1, d1, ds1, p1, q1, rfl, rfl, rfl, h1, r1⟩ := trodAll_cons r0
  obtain ⟨v2, vs2, d2, ds2, p2, q2, rfl, rfl, rfl, h2, r2⟩ := trodAll_cons r1
  obtain ⟨v3, vs3, d3, ds3, p3, q3, rfl, rfl, rfl, h3, r3⟩ := trodAll_cons r2
  obtain ⟨rfl, rfl, rfl⟩ := trodAll_nil r3
  obtain rfl : args = #[v0, v1, v2, v3] := by cases args; simp_all
  obtain ⟨rfl, rfl⟩ := trodVars_none hV
  have k0 := h0
  have lt0 : ∀ x ∈ p0, x.block < W.heap.size := by obtain ⟨m, hm⟩ := k0; exact DataW.trod_lt m _ _ _ hm
  obtain ⟨m0, hm0⟩ := h0
  obtain ⟨x0, hk0, w0⟩ := Opens.run opens24 hm0
  obtain ⟨A0_1, c0_1, hcs0, hc0_1, hr0_1⟩ := k24_open hk0
  obtain rfl := cells_agg hcs0 (by simp)
  have k1 := h1
  have lt1 : ∀ x ∈ p1, x.block < W.heap.size := by obtain ⟨m, hm⟩ := k1; exact DataW.trod_lt m _ _ _ hm
  obtain ⟨m1, hm1⟩ := h1
  obtain ⟨x1, hk1, w1⟩ := Opens.run (Opens.slice Tryd.underlying25 (by kernel_rfl) opens52) hm1
  obtain ⟨a1, len1, cap1, rfl⟩ := okWide_slice Tryd.underlying25 (hval 1 25 v1 rfl rfl)
  obtain ⟨A1, c1, hcs1, hc1, hr1⟩ := hk1
  simp [Value.cells] at hcs1
  obtain ⟨rfl, rfl, rfl⟩ := hcs1
  obtain ⟨x2, rfl, rfl, rfl⟩ := open_bool Tryd.underlying4 (hval 2 4 v2 rfl rfl) h2
  have k3 := h3
  have lt3 : ∀ x ∈ p3, x.block < W.heap.size := by obtain ⟨m, hm⟩ := k3; exact DataW.trod_lt m _ _ _ hm
  obtain ⟨m3, hm3⟩ := h3
  obtain ⟨x3, hk3, w3⟩ := Opens.run (Opens.slice Tryd.underlying40 (by kernel_rfl) (Opens.int Tryd.underlying5)) hm3
  obtain ⟨a3, len3, cap3, rfl⟩ := okWide_slice Tryd.underlying40 (hval 3 40 v3 rfl rfl)
  obtain ⟨A3, c3, hcs3, hc3, hr3⟩ := hk3
  simp [Value.cells] at hcs3
  obtain ⟨rfl, rfl, rfl⟩ := hcs3
  clear hA0 hval0 hsz0
  obtain ⟨k, hf⟩ := hP x0 x1 x2 x3 w0 w1 w3
  refine (isobathlaw02_MooringNarrower.calls (k := k) (a0_0 := x0.f0) (A0_1 := A0_1) (c0_1 := c0_1) (l0_1 := x0.f1) (a0_2 := x0.f2) (a0_3 := x0.f3) (A1 := a1) (c1 := cap1) (l1 := x1) (a2 := x2) (A3 := a3) (c3 := cap3) (l3 := x3) (r := true) (w := W) (hr0_1 := hr0_1) (hc0_1 := hc0_1) (hr1 := hr1) (hc1 := hc1) (hr3 := hr3) (hc3 := hc3) (hV := hVD) (h := hf)).mono fun e W' ⟨he, hd⟩ => ?_
  have bel : Below W.heap.size W W' := by first | exact hd | (obtain ⟨m, rfl⟩ := hd; exact pw_below_drewN (Below.refl _ _) m)
  subst he
  exact ⟨_, rfl, _, _, _, [], _, [], hW', trodAll_mk1 (shut_bool Tryd.underlying4 _), (trodAll_cons_mk (Below.trod laidOut (by kernel_rfl) (of_decide_eq_true (by kernel_rfl)) k0 bel lt0) (trodAll_cons_mk (Below.trod laidOut (by kernel_rfl) (of_decide_eq_true (by kernel_rfl)) k1 bel lt1) (trodAll_cons_mk (shut_bool Tryd.underlying4 _) (trodAll_cons_mk (Below.trod laidOut (by kernel_rfl) (of_decide_eq_true (by kernel_rfl)) k3 bel lt3) trodAll_mk0)))), rfl, bel.frame _, fun h => by cases h⟩
theorem over (hP : Pure) : Rows.mooringNarrowerRow.holds Tryd.pinned (OpenSpec.ofChange Rows.mooringNarrowerSpec) :=
  OpenClaim.holds_of_wide 4 Tryd.f4 rfl rfl rfl rfl rfl rfl rfl ⟨rfl, rfl, rfl, rfl, rfl⟩ rfl rfl rfl rfl rfl (by kernel_rfl) Tryd.func4 (by kernel_rfl)
    (of_decide_eq_true (by kernel_rfl)) (by unfold Func.isWrapper; first | (rw [if_pos (by decide +kernel)]; kernel_rfl) | (rw [if_neg (by decide +kernel)]; exact ⟨rfl, rfl⟩))
    (fun os started H enc _ => lifted hP os started H enc)
theorem carded (hP : Pure) : Rows.MooringNarrowerCardSaid :=
  Claim7.holds_tied_plain_at .later [] [.data] true (true, "9468df2750a3a616b56c35d77bce0544da94644cfdcb4f77104c5077cc2ea701") false (over hP) (fun _ h => by cases h) (by kernel_rfl) (fun _ h => by cases h) mooringNarrower_row_tie rfl ⟨rfl, rfl⟩ (by kernel_rfl) rfl
    (fun f fn hf hfn => by
      obtain rfl : f = 4 := Option.some.inj ((show Tryd.prog.funcNamed "isobath/isobathlaw02.MooringNarrower" = some 4 by kernel_rfl).symm.trans hf) |>.symm
      obtain rfl : fn = Tryd.f4 := (Option.some.inj (Tryd.func4.symm.trans hfn)).symm
      exact ⟨by kernel_rfl, fun j t ht => by
        rw [Tryd.params4] at ht
        have hm : t ∈ [24, 25, 4, 40] := by simpa using Array.mem_of_getElem? ht
        have hall : ([24, 25, 4, 40].all fun u => !Tryd.prog.wantsStandIn u) = true := by kernel_rfl
        exact (show Tryd.prog.wantsStandIn t = false by simpa using List.all_eq_true.1 hall t hm)⟩)
    (by kernel_rfl)
end mooringNarrower
end Go.Proofs.YtebcmhajbjkojaaDoor.P
namespace Go.Proofs.YtebcmhajbjkojaaDoor.P
open Go.RowKit Go.Proofs.YtebcmhajbjkojaaDoorW.PrintWords Go.Proofs.YtebcmhajbjkojaaDoorW.PrintLast Go.Proofs.YtebcmhajbjkojaaDoorW.PrintMore
attribute [local go_sem] max2_int min2_int max_two min_two max_three min_three max_four min_four   -- for this text's walks alone
set_option linter.unusedVariables false
set_option linter.unusedSimpArgs false
theorem Law2.fine60 : isobathlaw02_fine.f 60 = some true := by kernel_rfl
theorem Law2.fine {k : Nat} (hk : 60 ≤ k) : isobathlaw02_fine.f k = some true := LeO.up (fun k => isobathlaw02_fine.mono k) hk Law2.fine60
end Go.Proofs.YtebcmhajbjkojaaDoor.P
namespace Go.Proofs.YtebcmhajbjkojaaDoor.P
open Go.RowKit Go.Proofs.YtebcmhajbjkojaaDoorW.PrintWords Go.Proofs.YtebcmhajbjkojaaDoorW.PrintLast Go.Proofs.YtebcmhajbjkojaaDoorW.PrintMore
attribute [local go_sem] max2_int min2_int max_two min_two max_three min_three max_four min_four   -- for this text's walks alone
set_option linter.unusedVariables false
set_option linter.unusedSimpArgs false
theorem Law2.long (d : Int) (els : List S56) (an fr : Int) (cs : List S52) : isobathlaw02_long.f d els an fr cs = some (decide (60 < els.length ∨ 60 < cs.length)) := by
  unfold isobathlaw02_long.f
  by_cases h : 60 < els.length
  · rw [if_pos (by omega), decide_eq_true (by omega)]
  · rw [if_neg (by omega)]
    by_cases h2 : 60 < cs.length
    · rw [decide_eq_true (by omega), decide_eq_true (by omega)]
    · rw [decide_eq_false (by omega), decide_eq_false (by omega)]
end Go.Proofs.YtebcmhajbjkojaaDoor.P
namespace Go.Proofs.YtebcmhajbjkojaaDoor.P
open Go.RowKit Go.Proofs.YtebcmhajbjkojaaDoorW.PrintWords Go.Proofs.YtebcmhajbjkojaaDoorW.PrintLast Go.Proofs.YtebcmhajbjkojaaDoorW.PrintMore
attribute [local go_sem] max2_int min2_int max_two min_two max_three min_three max_four min_four   -- for this text's walks alone
set_option linter.unusedVariables false
set_option linter.unusedSimpArgs false
theorem Moor.rootUp_le {n s : Int} (h0 : 0 ≤ n) (hn : n < 1152921504606846976) (hs : 0 ≤ s) (h : n ≤ s * s) : Moor.rootUp n ≤ s := by
  obtain ⟨r0, r1, r2⟩ := Moor.root_is h0 hn
  unfold Moor.rootUp
  by_cases c : Moor.root n * Moor.root n < n
  · rw [if_pos c]
    have := lt_of_sq (a := Moor.root n) (b := s) hs (by omega)
    omega
  · rw [if_neg c]
    exact le_of_sq hs (by omega)
theorem Moor.le_root {n s : Int} (h0 : 0 ≤ n) (hn : n < 1152921504606846976) (h : s * s ≤ n) : s ≤ Moor.root n := by
  obtain ⟨r0, r1, r2⟩ := Moor.root_is h0 hn
  have := lt_of_sq (a := s) (b := Moor.root n + 1) (by omega) (by omega)
  omega
theorem Moor.root_mono {n m : Int} (h0 : 0 ≤ n) (h : n ≤ m) (hm : m < 1152921504606846976) : Moor.root n ≤ Moor.root m := by
  obtain ⟨r0, r1, r2⟩ := Moor.root_is h0 (Int.lt_of_le_of_lt h hm)
  exact Moor.le_root (Int.le_trans h0 h) hm (Int.le_trans r1 h)
theorem Moor.rootUp_nonneg {n : Int} (h0 : 0 ≤ n) (hn : n < 1152921504606846976) : 0 ≤ Moor.rootUp n := by
  obtain ⟨r0, r1, r2⟩ := Moor.root_is h0 hn
  have := Moor.rootUp_is h0 hn
  omega
theorem Moor.rootUp_mono {n m : Int} (h0 : 0 ≤ n) (h : n ≤ m) (hm : m < 1152921504606846976) : Moor.rootUp n ≤ Moor.rootUp m := by
  have := Moor.rootUp_is (Int.le_trans h0 h) hm
  exact Moor.rootUp_le h0 (Int.lt_of_le_of_lt h hm) (Moor.rootUp_nonneg (Int.le_trans h0 h) hm) (by omega)
theorem Moor.rootUp_step {x y v : Int} (h0 : 0 ≤ x) (h : x ≤ y) (hy : y * y + v * v < 1152921504606846976) (hv : 0 ≤ v * v) : Moor.rootUp (y * y + v * v) ≤ Moor.rootUp (x * x + v * v) + (y - x) := by
  have hxx := sq_le_sq h0 h
  have hx0 := sq_le_sq (a := 0) (Int.le_refl 0) h0
  have hb : 0 ≤ x * x + v * v := by omega
  have u := Moor.rootUp_is hb (by omega)
  have u0 := Moor.rootUp_nonneg hb (by omega)
  have hxr : x ≤ Moor.rootUp (x * x + v * v) := le_of_sq u0 (by omega)
  apply Moor.rootUp_le (by omega) hy (by omega)
  generalize Moor.rootUp (x * x + v * v) = R at *
  obtain ⟨d, rfl⟩ : ∃ d, y = x + d := ⟨y - x, by omega⟩
  have h1 : x * d ≤ R * d := Int.mul_le_mul_of_nonneg_right hxr (by omega)
  have e1 : (x + d) * (x + d) = x * x + 2 * (x * d) + d * d := by grind
  have e2 : (R + (x + d - x)) * (R + (x + d - x)) = R * R + 2 * (R * d) + d * d := by grind
  omega
theorem Moor.ediv_le {a b c : Int} (hb : 0 < b) (h : a ≤ c * b) : a / b ≤ c := by
  have := (Int.ediv_lt_iff_lt_mul (a := a) (b := c + 1) hb).2 (by
    have : (c + 1) * b = c * b + b := by grind
    omega)
  omega
theorem Moor.cdiv_le {a b c : Int} (hb : 0 < b) (h : a ≤ c * b) : (a + b - 1) / b ≤ c := by
  have := (Int.ediv_lt_iff_lt_mul (a := a + b - 1) (b := c + 1) hb).2 (by
    have : (c + 1) * b = c * b + b := by grind
    omega)
  omega
theorem Moor.le_cdiv {a b : Int} (hb : 0 < b) : a ≤ (a + b - 1) / b * b := by
  have h1 := Int.emod_add_mul_ediv (a + b - 1) b
  have h2 := Int.emod_lt_of_pos (a + b - 1) hb
  have h3 : b * ((a + b - 1) / b) = (a + b - 1) / b * b := Int.mul_comm _ _
  omega
theorem Moor.ediv_mul_le {a b : Int} (hb : 0 < b) : a / b * b ≤ a := Int.ediv_mul_le a (by omega)
theorem Moor.offs_lo {l x y v : Int} (hl : 0 ≤ l) (h0 : 0 ≤ x) (h : x ≤ y) (hv : 1 ≤ v) (hy : y * y + v * v < 1152921504606846976) : l * x / Moor.rootUp (x * x + v * v) ≤ l * y / Moor.rootUp (y * y + v * v) := by
  have hvv := sq_le_sq (a := 1) (b := v) (by omega) hv
  have hxx := sq_le_sq h0 h
  have hx0 := sq_le_sq (a := 0) (Int.le_refl 0) h0
  have hs := Moor.rootUp_step h0 h hy (by omega)
  have a1 := Moor.rootUp_is (n := x * x + v * v) (by omega) (by omega)
  have a2 := Moor.rootUp_is (n := y * y + v * v) (by omega) (by omega)
  have b1 := Moor.root_pos (n := x * x + v * v) (by omega) (by omega)
  have b2 := Moor.root_pos (n := y * y + v * v) (by omega) (by omega)
  have hxr : x ≤ Moor.rootUp (x * x + v * v) := le_of_sq (by omega) (by omega)
  generalize Moor.rootUp (x * x + v * v) = R at *
  generalize Moor.rootUp (y * y + v * v) = Q at *
  have q1 := Moor.ediv_mul_le (a := l * x) (b := R) (by omega)
  have q2 : l * x / R ≤ l := Moor.ediv_le (by omega) (Int.mul_le_mul_of_nonneg_left hxr hl)
  have q0 : 0 ≤ l * x / R := Int.ediv_nonneg (Int.mul_nonneg hl h0) (by omega)
  refine (Int.le_ediv_iff_mul_le (by omega)).2 ?_
  generalize l * x / R = q at *
  have s1 : q * Q ≤ q * (R + (y - x)) := Int.mul_le_mul_of_nonneg_left hs q0
  have s2 : q * (y - x) ≤ l * (y - x) := Int.mul_le_mul_of_nonneg_right q2 (by omega)
  have s3 : q * (R + (y - x)) = q * R + q * (y - x) := Int.mul_add _ _ _
  have s4 : l * (y - x) = l * y - l * x := Int.mul_sub _ _ _
  omega
theorem Moor.root_step {x y v : Int} (h0 : 0 ≤ x) (h : x ≤ y) (hy : y * y + v * v < 1152921504606846976) (hv : 0 ≤ v * v) : Moor.root (y * y + v * v) ≤ Moor.root (x * x + v * v) + (y - x) := by
  have hxx := sq_le_sq h0 h
  have hx0 := sq_le_sq (a := 0) (Int.le_refl 0) h0
  obtain ⟨r0, r1, r2⟩ := Moor.root_is (n := y * y + v * v) (by omega) hy
  have hyr : y ≤ Moor.root (y * y + v * v) := Moor.le_root (by omega) hy (by omega)
  have : Moor.root (y * y + v * v) - (y - x) ≤ Moor.root (x * x + v * v) := by
    apply Moor.le_root (by omega) (by omega)
    generalize Moor.root (y * y + v * v) = r at *
    obtain ⟨d, rfl⟩ : ∃ d, y = x + d := ⟨y - x, by omega⟩
    have h1 : (x + d) * d ≤ r * d := Int.mul_le_mul_of_nonneg_right hyr (by omega)
    have e1 : (r - (x + d - x)) * (r - (x + d - x)) = r * r - 2 * (r * d) + d * d := by grind
    have e2 : (x + d) * (x + d) = x * x + 2 * ((x + d) * d) - d * d := by grind
    omega
  omega
theorem Moor.offs_hi {l x y v : Int} (hl : 0 ≤ l) (h0 : 0 ≤ x) (h : x ≤ y) (hv : 1 ≤ v) (hy : y * y + v * v < 1152921504606846976) : min l ((l * x + Moor.root (x * x + v * v) - 1) / Moor.root (x * x + v * v)) ≤ min l ((l * y + Moor.root (y * y + v * v) - 1) / Moor.root (y * y + v * v)) := by
  have hvv := sq_le_sq (a := 1) (b := v) (by omega) hv
  have hxx := sq_le_sq h0 h
  have hx0 := sq_le_sq (a := 0) (Int.le_refl 0) h0
  have hs := Moor.root_step h0 h hy (by omega)
  have b1 := Moor.root_pos (n := x * x + v * v) (by omega) (by omega)
  have b2 := Moor.root_pos (n := y * y + v * v) (by omega) (by omega)
  generalize Moor.root (x * x + v * v) = R at *
  generalize Moor.root (y * y + v * v) = Q at *
  have c := Moor.le_cdiv (a := l * y) (b := Q) (by omega)
  have c0 : 0 ≤ (l * y + Q - 1) / Q := Int.ediv_nonneg (by have := Int.mul_nonneg hl (show 0 ≤ y by omega); omega) (by omega)
  generalize hq : (l * y + Q - 1) / Q = q at *
  by_cases hql : l ≤ q
  · omega
  · have : (l * x + R - 1) / R ≤ q := by
      apply Moor.cdiv_le (by omega)
      have s1 : q * Q ≤ q * (R + (y - x)) := Int.mul_le_mul_of_nonneg_left hs c0
      have s2 : q * (y - x) ≤ l * (y - x) := Int.mul_le_mul_of_nonneg_right (by omega) (by omega)
      have s3 : q * (R + (y - x)) = q * R + q * (y - x) := Int.mul_add _ _ _
      have s4 : l * (y - x) = l * y - l * x := Int.mul_sub _ _ _
      omega
    omega
def Moor.Part (p q : S52) : Prop := q.f0 ≤ p.f0 ∧ p.f0 ≤ p.f1 ∧ p.f1 ≤ q.f1
theorem Moor.sq_part {p q : S52} {v : Int} (hp : Moor.okB p v) (hq : Moor.okB q v) (h : Moor.Part p q) : Moor.sqL q v ≤ Moor.sqL p v ∧ Moor.sqH p v ≤ Moor.sqH q v := by
  have a1 := sq_le_sq hq.1 h.1
  have a2 := sq_le_sq (Int.le_trans hp.1 hp.2.1) h.2.2
  unfold Moor.sqL Moor.sqH
  omega
theorem Moor.tens_part {p q : S52} {v : Int} (hp : Moor.okB p v) (hq : Moor.okB q v) (h : Moor.Part p q) : Moor.Part (Moor.tens p v) (Moor.tens q v) := by
  have s := Moor.sq_part hp hq h
  have r1 := Moor.sq_range hp
  have r2 := Moor.sq_range hq
  have u := Moor.rootUp_is (n := Moor.sqH p v) (by omega) (by omega)
  have m := Moor.root_mono (n := Moor.sqL p v) (m := Moor.sqH p v) (by omega) (by omega) (by omega)
  exact ⟨Moor.root_mono (by omega) s.1 (by omega), by unfold Moor.tens; simp only; omega, Moor.rootUp_mono (by omega) s.2 (by omega)⟩
theorem Moor.offs_part {p q : S52} {l v : Int} (hl : 0 ≤ l) (hp : Moor.okB p v) (hq : Moor.okB q v) (h : Moor.Part p q) : Moor.Part (Moor.offs l p v) (Moor.offs l q v) := by
  have r1 := Moor.sq_range hp
  have r2 := Moor.sq_range hq
  have hh := h.2
  have b := hp
  have b' := hq
  unfold Moor.okB at b b'
  have l1 := Moor.offs_lo (l := l) (x := q.f0) (y := p.f0) (v := v) hl (by omega) h.1 (by omega) (by unfold Moor.sqL at r1; omega)
  have l2 := Moor.offs_hi (l := l) (x := p.f1) (y := q.f1) (v := v) hl (by omega) h.2.2 (by omega) (by unfold Moor.sqH at r2; omega)
  have l3 := Moor.offs_lo (l := l) (x := p.f0) (y := p.f1) (v := v) hl (by omega) (by omega) (by omega) (by unfold Moor.sqH at r1; omega)
  refine ⟨l1, ?_, l2⟩
  unfold Moor.offs
  simp only
  have u := Moor.rootUp_is (n := Moor.sqH p v) (by omega) (by omega)
  have w := Moor.root_pos (n := Moor.sqH p v) (by omega) (by omega)
  have w0 := Moor.rootUp_nonneg (n := Moor.sqL p v) (by omega) (by omega)
  have u0 := Moor.rootUp_is (n := Moor.sqL p v) (by omega) (by omega)
  have w1 := Moor.root_pos (n := Moor.sqL p v) (by omega) (by omega)
  have vv := Moor.sq_bound hp
  have x0 : p.f0 ≤ Moor.rootUp (Moor.sqL p v) := le_of_sq w0 (by unfold Moor.sqL at u0 ⊢; omega)
  have e1 : l * p.f0 / Moor.rootUp (Moor.sqL p v) ≤ l := Moor.ediv_le (by omega) (Int.mul_le_mul_of_nonneg_left x0 hl)
  have c := Moor.le_cdiv (a := l * p.f1) (b := Moor.root (Moor.sqH p v)) (by omega)
  have c0 : 0 ≤ (l * p.f1 + Moor.root (Moor.sqH p v) - 1) / Moor.root (Moor.sqH p v) := Int.ediv_nonneg (by have := Int.mul_nonneg hl (show 0 ≤ p.f1 by omega); omega) (by omega)
  have e2 : l * p.f1 / Moor.rootUp (Moor.sqH p v) ≤ (l * p.f1 + Moor.root (Moor.sqH p v) - 1) / Moor.root (Moor.sqH p v) := Moor.ediv_le (by omega) (Int.le_trans c (Int.mul_le_mul_of_nonneg_left u.1 c0))
  have e3 : l * p.f0 / Moor.rootUp (Moor.sqL p v) ≤ l * p.f1 / Moor.rootUp (Moor.sqH p v) := l3
  omega
theorem Moor.rise_part {p q : S52} {l v : Int} (hl : 0 ≤ l) (hp : Moor.okB p v) (hq : Moor.okB q v) (h : Moor.Part p q) : Moor.Part (Moor.rise l p v) (Moor.rise l q v) := by
  have s := Moor.sq_part hp hq h
  have r1 := Moor.sq_range hp
  have r2 := Moor.sq_range hq
  have b := hp
  unfold Moor.okB at b
  have m1 := Moor.rootUp_mono (n := Moor.sqH p v) (m := Moor.sqH q v) (by omega) s.2 (by omega)
  have m2 := Moor.root_mono (n := Moor.sqL q v) (m := Moor.sqL p v) (by omega) s.1 (by omega)
  have m3 := Moor.root_mono (n := Moor.sqL p v) (m := Moor.sqH p v) (by omega) (by omega) (by omega)
  have u1 := Moor.rootUp_is (n := Moor.sqH p v) (by omega) (by omega)
  have w1 := Moor.root_pos (n := Moor.sqH p v) (by omega) (by omega)
  have w2 := Moor.root_pos (n := Moor.sqL q v) (by omega) (by omega)
  have w3 := Moor.root_pos (n := Moor.sqL p v) (by omega) (by omega)
  have vv := Moor.sq_bound hp
  have hlv : 0 ≤ l * v := Int.mul_nonneg hl (by omega)
  unfold Moor.Part Moor.rise
  simp only
  refine ⟨?_, ?_, ?_⟩
  · have a := Moor.ediv_mul_le (a := l * v) (b := Moor.rootUp (Moor.sqH q v)) (by omega)
    have a0 : 0 ≤ l * v / Moor.rootUp (Moor.sqH q v) := Int.ediv_nonneg hlv (by omega)
    exact (Int.le_ediv_iff_mul_le (by omega)).2 (Int.le_trans (Int.mul_le_mul_of_nonneg_left m1 a0) a)
  · have x0 : v ≤ Moor.rootUp (Moor.sqH p v) := le_of_sq (by omega) (by unfold Moor.sqH at u1 ⊢; omega)
    have e1 : l * v / Moor.rootUp (Moor.sqH p v) ≤ l := Moor.ediv_le (by omega) (Int.mul_le_mul_of_nonneg_left x0 hl)
    have c := Moor.le_cdiv (a := l * v) (b := Moor.root (Moor.sqL p v)) (by omega)
    have c0 : 0 ≤ (l * v + Moor.root (Moor.sqL p v) - 1) / Moor.root (Moor.sqL p v) := Int.ediv_nonneg (by omega) (by omega)
    have e2 : l * v / Moor.rootUp (Moor.sqH p v) ≤ (l * v + Moor.root (Moor.sqL p v) - 1) / Moor.root (Moor.sqL p v) := Moor.ediv_le (by omega) (Int.le_trans c (Int.mul_le_mul_of_nonneg_left (by omega) c0))
    omega
  · have c := Moor.le_cdiv (a := l * v) (b := Moor.root (Moor.sqL q v)) (by omega)
    have c0 : 0 ≤ (l * v + Moor.root (Moor.sqL q v) - 1) / Moor.root (Moor.sqL q v) := Int.ediv_nonneg (by omega) (by omega)
    have e2 : (l * v + Moor.root (Moor.sqL p v) - 1) / Moor.root (Moor.sqL p v) ≤ (l * v + Moor.root (Moor.sqL q v) - 1) / Moor.root (Moor.sqL q v) := Moor.cdiv_le (by omega) (Int.le_trans c (Int.mul_le_mul_of_nonneg_left m2 c0))
    omega
end Go.Proofs.YtebcmhajbjkojaaDoor.P
namespace Go.Proofs.YtebcmhajbjkojaaDoor.P
open Go.RowKit Go.Proofs.YtebcmhajbjkojaaDoorW.PrintWords Go.Proofs.YtebcmhajbjkojaaDoorW.PrintLast Go.Proofs.YtebcmhajbjkojaaDoorW.PrintMore
attribute [local go_sem] max2_int min2_int max_two min_two max_three min_three max_four min_four   -- for this text's walks alone
set_option linter.unusedVariables false
set_option linter.unusedSimpArgs false
theorem Moor.within (x lo hi : Int) : isobathref02_within.f x lo hi = some (decide (lo ≤ x) && decide (x ≤ hi)) := by
  unfold isobathref02_within.f
  by_cases h : lo ≤ x
  · rw [if_pos h, decide_eq_true h, Bool.true_and]
  · rw [if_neg h, decide_eq_false h, Bool.false_and]
theorem Moor.refCheck_l0 {d an fr : Int} {els : List S56} (hn : els.length ≤ 9223372036854775807) (n : Nat) : ∀ (k i : Nat), i + n = els.length → n < k →
    isobathref02_Check.l0 k (i : Int) d els an fr = some (if (els.drop i).all Moor.elB = true then 0 else 2) := by
  induction n with
  | zero =>
    intro k i hi hk
    obtain ⟨k, rfl⟩ : ∃ m, k = m + 1 := ⟨k - 1, by omega⟩
    simp only [isobathref02_Check.l0]
    rw [if_neg (by omega), List.drop_of_length_le (by omega)]
    rfl
  | succ n ih =>
    intro k i hi hk
    obtain ⟨k, rfl⟩ : ∃ m, k = m + 1 := ⟨k - 1, by omega⟩
    have hlt : i < els.length := by omega
    simp only [isobathref02_Check.l0]
    rw [if_pos (by omega), if_pos (by omega), wrap_succ hlt hn, ih k (i + 1) (by omega) (by omega), Moor.rdE hlt, drop_cons hlt, List.all_cons]
    simp only [Moor.within, Option.bind_some]
    generalize els[i] = e
    have hE : Moor.elB e = ((decide (0 ≤ e.f0) && decide (e.f0 ≤ 1048576)) && ((decide (-1048576 ≤ e.f1) && decide (e.f1 ≤ 1048576)) && ((decide (0 ≤ e.f2) && decide (e.f2 ≤ 65536)) && (decide (1 ≤ e.f3) && decide (e.f3 ≤ 16777216))))) := by
      unfold Moor.elB
      simp only [Bool.and_assoc]
    rw [hE]
    generalize (decide (0 ≤ e.f0) && decide (e.f0 ≤ 1048576)) = b0
    generalize (decide (-1048576 ≤ e.f1) && decide (e.f1 ≤ 1048576)) = b1
    generalize (decide (0 ≤ e.f2) && decide (e.f2 ≤ 65536)) = b2
    generalize (decide (1 ≤ e.f3) && decide (e.f3 ≤ 16777216)) = b3
    cases b0 <;> cases b1 <;> cases b2 <;> cases b3 <;> simp
theorem Moor.refCheck {d : Int} {els : List S56} {an fr : Int} (hn : els.length ≤ 9223372036854775807) {k : Nat} (hk : 44 ≤ k) : isobathref02_Check.f k d els an fr = some (Moor.chk d els an fr) := by
  obtain ⟨k, rfl⟩ : ∃ m, k = m + 1 := ⟨k - 1, by omega⟩
  unfold isobathref02_Check.f Moor.chk
  by_cases h0 : 40 < els.length
  · rw [if_pos (by omega), if_pos h0]
  rw [if_neg (by omega), if_neg h0]
  have hj : ∀ b, isobathref02_Check.j0 (k + 1) b d els an fr = some (if b = true then 2 else if els.all Moor.elB = true then 0 else 2) := by
    intro b
    simp only [isobathref02_Check.j0]
    cases b with
    | true => rfl
    | false =>
      have h := Moor.refCheck_l0 (d := d) (an := an) (fr := fr) hn els.length k 0 (by omega) (by omega)
      rw [List.drop_zero] at h
      simpa using h
  simp only [Moor.within, Option.bind_some]
  by_cases h1 : els.length = 0
  · rw [if_pos (by omega), hj, if_pos rfl, if_pos (by omega)]
  rw [if_neg (by omega)]
  by_cases h2 : 1 ≤ d ∧ d ≤ 1048576
  · rw [if_pos (by simpa using h2)]
    by_cases h3 : 0 ≤ an ∧ an ≤ 1048576
    · rw [if_pos (by simpa using h3)]
      by_cases h4 : 0 ≤ fr ∧ fr ≤ 1000
      · have e : (decide (0 ≤ fr) && decide (fr ≤ 1000)) = true := by simpa using h4
        rw [e, hj, if_neg (show ¬ ((!true) = true) by decide), if_neg (show ¬ (els.length = 0 ∨ d < 1 ∨ 1048576 < d ∨ an < 0 ∨ 1048576 < an ∨ fr < 0 ∨ 1000 < fr) by omega)]
      · have e : (decide (0 ≤ fr) && decide (fr ≤ 1000)) = false := by
          cases h : (decide (0 ≤ fr) && decide (fr ≤ 1000)) with
          | false => rfl
          | true => exact absurd (by simpa using h) h4
        rw [e, hj, if_pos (show (!false) = true by decide), if_pos (show els.length = 0 ∨ d < 1 ∨ 1048576 < d ∨ an < 0 ∨ 1048576 < an ∨ fr < 0 ∨ 1000 < fr by omega)]
    · rw [if_neg (by simpa using h3), hj, if_pos rfl, if_pos (show els.length = 0 ∨ d < 1 ∨ 1048576 < d ∨ an < 0 ∨ 1048576 < an ∨ fr < 0 ∨ 1000 < fr by omega)]
  · rw [if_neg (by simpa using h2), hj, if_pos rfl, if_pos (show els.length = 0 ∨ d < 1 ∨ 1048576 < d ∨ an < 0 ∨ 1048576 < an ∨ fr < 0 ∨ 1000 < fr by omega)]
theorem Moor.refCurrents_l0 {cs : List S52} (hn : cs.length ≤ 9223372036854775807) (n : Nat) : ∀ (k i : Nat), i + n = cs.length → n < k → isobathref02_currents.l0 k cs (i : Int) = some (if (cs.drop i).all Moor.curB = true then 0 else 2) := by
  induction n with
  | zero =>
    intro k i hi hk
    obtain ⟨k, rfl⟩ : ∃ m, k = m + 1 := ⟨k - 1, by omega⟩
    simp only [isobathref02_currents.l0]
    rw [if_neg (by omega), List.drop_of_length_le (by omega)]
    rfl
  | succ n ih =>
    intro k i hi hk
    obtain ⟨k, rfl⟩ : ∃ m, k = m + 1 := ⟨k - 1, by omega⟩
    have hlt : i < cs.length := by omega
    simp only [isobathref02_currents.l0]
    rw [if_pos (by omega), if_pos (by omega), wrap_succ hlt hn, ih k (i + 1) (by omega) (by omega), Moor.rdS hlt, drop_cons hlt, List.all_cons]
    generalize cs[i] = s
    unfold Moor.curB
    by_cases h0 : s.f0 > s.f1
    · rw [if_pos h0, if_neg (by simp; omega)]
    rw [if_neg h0]
    by_cases h1 : s.f0 < 0
    · rw [if_pos h1, if_neg (by simp; omega)]
    rw [if_neg h1]
    by_cases h2 : s.f1 > 3000
    · rw [if_pos h2, if_neg (by simp; omega)]
    rw [if_neg h2]
    have : (decide (s.f0 ≤ s.f1) && (decide (0 ≤ s.f0) && decide (s.f1 ≤ 3000))) = true := by simp; omega
    rw [this, Bool.true_and]
theorem Moor.err_chk {d an fr : Int} {els : List S56} {cs : List S52} {stand : Bool} (h : Moor.chk d els an fr ≠ 0) : Moor.err d els an fr cs stand = Moor.chk d els an fr := by
  unfold Moor.err
  rw [if_pos h]
theorem Moor.err_len {d an fr : Int} {els : List S56} {cs : List S52} {stand : Bool} (h : Moor.chk d els an fr = 0) (h2 : cs.length ≠ els.length) : Moor.err d els an fr cs stand = 17 := by
  unfold Moor.err
  rw [if_neg (fun e => e h), if_pos h2]
theorem Moor.err_both {d an fr : Int} {els : List S56} {cs : List S52} {stand : Bool} (h : Moor.chk d els an fr = 0) (h2 : cs.length = els.length) : Moor.err d els an fr cs stand = Moor.err2 els cs stand := by
  unfold Moor.err
  rw [if_neg (fun e => e h), if_neg (fun e => e h2)]
theorem Moor.refCurrents {d : Int} {els : List S56} {an fr : Int} {cs : List S52} (hn : els.length ≤ 9223372036854775807) {k : Nat} (hk : 44 ≤ k) : isobathref02_currents.f k d els an fr cs = some (Moor.err d els an fr cs false) := by
  unfold isobathref02_currents.f
  rw [Moor.refCheck hn hk, Option.bind_some]
  by_cases h : Moor.chk d els an fr = 0
  · rw [if_pos h]
    obtain ⟨h40, _⟩ := Moor.chk_ok h
    by_cases h2 : cs.length = els.length
    · rw [if_pos (show (cs.length : Int) = (els.length : Int) by omega), Moor.err_both h h2]
      have h3 := Moor.refCurrents_l0 (cs := cs) (by omega) cs.length k 0 (by omega) (by omega)
      rw [List.drop_zero] at h3
      unfold Moor.err2
      rw [show ((0 : Nat) : Int) = 0 from rfl] at h3
      rw [h3]
      by_cases h4 : cs.all Moor.curB = true
      · rw [if_pos h4, if_pos h4, if_neg (by simp)]
      · rw [if_neg h4, if_neg h4]
    · rw [if_neg (show ¬ (cs.length : Int) = (els.length : Int) by omega), Moor.err_len h h2]
  · rw [if_neg h, Moor.err_chk h]
theorem Moor.refDown {a b : Int} (h : 0 ≤ a) (h1 : a ≤ 9223372036854775807) (hb : 1 ≤ b) : isobathref02_Down.f a b = some (a / b) := by
  have h2 : a / b ≤ a := Int.ediv_le_self _ h
  have h3 : 0 ≤ a / b := Int.ediv_nonneg h (by omega)
  unfold isobathref02_Down.f
  rw [if_neg (by omega), tdiv_pos h, wrap_id (by omega) (by omega)]
theorem Moor.refUp {a b : Int} (h : 0 ≤ a) (h1 : a ≤ 1152921504606846976) (hb : 1 ≤ b) (h2 : b ≤ 1152921504606846976) : isobathref02_Up.f a b = some ((a + b - 1) / b) := by
  have h4 : (a + b - 1) / b ≤ a + b - 1 := Int.ediv_le_self _ (by omega)
  have h3 : 0 ≤ (a + b - 1) / b := Int.ediv_nonneg (by omega) (by omega)
  unfold isobathref02_Up.f
  rw [if_neg (by omega), wrap_id (n := a + b) (by omega) (by omega), wrap_id (n := a + b - 1) (by omega) (by omega), tdiv_pos (by omega), wrap_id (by omega) (by omega)]
theorem Moor.refForces_l0 {d an fr : Int} {els : List S56} {cs : List S52} (h40 : els.length ≤ 40) (hel : ∀ e ∈ els, Moor.elB e = true) (hl : cs.length = els.length) (hc : cs.all Moor.curB = true) (n : Nat) : ∀ (k i : Nat), i + n = els.length → n < k →
    isobathref02_forces.l0 k cs (Moor.on (els.take i) (cs.take i)) (i : Int) d els an fr = some (Moor.on els cs) := by
  induction n with
  | zero =>
    intro k i hi hk
    obtain ⟨k, rfl⟩ : ∃ m, k = m + 1 := ⟨k - 1, by omega⟩
    simp only [isobathref02_forces.l0]
    rw [if_neg (by omega), List.take_of_length_le (by omega), List.take_of_length_le (by omega)]
  | succ n ih =>
    intro k i hi hk
    obtain ⟨k, rfl⟩ : ∃ m, k = m + 1 := ⟨k - 1, by omega⟩
    have h1 : i < els.length := by omega
    have h2 : i < cs.length := by omega
    have ih' := ih k (i + 1) (by omega) (by omega)
    rw [Moor.on_take h1 h2] at ih'
    have he := Moor.elB_iff.1 (hel _ (List.getElem_mem h1))
    have hs := List.all_eq_true.1 hc _ (List.getElem_mem h2)
    unfold Moor.curB at hs
    simp at hs
    have hsm := Moor.on_small (els := els) (cs := cs) (i := i) h40
    simp only [isobathref02_forces.l0]
    rw [if_pos (by omega), if_pos (by omega), if_pos (by omega), Moor.rdE h1, Moor.rdS h2]
    have p0 := Moor.prod_bound (a := els[i].f2) (b := cs[i].f0) (by omega) (by omega) (by omega) (by omega)
    have p1 := Moor.prod_bound (a := els[i].f2) (b := cs[i].f1) (by omega) (by omega) (by omega) (by omega)
    rw [wrap_id (n := els[i].f2 * cs[i].f0) (by omega) (by omega), wrap_id (n := els[i].f2 * cs[i].f0 * cs[i].f0) (by omega) (by omega), Moor.refDown (by omega) (by omega) (by omega), Option.bind_some, wrap_id (n := els[i].f2 * cs[i].f1) (by omega) (by omega), wrap_id (n := els[i].f2 * cs[i].f1 * cs[i].f1) (by omega) (by omega), Moor.refUp (by omega) (by omega) (by omega) (by omega), Option.bind_some, if_pos (by omega), wrap_succ h1 (by omega)]
    have e : (⟨els[i].f2 * cs[i].f0 * cs[i].f0 / 1000000, (els[i].f2 * cs[i].f1 * cs[i].f1 + 1000000 - 1) / 1000000⟩ : S52) = Moor.force els[i] cs[i] := by
      unfold Moor.force
      rw [show els[i].f2 * cs[i].f1 * cs[i].f1 + 1000000 - 1 = els[i].f2 * cs[i].f1 * cs[i].f1 + 999999 by omega]
    rw [e]
    exact ih'
theorem Moor.refForces {d an fr : Int} {els : List S56} {cs : List S52} (h : Moor.Ok d els an fr cs) {k : Nat} (hk : 44 ≤ k) : isobathref02_forces.f k d els an fr cs = some (Moor.on els cs) := by
  have := Moor.refForces_l0 (d := d) (an := an) (fr := fr) h.n40 h.elok h.len h.cur els.length k 0 (by omega) (by have := h.n40; omega)
  exact this
theorem Moor.refLifts_l0 {d an fr : Int} {els : List S56} (h40 : els.length ≤ 40) (hel : ∀ e ∈ els, Moor.elB e = true) (n : Nat) : ∀ (k i : Nat), i + n = els.length → n < k →
    isobathref02_lifts.l0 k (Moor.lifts (els.take i)) (Moor.sumL (els.take i)) (i : Int) d els an fr = some (Moor.lifts els) := by
  induction n with
  | zero =>
    intro k i hi hk
    obtain ⟨k, rfl⟩ : ∃ m, k = m + 1 := ⟨k - 1, by omega⟩
    simp only [isobathref02_lifts.l0]
    rw [if_neg (by omega), List.take_of_length_le (by omega)]
  | succ n ih =>
    intro k i hi hk
    obtain ⟨k, rfl⟩ : ∃ m, k = m + 1 := ⟨k - 1, by omega⟩
    have h1 : i < els.length := by omega
    have ih' := ih k (i + 1) (by omega) (by omega)
    rw [Moor.lifts_take h1, Moor.sumL_take h1] at ih'
    have he := Moor.elB_iff.1 (hel _ (List.getElem_mem h1))
    have hb := Moor.sumL_take_bound hel h40 i
    have hsm := Moor.lifts_small (els := els) (i := i) h40
    simp only [isobathref02_lifts.l0]
    rw [if_pos (by omega), if_pos (by omega), if_pos (by omega), Moor.rdE h1, wrap_id (n := Moor.sumL (els.take i) + els[i].f1) (by omega) (by omega), wrap_succ h1 (by omega)]
    exact ih'
theorem Moor.refLifts {d an fr : Int} {els : List S56} (h40 : els.length ≤ 40) (hel : ∀ e ∈ els, Moor.elB e = true) {k : Nat} (hk : 44 ≤ k) : isobathref02_lifts.f k d els an fr = some (Moor.lifts els) :=
  Moor.refLifts_l0 (d := d) (an := an) (fr := fr) h40 hel els.length k 0 (by omega) (by omega)
theorem Moor.refStands_l0 {xs : List Int} (hn : xs.length ≤ 40) (n : Nat) : ∀ (k i : Nat), i + n = xs.length → n < k → isobathref02_Stands.l0 k xs (i : Int) = some ((xs.drop i).all (fun x => decide (1 ≤ x))) := by
  induction n with
  | zero =>
    intro k i hi hk
    obtain ⟨k, rfl⟩ : ∃ m, k = m + 1 := ⟨k - 1, by omega⟩
    simp only [isobathref02_Stands.l0]
    rw [if_neg (by omega), List.drop_of_length_le (by omega)]
    rfl
  | succ n ih =>
    intro k i hi hk
    obtain ⟨k, rfl⟩ : ∃ m, k = m + 1 := ⟨k - 1, by omega⟩
    have h1 : i < xs.length := by omega
    simp only [isobathref02_Stands.l0]
    rw [if_pos (by omega), if_pos (by omega), rd_nat h1, drop_cons h1, List.all_cons]
    by_cases c : xs[i] < 1
    · rw [if_pos c, decide_eq_false (by omega), Bool.false_and]
    · rw [if_neg c, decide_eq_true (by omega), Bool.true_and, wrap_succ h1 (by omega)]
      exact ih k (i + 1) (by omega) (by omega)
theorem Moor.refStands {d an fr : Int} {els : List S56} (h40 : els.length ≤ 40) (hel : ∀ e ∈ els, Moor.elB e = true) {k : Nat} (hk : 44 ≤ k) : isobathref02_Stands.f k d els an fr = some (Moor.stands els) := by
  unfold isobathref02_Stands.f
  rw [Moor.refLifts h40 hel hk, Option.bind_some]
  have h := Moor.refStands_l0 (xs := Moor.lifts els) (by rw [Moor.lifts_length]; exact h40) (Moor.lifts els).length k 0 (by omega) (by rw [Moor.lifts_length]; omega)
  rw [List.drop_zero] at h
  exact h
end Go.Proofs.YtebcmhajbjkojaaDoor.P
namespace Go.Proofs.YtebcmhajbjkojaaDoor.P
open Go.RowKit Go.Proofs.YtebcmhajbjkojaaDoorW.PrintWords Go.Proofs.YtebcmhajbjkojaaDoorW.PrintLast Go.Proofs.YtebcmhajbjkojaaDoorW.PrintMore
attribute [local go_sem] max2_int min2_int max_two min_two max_three min_three max_four min_four   -- for this text's walks alone
set_option linter.unusedVariables false
set_option linter.unusedSimpArgs false
def mooring_Forces.f (d : Int) (els : List S56) (an fr : Int) (cs : List S52) : Option (List S52 × Int) := if Moor.err d els an fr cs false = 0 then some (Moor.on els cs, 0) else some ([], Moor.err d els an fr cs false)
end Go.Proofs.YtebcmhajbjkojaaDoor.P
namespace Go.Proofs.YtebcmhajbjkojaaDoor.P
open Go.RowKit Go.Proofs.YtebcmhajbjkojaaDoorW.PrintWords Go.Proofs.YtebcmhajbjkojaaDoorW.PrintLast Go.Proofs.YtebcmhajbjkojaaDoorW.PrintMore
attribute [local go_sem] max2_int min2_int max_two min_two max_three min_three max_four min_four   -- for this text's walks alone
set_option linter.unusedVariables false
set_option linter.unusedSimpArgs false
theorem Moor.list_at {val : Nat → S52} {n : Nat} {i : Nat} (hi : i < n) : rd_T52 (Moor.list val n) (i : Int) = val i := by
  have h : i < (Moor.list val n).length := by rw [Moor.list_length]; exact hi
  rw [Moor.rdS h]
  simp [Moor.list]
theorem Moor.refForcesF {d an fr : Int} {els : List S56} {cs : List S52} (hn : els.length ≤ 9223372036854775807) {k : Nat} (hk : 2200 ≤ k) : isobathref02_Forces.f k d els an fr cs = mooring_Forces.f d els an fr cs := by
  unfold isobathref02_Forces.f mooring_Forces.f
  rw [Moor.refCurrents hn (by omega), Option.bind_some]
  by_cases he : Moor.err d els an fr cs false = 0
  · rw [if_pos he, if_pos he, Moor.refForces (Moor.err_ok he).1 (by omega), Option.bind_some]
  · rw [if_neg he, if_neg he]
end Go.Proofs.YtebcmhajbjkojaaDoor.P
namespace Go.Proofs.YtebcmhajbjkojaaDoor.P
open Go.RowKit Go.Proofs.YtebcmhajbjkojaaDoorW.PrintWords Go.Proofs.YtebcmhajbjkojaaDoorW.PrintLast Go.Proofs.YtebcmhajbjkojaaDoorW.PrintMore
attribute [local go_sem] max2_int min2_int max_two min_two max_three min_three max_four min_four   -- for this text's walks alone
set_option linter.unusedVariables false
set_option linter.unusedSimpArgs false
theorem Moor.Ok.err0 {d an fr : Int} {els : List S56} {cs : List S52} (h : Moor.Ok d els an fr cs) (hs : Moor.stands els = true) (stand : Bool) : Moor.err d els an fr cs stand = 0 := by
  rw [Moor.err_both h.chk h.len]
  unfold Moor.err2
  rw [if_pos h.cur, hs, if_neg (by simp)]
theorem Law2.valid (d : Int) {els : List S56} (an fr : Int) (cs : List S52) (hn : els.length ≤ 9223372036854775807) {k : Nat} (hk : 2200 ≤ k) : ∃ b, isobathlaw02_valid.f k d els an fr cs = some b ∧ (b = true → els.length ≤ 60 ∧ cs.length ≤ 60 ∧ Moor.Ok d els an fr cs ∧ Moor.stands els = true) := by
  unfold isobathlaw02_valid.f
  rw [Moor.refForcesF hn hk, Law2.long]
  unfold mooring_Forces.f
  by_cases he : Moor.err d els an fr cs false = 0
  · rw [if_pos he]
    obtain ⟨ho, _⟩ := Moor.err_ok he
    simp only [Option.bind_some]
    by_cases h : 60 < els.length ∨ 60 < cs.length
    · rw [decide_eq_true h, if_pos rfl]
      exact ⟨_, rfl, by simp⟩
    · rw [decide_eq_false h, if_neg (by decide), if_pos trivial, Moor.refStands ho.n40 ho.elok (by omega), Option.bind_some]
      exact ⟨_, rfl, fun hb => ⟨by omega, by omega, ho, hb⟩⟩
  · rw [if_neg he]
    simp only [Option.bind_some]
    by_cases h : 60 < els.length ∨ 60 < cs.length
    · rw [decide_eq_true h, if_pos rfl]
      exact ⟨_, rfl, by simp⟩
    · rw [decide_eq_false h, if_neg (by decide), if_neg he]
      exact ⟨_, rfl, by simp⟩
theorem Law2.inside_l0 {xs ys : List S52} (hn : xs.length ≤ 60) (hl : xs.length = ys.length) (h : ∀ i : Nat, i < xs.length → Moor.Part (rd_T52 xs (i : Int)) (rd_T52 ys (i : Int))) (n : Nat) : ∀ (k i : Nat), i + n = xs.length → n < k → isobathlaw02_inside.l0 k xs ys (i : Int) = some true := by
  induction n with
  | zero =>
    intro k i hi hk
    obtain ⟨k, rfl⟩ : ∃ m, k = m + 1 := ⟨k - 1, by omega⟩
    simp only [isobathlaw02_inside.l0]
    rw [if_neg (by omega)]
  | succ n ih =>
    intro k i hi hk
    obtain ⟨k, rfl⟩ : ∃ m, k = m + 1 := ⟨k - 1, by omega⟩
    have hlt : i < xs.length := by omega
    obtain ⟨h1, h2, h3⟩ := h i hlt
    simp only [isobathlaw02_inside.l0]
    rw [if_pos (by omega), if_pos (by omega), if_pos (by omega), if_neg (by omega), if_neg (by omega), if_neg (by omega), wrap_succ hlt (by omega)]
    exact ih k (i + 1) (by omega) (by omega)
theorem Law2.inside {xs ys : List S52} (hn : xs.length ≤ 60) (hl : xs.length = ys.length) (h : ∀ i : Nat, i < xs.length → Moor.Part (rd_T52 xs (i : Int)) (rd_T52 ys (i : Int))) {k : Nat} (hk : 61 ≤ k) : isobathlaw02_inside.f k xs ys = some true := by
  unfold isobathlaw02_inside.f
  rw [if_pos (by omega)]
  exact Law2.inside_l0 hn hl h xs.length k 0 (by omega) (by omega)
theorem S52.ext' {a b : S52} (h0 : a.f0 = b.f0) (h1 : a.f1 = b.f1) : a = b := by
  cases a; cases b; simp only at h0 h1; rw [h0, h1]
end Go.Proofs.YtebcmhajbjkojaaDoor.P
namespace Go.Proofs.YtebcmhajbjkojaaDoor.P
open Go.RowKit Go.Proofs.YtebcmhajbjkojaaDoorW.PrintWords Go.Proofs.YtebcmhajbjkojaaDoorW.PrintLast Go.Proofs.YtebcmhajbjkojaaDoorW.PrintMore
attribute [local go_sem] max2_int min2_int max_two min_two max_three min_three max_four min_four   -- for this text's walks alone
set_option linter.unusedVariables false
set_option linter.unusedSimpArgs false
mutual
def isobathref02_pulls.l0 : Nat → Bool → List (S52) → List (S52) → Int → Int → Int → Option ((List (S52)))
  | 0, _, _, _, _, _, _ => none
  | k + 1, x2, x7, x8, x9, x10, x11 => if x11 < (x7.length : Int) then (if 0 ≤ x11 then (if x2 = true then (isobathref02_pulls.l1 k x2 x7 x8 (wrap64 (x9 + ((rd_T52 x7 x11).f0))) (wrap64 (x10 + ((rd_T52 x7 x11).f1))) x11 0 0 (wrap64 (x10 + ((rd_T52 x7 x11).f1)))) else (if x8.length < 8796093022208 then (isobathref02_pulls.l0 k x2 x7 (x8 ++ [(⟨wrap64 (x9 + ((rd_T52 x7 x11).f0)), wrap64 (x10 + ((rd_T52 x7 x11).f1))⟩ : S52)]) (wrap64 (x9 + ((rd_T52 x7 x11).f0))) (wrap64 (x10 + ((rd_T52 x7 x11).f1))) (wrap64 (x11 + 1))) else (none))) else (none)) else (some x8)
def isobathref02_pulls.l1 : Nat → Bool → List (S52) → List (S52) → Int → Int → Int → Int → Int → Int → Option ((List (S52)))
  | 0, _, _, _, _, _, _, _, _, _ => none
  | k + 1, x2, x7, x8, x9, x10, x11, x13, x108000, x108001 => if x13 ≤ x11 then (if 0 ≤ x13 then (if x13 < (x7.length : Int) then (isobathref02_pulls.l1 k x2 x7 x8 x9 x10 x11 (wrap64 (x13 + 1)) (mx x108000 (wrap64 (((rd_T52 x7 x13).f0) - (wrap64 (x10 - ((rd_T52 x7 x13).f1)))))) x108001) else (none)) else (none)) else (if x8.length < 8796093022208 then (isobathref02_pulls.l0 k x2 x7 (x8 ++ [(⟨x108000, x108001⟩ : S52)]) x9 x10 (wrap64 (x11 + 1))) else (none))
end
end Go.Proofs.YtebcmhajbjkojaaDoor.P
namespace Go.Proofs.YtebcmhajbjkojaaDoor.P
open Go.RowKit Go.Proofs.YtebcmhajbjkojaaDoorW.PrintWords Go.Proofs.YtebcmhajbjkojaaDoorW.PrintLast Go.Proofs.YtebcmhajbjkojaaDoorW.PrintMore
attribute [local go_sem] max2_int min2_int max_two min_two max_three min_three max_four min_four   -- for this text's walks alone
set_option linter.unusedVariables false
set_option linter.unusedSimpArgs false
theorem mx_max (a b : Int) : mx a b = max a b := by
  unfold mx
  by_cases h : a < b
  · rw [if_pos h]; omega
  · rw [if_neg h]; omega
theorem mn_min (a b : Int) : mn a b = min a b := by
  unfold mn
  by_cases h : b < a
  · rw [if_pos h]; omega
  · rw [if_neg h]; omega
end Go.Proofs.YtebcmhajbjkojaaDoor.P
namespace Go.Proofs.YtebcmhajbjkojaaDoor.P
open Go.RowKit Go.Proofs.YtebcmhajbjkojaaDoorW.PrintWords Go.Proofs.YtebcmhajbjkojaaDoorW.PrintLast Go.Proofs.YtebcmhajbjkojaaDoorW.PrintMore
attribute [local go_sem] max2_int min2_int max_two min_two max_three min_three max_four min_four   -- for this text's walks alone
set_option linter.unusedVariables false
set_option linter.unusedSimpArgs false
def Nar.In (s t : S52) : Prop := t.f0 ≤ s.f0 ∧ s.f0 ≤ s.f1 ∧ s.f1 ≤ t.f1
theorem Nar.part {w x : Int} (h0 : 0 ≤ w) (h1 : w ≤ 3000) (x0 : 0 ≤ x) (x1 : x ≤ 255) : wrap64 (Int.tdiv (wrap64 (w * wrap64 x)) 255) = w * x / 255 ∧ 0 ≤ w * x / 255 ∧ w * x / 255 ≤ w := by
  have a := Int.mul_nonneg h0 x0
  have b : w * x ≤ w * 255 := Int.mul_le_mul_of_nonneg_left x1 h0
  rw [wrap_id (n := x) (by omega) (by omega), wrap_id (n := w * x) (by omega) (by omega), tdiv_pos a, wrap_id (by omega) (by omega)]
  omega
theorem Nar.l0 {cs : List S52} {ps : List Int} (hc : cs.all Moor.curB = true) (h40 : cs.length ≤ 40) (hp : ∀ x ∈ ps, 0 ≤ x ∧ x ≤ 255) (n : Nat) : ∀ (k i : Nat) (out : List S52), i + n = cs.length → n < k → out.length = i → (∀ j : Nat, j < i → Nar.In (rd_T52 out (j : Int)) (rd_T52 cs (j : Int))) →
    ∃ ds, isobathlaw02_narrow.l0 k cs ps out (i : Int) = some ds ∧ ds.length = cs.length ∧ ∀ j : Nat, j < cs.length → Nar.In (rd_T52 ds (j : Int)) (rd_T52 cs (j : Int)) := by
  induction n with
  | zero =>
    intro k i out hi hk hl hin
    obtain ⟨k, rfl⟩ : ∃ m, k = m + 1 := ⟨k - 1, by omega⟩
    refine ⟨out, ?_, by omega, fun j hj => hin j (by omega)⟩
    simp only [isobathlaw02_narrow.l0]
    rw [if_neg (by omega)]
  | succ n ih =>
    intro k i out hi hk hl hin
    obtain ⟨k, rfl⟩ : ∃ m, k = m + 1 := ⟨k - 1, by omega⟩
    have hlt : i < cs.length := by omega
    have hs := List.all_eq_true.1 hc _ (List.getElem_mem hlt)
    unfold Moor.curB at hs
    simp at hs
    have next : ∀ s : S52, Nar.In s cs[i] → ∀ j : Nat, j < i + 1 → Nar.In (rd_T52 (out ++ [s]) (j : Int)) (rd_T52 cs (j : Int)) := by
      intro s hsin j hj
      by_cases e : j = i
      · subst e
        rw [Moor.rdS (cs := out ++ [s]) (by rw [List.length_append]; simp only [List.length_cons, List.length_nil]; omega), Moor.rdS hlt, List.getElem_append_right (by omega)]
        simp only [hl, Nat.sub_self, List.getElem_cons_zero]
        exact hsin
      · have hj' : j < out.length := by omega
        have := hin j (by omega)
        rw [Moor.rdS hj'] at this
        rw [Moor.rdS (cs := out ++ [s]) (by rw [List.length_append]; omega), List.getElem_append_left hj']
        exact this
    simp only [isobathlaw02_narrow.l0]
    rw [if_pos (by omega), if_pos (by omega), wrap_id (n := 2 * (i : Int)) (by omega) (by omega), wrap_id (n := 2 * (i : Int) + 1) (by omega) (by omega), Moor.rdS hlt, wrap_succ hlt (by omega)]
    by_cases c : 2 * (i : Int) + 1 < (ps.length : Int)
    · rw [if_pos c, if_pos (by omega), if_pos (by omega), if_pos (by omega), if_pos (by omega)]
      have e1 : rd ps (2 * (i : Int)) = ps[2 * i]'(by omega) := by
        rw [show 2 * (i : Int) = ((2 * i : Nat) : Int) by omega, rd_nat (by omega)]
      have e2 : rd ps (2 * (i : Int) + 1) = ps[2 * i + 1]'(by omega) := by
        rw [show 2 * (i : Int) + 1 = ((2 * i + 1 : Nat) : Int) by omega, rd_nat (by omega)]
      have b1 := hp _ (List.getElem_mem (show 2 * i < ps.length by omega))
      have b2 := hp _ (List.getElem_mem (show 2 * i + 1 < ps.length by omega))
      rw [e1, e2, wrap_id (n := cs[i].f1 - cs[i].f0) (by omega) (by omega)]
      obtain ⟨p1, p2, p3⟩ := Nar.part (w := cs[i].f1 - cs[i].f0) (by omega) (by omega) b1.1 b1.2
      obtain ⟨q1, q2, q3⟩ := Nar.part (w := cs[i].f1 - cs[i].f0) (by omega) (by omega) b2.1 b2.2
      rw [p1, q1, mn_min, mx_max, wrap_id (n := cs[i].f0 + min _ _) (by omega) (by omega), wrap_id (n := cs[i].f0 + max _ _) (by omega) (by omega)]
      refine ih k (i + 1) _ (by omega) (by omega) (by rw [List.length_append]; simp only [List.length_cons, List.length_nil]; omega) (next _ ?_)
      unfold Nar.In
      simp only
      omega
    · rw [if_neg c, if_pos (by omega)]
      exact ih k (i + 1) _ (by omega) (by omega) (by rw [List.length_append]; simp only [List.length_cons, List.length_nil]; omega) (next _ ⟨Int.le_refl _, hs.1, Int.le_refl _⟩)
theorem Nar.cur {s t : S52} (h : Nar.In s t) (ht : Moor.curB t = true) : Moor.curB s = true := by
  unfold Moor.curB at ht ⊢
  unfold Nar.In at h
  simp at ht ⊢
  omega
theorem Nar.force {e : S56} {s t : S52} (he : Moor.elB e = true) (ht : Moor.curB t = true) (h : Nar.In s t) : Moor.Part (Moor.force e s) (Moor.force e t) := by
  have hf := Moor.force_onB he (Nar.cur h ht)
  have e2 := Moor.elB_iff.1 he
  unfold Moor.curB at ht
  simp at ht
  obtain ⟨a, b, c⟩ := h
  have m1 : e.f2 * t.f0 * t.f0 ≤ e.f2 * s.f0 * s.f0 := Int.mul_le_mul (Int.mul_le_mul_of_nonneg_left a (by omega)) a (by omega) (Int.mul_nonneg (by omega) (by omega))
  have m2 : e.f2 * s.f1 * s.f1 ≤ e.f2 * t.f1 * t.f1 := Int.mul_le_mul (Int.mul_le_mul_of_nonneg_left c (by omega)) c (by omega) (Int.mul_nonneg (by omega) (by omega))
  refine ⟨?_, hf.2.1, ?_⟩
  · unfold Moor.force
    simp only
    omega
  · unfold Moor.force
    simp only
    omega
def Nar.All : List S52 → List S52 → Prop
  | [], [] => True
  | a :: s, b :: t => Moor.Part a b ∧ Nar.All s t
  | _, _ => False
theorem Nar.on {els : List S56} : ∀ {ds cs : List S52}, (∀ e ∈ els, Moor.elB e = true) → cs.all Moor.curB = true → ds.length = els.length → cs.length = els.length → (∀ j : Nat, j < cs.length → Nar.In (rd_T52 ds (j : Int)) (rd_T52 cs (j : Int))) → Nar.All (Moor.on els ds) (Moor.on els cs) := by
  induction els with
  | nil =>
    intro ds cs _ _ h1 h2 _
    obtain rfl := List.length_eq_zero_iff.1 h1
    obtain rfl := List.length_eq_zero_iff.1 h2
    trivial
  | cons e es ih =>
    intro ds cs he hc h1 h2 h
    cases ds with
    | nil => simp at h1
    | cons s ss =>
      cases cs with
      | nil => simp at h2
      | cons t ts =>
        rw [List.all_cons, Bool.and_eq_true] at hc
        have h0 := h 0 (by simp)
        refine ⟨Nar.force (he e List.mem_cons_self) hc.1 h0, ih (fun x hx => he x (List.mem_cons_of_mem _ hx)) hc.2 (by simpa using h1) (by simpa using h2) (fun j hj => ?_)⟩
        have hj' := h (j + 1) (by simp; omega)
        have r1 : rd_T52 (s :: ss) ((j + 1 : Nat) : Int) = rd_T52 ss (j : Int) := by simp [rd_T52]
        have r2 : rd_T52 (t :: ts) ((j + 1 : Nat) : Int) = rd_T52 ts (j : Int) := by simp [rd_T52]
        rw [r1, r2] at hj'
        exact hj'
theorem Nar.pullsFrom (free : Bool) : ∀ {xs ys : List S52} {lo hi m lo' hi' m' : Int}, Nar.All xs ys → (∀ x ∈ xs, Moor.onB x) → lo' ≤ lo → hi ≤ hi' → m' - hi' ≤ m - hi → 0 ≤ lo → lo ≤ hi → m ≤ 2 * hi → Nar.All (Moor.pullsFrom free lo hi m xs) (Moor.pullsFrom free lo' hi' m' ys) := by
  intro xs
  induction xs with
  | nil =>
    intro ys lo hi m lo' hi' m' h _ _ _ _ _ _ _
    cases ys with
    | nil => trivial
    | cons y ys => exact h.elim
  | cons x xs ih =>
    intro ys lo hi m lo' hi' m' h hon a b c d e f
    cases ys with
    | nil => exact h.elim
    | cons y ys =>
      obtain ⟨hp, hr⟩ := h
      have ox := hon x List.mem_cons_self
      unfold Moor.onB at ox
      obtain ⟨p0, p1, p2⟩ := hp
      refine ⟨?_, ih hr (fun z hz => hon z (List.mem_cons_of_mem _ hz)) (by omega) (by omega) (by omega) (by omega) (by omega) (by omega)⟩
      unfold Moor.Part
      cases free with
      | true => simp only [if_true]; omega
      | false => simp only [Bool.false_eq_true, if_false]; omega
theorem Nar.All.at : ∀ {xs ys : List S52}, Nar.All xs ys → ∀ i : Nat, i < xs.length → Moor.Part (rd_T52 xs (i : Int)) (rd_T52 ys (i : Int)) := by
  intro xs
  induction xs with
  | nil => intro ys _ i hi; cases hi
  | cons x xs ih =>
    intro ys h i hi
    cases ys with
    | nil => exact h.elim
    | cons y ys =>
      cases i with
      | zero => exact h.1
      | succ i =>
        have := ih h.2 i (by simpa using hi)
        have r1 : rd_T52 (x :: xs) ((i + 1 : Nat) : Int) = rd_T52 xs (i : Int) := by simp [rd_T52]
        have r2 : rd_T52 (y :: ys) ((i + 1 : Nat) : Int) = rd_T52 ys (i : Int) := by simp [rd_T52]
        rw [r1, r2]
        exact this
theorem Nar.verdict {p q : S52} (h : Moor.Part p q) (n : Int) : Moor.verdict q.f0 q.f1 n = 1 ∨ Moor.verdict p.f0 p.f1 n = Moor.verdict q.f0 q.f1 n := by
  obtain ⟨a, b, c⟩ := h
  unfold Moor.verdict
  by_cases c1 : q.f1 ≤ n
  · rw [if_pos c1, if_pos (by omega)]; exact .inr rfl
  · rw [if_neg c1]
    by_cases c2 : q.f0 ≤ n
    · rw [if_pos c2]; exact .inl rfl
    · rw [if_neg c2, if_neg (by omega), if_neg (by omega)]; exact .inr rfl
theorem Nar.l1 {xs ys : List Int} (hn : xs.length ≤ 60) (hl : xs.length = ys.length) (h : ∀ i : Nat, i < xs.length → rd xs (i : Int) = 1 ∨ rd ys (i : Int) = rd xs (i : Int)) (n : Nat) : ∀ (k i : Nat), i + n = xs.length → n + 100 < k → isobathlaw02_MooringNarrower.l0 k xs ys (i : Int) = some true := by
  induction n with
  | zero =>
    intro k i hi hk
    obtain ⟨k, rfl⟩ : ∃ m, k = m + 1 := ⟨k - 1, by omega⟩
    simp only [isobathlaw02_MooringNarrower.l0]
    rw [if_neg (by omega), Law2.fine (by omega), Option.bind_some]
  | succ n ih =>
    intro k i hi hk
    obtain ⟨k, rfl⟩ : ∃ m, k = m + 1 := ⟨k - 1, by omega⟩
    have hlt : i < xs.length := by omega
    have ih' := ih k (i + 1) (by omega) (by omega)
    simp only [isobathlaw02_MooringNarrower.l0]
    rw [if_pos (by omega), if_pos (by omega), wrap_succ hlt (by omega)]
    by_cases c : rd xs (i : Int) = 1
    · rw [if_pos c]; exact ih'
    · rw [if_neg c, if_pos (by omega), if_pos ((h i hlt).resolve_left c)]; exact ih'
theorem Nar.shi {val val' : Nat → S52} (n : Nat) (h : ∀ i, i < n → (val i).f1 ≤ (val' i).f1) : Moor.shi (Moor.list val n) ≤ Moor.shi (Moor.list val' n) := by
  induction n with
  | zero => exact Int.le_refl _
  | succ n ih =>
    have a := ih (fun i hi => h i (by omega))
    have b := h n (by omega)
    rw [Moor.list_succ, Moor.list_succ, Moor.shi_app, Moor.shi_app, Moor.shi, Moor.shi, Moor.shi, Moor.shi]
    omega
theorem Law2.narrower (d : Int) {els : List S56} (an fr : Int) (cs : List S52) (free : Bool) (ps : List Int) (hn : els.length ≤ 9223372036854775807) (hp : ∀ x ∈ ps, 0 ≤ x ∧ x ≤ 255) : isobathlaw02_MooringNarrower.f 3000 d els an fr cs free ps = some true := by
  obtain ⟨b, hb, hv⟩ := Law2.valid d an fr cs hn (k := 3000) (by omega)
  unfold isobathlaw02_MooringNarrower.f
  rw [hb, Option.bind_some]
  cases b with
  | false => rw [if_neg (by decide), Law2.fine (by omega), Option.bind_some]
  | true =>
    rw [if_pos rfl]
    obtain ⟨h60, -, ho, hs⟩ := hv rfl
    have h40 := ho.n40
    have hcl := ho.len
    obtain ⟨ds, e, dl, din⟩ := Nar.l0 ho.cur (by omega) hp cs.length 3000 0 [] (by omega) (by omega) rfl (fun j hj => by omega)
    have hod : Moor.Ok d els an fr ds := ⟨ho.n40, ho.n0, ho.elok, by omega, by
      rw [List.all_eq_true]
      intro x hx
      obtain ⟨j, hj, rfl⟩ := List.mem_iff_getElem.1 hx
      have hjc : j < cs.length := by omega
      have a := din j hjc
      rw [Moor.rdS hj, Moor.rdS hjc] at a
      exact Nar.cur a (List.all_eq_true.1 ho.cur _ (List.getElem_mem hjc)), ho.chk⟩
    have all := Nar.pullsFrom free (lo := 0) (hi := 0) (m := 0) (lo' := 0) (hi' := 0) (m' := 0) (Nar.on ho.elok ho.cur (by omega) hcl din) (Moor.on_onB hod.elok hod.cur) (by omega) (by omega) (by omega) (by omega) (by omega) (by omega)
    have rel : ∀ i : Nat, i < els.length → Moor.Part (rd_T52 (Moor.pulls free (Moor.on els ds)) (i : Int)) (rd_T52 (Moor.pulls free (Moor.on els cs)) (i : Int)) := fun i hi => all.at i (by
      have := hod.pulllen free
      unfold Moor.pulls at this
      omega)
    have e1 := ho.err0 hs true
    have e2 := hod.err0 hs true
    have tens : ∀ i : Nat, i < els.length → Moor.Part (Moor.tensAt (Moor.pulls free (Moor.on els ds)) (Moor.lifts els) i) (Moor.tensAt (Moor.pulls free (Moor.on els cs)) (Moor.lifts els) i) := fun i hi => by
      obtain ⟨-, -, -, p4, p5, -⟩ := hod.at hs free hi
      obtain ⟨-, -, -, q4, -, -⟩ := ho.at hs free hi
      exact Moor.tens_part p4 q4 (rel i hi)
    have offs : ∀ i : Nat, i < els.length → Moor.Part (Moor.offsAt els (Moor.pulls free (Moor.on els ds)) (Moor.lifts els) i) (Moor.offsAt els (Moor.pulls free (Moor.on els cs)) (Moor.lifts els) i) := fun i hi => by
      obtain ⟨-, -, -, p4, p5, -⟩ := hod.at hs free hi
      obtain ⟨-, -, -, q4, -, -⟩ := ho.at hs free hi
      exact Moor.offs_part p5 p4 q4 (rel i hi)
    have rise : ∀ i : Nat, i < els.length → Moor.Part (Moor.riseAt els (Moor.pulls free (Moor.on els ds)) (Moor.lifts els) i) (Moor.riseAt els (Moor.pulls free (Moor.on els cs)) (Moor.lifts els) i) := fun i hi => by
      obtain ⟨-, -, -, p4, p5, -⟩ := hod.at hs free hi
      obtain ⟨-, -, -, q4, -, -⟩ := ho.at hs free hi
      exact Moor.rise_part p5 p4 q4 (rel i hi)
    unfold isobathlaw02_narrow.f
    rw [show ((0 : Nat) : Int) = 0 from rfl] at e
    rw [e, Option.bind_some]
    unfold mooring_Tensions.f mooring_Shape.f
    simp only [e1, e2, if_true, Option.bind_some]
    rw [if_pos (by decide +kernel)]
    rw [Law2.inside (by rw [Moor.list_length]; omega) (by rw [Moor.list_length, Moor.list_length]) (fun i hi => by
      rw [Moor.list_length] at hi
      rw [Moor.list_at hi, Moor.list_at hi]
      exact tens i hi) (by omega), Option.bind_some, if_pos rfl]
    rw [Law2.inside (by rw [Moor.list_length]; omega) (by rw [Moor.list_length, Moor.list_length]) (fun i hi => by
      rw [Moor.list_length] at hi
      rw [Moor.list_at hi, Moor.list_at hi]
      exact offs i hi) (by omega), Option.bind_some, if_pos rfl]
    rw [Law2.inside (by rw [Moor.list_length]; omega) (by rw [Moor.list_length, Moor.list_length]) (fun i hi => by
      rw [Moor.list_length] at hi
      rw [Moor.list_at hi, Moor.list_at hi]
      exact rise i hi) (by omega), Option.bind_some]
    simp only [isobathlaw02_MooringNarrower.j0, Bool.not_true, Bool.false_eq_true, if_false]
    unfold mooring_Circle.f mooring_Strong.f mooring_Holds.f
    simp only [e1, e2, if_true, Option.bind_some, Moor.ints_length]
    have cir := Nar.shi els.length (fun i hi => (offs i hi).2.2)
    rw [if_pos (by decide +kernel), if_neg (by omega)]
    have hn0 := ho.n0
    have last := rel (els.length - 1) (by omega)
    have hh : Moor.holdsAt an fr (rd_T52 (Moor.pulls free (Moor.on els cs)) ((els.length - 1 : Nat) : Int)) (rd (Moor.lifts els) ((els.length - 1 : Nat) : Int)) = 1 ∨ Moor.holdsAt an fr (rd_T52 (Moor.pulls free (Moor.on els ds)) ((els.length - 1 : Nat) : Int)) (rd (Moor.lifts els) ((els.length - 1 : Nat) : Int)) = Moor.holdsAt an fr (rd_T52 (Moor.pulls free (Moor.on els cs)) ((els.length - 1 : Nat) : Int)) (rd (Moor.lifts els) ((els.length - 1 : Nat) : Int)) := by
      unfold Moor.holdsAt
      by_cases c : an - rd (Moor.lifts els) ((els.length - 1 : Nat) : Int) ≤ 0
      · rw [if_pos c, if_pos c]; exact .inr rfl
      · rw [if_neg c, if_neg c]
        obtain ⟨a1, a2, a3⟩ := last
        exact Nar.verdict (p := ⟨1000 * _, 1000 * _⟩) (q := ⟨1000 * _, 1000 * _⟩) ⟨by simp only; omega, by simp only; omega, by simp only; omega⟩ _
    have fin : isobathlaw02_MooringNarrower.l0 2998 (Moor.ints (Moor.strongAt els (Moor.pulls free (Moor.on els cs)) (Moor.lifts els)) els.length) (Moor.ints (Moor.strongAt els (Moor.pulls free (Moor.on els ds)) (Moor.lifts els)) els.length) 0 = some true := by
      refine Nar.l1 (by rw [Moor.ints_length]; omega) (by rw [Moor.ints_length, Moor.ints_length]) (fun i hi => ?_) els.length 2998 0 (by rw [Moor.ints_length]; omega) (by omega)
      rw [Moor.ints_length] at hi
      rw [rd_nat (by rw [Moor.ints_length]; exact hi), rd_nat (by rw [Moor.ints_length]; exact hi)]
      simp only [Moor.ints, List.getElem_map, List.getElem_range]
      exact Nar.verdict (tens i hi) _
    by_cases c : Moor.holdsAt an fr (rd_T52 (Moor.pulls free (Moor.on els cs)) ((els.length - 1 : Nat) : Int)) (rd (Moor.lifts els) ((els.length - 1 : Nat) : Int)) = 1
    · rw [if_pos c]
      simp only [isobathlaw02_MooringNarrower.j1]
      rw [if_neg (by decide)]
      exact fin
    · rw [if_neg c, hh.resolve_left c]
      simp only [isobathlaw02_MooringNarrower.j1, bne_self_eq_false]
      rw [if_neg (by decide)]
      exact fin
theorem Nar.wf8 {n : Int} (h : (Lit.int .u8 n).wf = true) : 0 ≤ n ∧ n ≤ 255 := by
  have e : (decide ((0 : Int) ≤ n) && decide (n ≤ 255)) = true := h
  simp at e
  omega
theorem mooringNarrower_holds : Rows.MooringNarrowerCardSaid := mooringNarrower.carded fun m cs free ps hm _ hps => ⟨3000, Law2.narrower m.f0 m.f2 m.f3 cs free ps hm.2.1.1 (fun x hx => Nar.wf8 (hps.2 x hx))⟩
#print axioms mooringNarrower_holds
end Go.Proofs.YtebcmhajbjkojaaDoor.P
