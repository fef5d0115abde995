/- For all moorings that stand and all currents that are valid, with free directions each pull, tension, offset and rise contains that for the same direction, and the watch circle is the same; on other inputs the statement says that the examples of the chapter hold. Part 4 of 4. -/
-- Put together by wip/tools/shake.py, a program of this work: out of the words that the kit's print tool (print.sh) writes for a claim and what wip/tools/xprint.py prints, those that this claim reaches, and this work's own texts.
import Derived.Laws.EntriesVeiled
import Derived.Outline
import Derived.Deep.Slices
import Derived.Test.YtebcmhajbjkojaaRows
import Derived.WalkKit
import Derived.ProofKit
import Derived.OpenShut
import Derived.ShutString
import Derived.ChangeOld
import Derived.Below
import Derived.SizedLaws
import Derived.Carry
import Derived.KernelRfl
import Derived.Test.YtebcmhajbjkojaaKMooringFreer2
namespace Go.Proofs.Ytebcmhajbjkojaa.P
open Go.RowKit Go.Proofs.YtebcmhajbjkojaaW.PrintWords Go.Proofs.YtebcmhajbjkojaaW.PrintLast Go.Proofs.YtebcmhajbjkojaaW.PrintMore
attribute [local go_sem] max2_int min2_int max_two min_two max_three min_three max_four min_four   -- for this text's walks alone
set_option linter.unusedVariables false
set_option linter.unusedSimpArgs false
def isobathref02_forces.l0 : Nat → List (S57) → List (S57) → Int → Int → List (S46) → Int → Int → Option ((List (S57)))
  | 0, _, _, _, _, _, _, _ => none
  | k + 1, x1, x5, x6, x102000, x102001, x102002, x102003 => if x6 < (x1.length : Int) then (if 0 ≤ x6 then (if x6 < (x102001.length : Int) then ((isobathref02_Down.f (wrap64 ((wrap64 (((rd_T46 x102001 x6).f2) * ((rd_T57 x1 x6).f0))) * ((rd_T57 x1 x6).f0))) 1000000).bind fun t105 => ((isobathref02_Up.f (wrap64 ((wrap64 (((rd_T46 x102001 x6).f2) * ((rd_T57 x1 x6).f1))) * ((rd_T57 x1 x6).f1))) 1000000).bind fun t108 => (if x5.length < 8796093022208 then (isobathref02_forces.l0 k x1 (x5 ++ [(⟨t105, t108⟩ : S57)]) (wrap64 (x6 + 1)) x102000 x102001 x102002 x102003) else (none)))) else (none)) else (none)) else (some x5)
def isobathref02_forces.f (k : Nat) (a0_0 : Int) (l0_1 : List (S46)) (a0_2 : Int) (a0_3 : Int) (l1 : List (S57)) : Option ((List (S57))) := isobathref02_forces.l0 k l1 ([] : List (S57)) 0 a0_0 l0_1 a0_2 a0_3
def isobathref02_forces.T6 : Bool × List (List Nat × List Nat) := (true, [([], []), ([], []), ([], []), ([], []), ([2, 3], [2, 3]), ([4], [4]), ([5], [5]), ([1, 6], [1, 6]), ([], []), ([], []), ([8, 9], [8, 9]), ([10], [10]), ([11], [11]), ([7, 12], [7, 12]), ([13], [13]), ([], []), ([], []), ([], []), ([16, 17], [16, 17]), ([18], [18]), ([19], [19]), ([15, 20], [15, 20]), ([], []), ([], []), ([22, 23], [22, 23]), ([24], [24]), ([25], [25]), ([21, 26], [21, 26]), ([27, 14], [27]), ([14, 28], [14, 28]), ([29], [29]), ([0, 30, 28], [0, 30]), ([31, 31, 0, 1, 2, 3, 4, 5, 6, 7, 8, 9, 10, 11, 12, 13, 14, 15, 16, 17, 18, 19, 20, 21, 22, 23, 24, 25, 26, 27, 28, 29, 30, 31], [0, 31])])
def isobathref02_forces.B6 : List Nat := [0, 0, 0, 0, 12, 28, 60, 126, 0, 0, 768, 1792, 3840, 8190, 16382, 0, 0, 0, 196608, 458752, 983040, 2064384, 0, 0, 12582912, 29360128, 62914560, 134184960, 268435454, 536870910, 1073741822, 2147483647, 4294967295]
theorem isobathref02_forces.tab6 : rtab .any (opsOf Try.f77 6) = isobathref02_forces.T6 := by kernel_rfl
theorem isobathref02_forces.bits6 : waitsOk isobathref02_forces.T6.2 isobathref02_forces.B6 = true := by kernel_rfl
set_option maxHeartbeats 8000000 in
set_option maxRecDepth 100000 in
theorem isobathref02_forces.calls (k : Nat) (a0_0 : Int) (A0_1 : Option Addr) (c0_1 : Nat) (l0_1 : List (S46)) (a0_2 : Int) (a0_3 : Int) (A1 : Option Addr) (c1 : Nat) (l1 : List (S57)) (r : List (S57)) (w : World) (hr0_1 : Kd.C k46 w A0_1 l0_1.length l0_1) (hc0_1 : l0_1.length ≤ c0_1) (hr1 : Kd.C k57 w A1 l1.length l1) (hc1 : l1.length ≤ c1) (h : isobathref02_forces.f k a0_0 l0_1 a0_2 a0_3 l1 = some r) :
    Calls Try.prog 77 #[.agg #[.int .i64 a0_0, .slice A0_1 l0_1.length c0_1, .int .i64 a0_2, .int .i64 a0_3], .slice A1 l1.length c1] w fun e w' => ∃ v0_ : Value, e = .returned (v0_) ∧ Kd.R k57 57 w' w.heap.size (fun _ => True) v0_ r ∧ Below w.heap.size w w' := by
  have hu37 := Try.underlying37
  have hu57 := Try.underlying57
  have HR0_1 := Aside0.mk hr0_1
  have HC0_1 := Aside0.mk hc0_1
  clear hr0_1 hc0_1
  have HR1 := Aside0.mk hr1
  have HC1 := Aside0.mk hc1
  clear hr1 hc1
  have HB := Aside0.mk (Below.refl w.heap.size w)
  have H : (isobathref02_forces.l0 k l1 ([] : List (S57)) 0 a0_0 l0_1 a0_2 a0_3) = some r := h
  clear h
  have H' := Aside0.mk H
  clear H
  go_enter Try.func77, Try.ntmps77
  go_wp2_with (first | ((with_reducible refine gate_dst (N := 2) rfl ?_); refine box_event ?hg (N := 2) ?hd (cs := #[.int .i64 a0_0, .slice A0_1 l0_1.length c0_1, .int .i64 a0_2, .int .i64 a0_3]) (t := 37) ?hr ?_; (case hd => rfl); (case hg => rfl); (case hr => first | (go_simp; done) | (go_simp; rfl)); intro gb101 hg w3 hbox hb; have n0_ := Aside0.mk (below_step (by repeat (first | (with_reducible first | exact HB.out | apply below_alloc | apply pw_below_drewN | apply below_drew1) | exact HB.out)) hb); have n1_ := Aside0.mk (hbox); have n2_ := Aside0.mk ((by rw [hg]; exact (below_size (by repeat (first | (with_reducible first | exact HB.out | apply below_alloc | apply pw_below_drewN | apply below_drew1) | exact HB.out))) : w.heap.size ≤ gb101)); have n3_ := Aside0.mk ((by rw [hg]; exact (below_size (by repeat (first | (with_reducible first | exact HB.out | apply below_alloc | apply pw_below_drewN | apply below_drew1) | exact HB.out))) : w.heap.size ≤ gb101)); clear HB; have HB := n0_; have BK101 := n1_; have GW101 := n2_; have GE101 := n3_; clear n0_ n1_ n2_ n3_; clear hb hbox hg))
  go_loopg [5, 6] k (fun kq v5 v6 w' => ∃ (x5_1 : List (S57)) (x6_1 : Int), v6 = .int .i64 x6_1 ∧ Aside0 (isobathref02_forces.l0 kq l1 x5_1 x6_1 a0_0 l0_1 a0_2 a0_3 = some r) ∧ Aside0 (kq ≤ k) ∧ Aside0 (Kd.R k57 57 w' w.heap.size (fun _ => True) v5 x5_1) ∧ Aside0 (w'.heap[gb101]? = some (.cells #[.int .i64 a0_0, (.slice A0_1 l0_1.length c0_1), .int .i64 a0_2, .int .i64 a0_3] 37 (0, 0))) ∧ Aside0 (Below w.heap.size w w'))
  case atStart => exact ⟨(([] : List (S57))), (0), (by first | rfl | (simp; done) | (simp [*]; done)), H', ⟨Nat.le_refl _⟩, ⟨by first | exact Kd.R_nil _ _ _ _ _ | exact Kd.N_nil _ _ _ _ _ | exact Kd.V_nil _ _ _ _ _ | exact Kd.Q_nil _ _ _ _ _ | exact Kd.S_nil _ _ _ _ _⟩, ⟨by (with_reducible repeat (first | refine blk_drewN ?_ _ | refine blk_drew ?_ | refine blk_alloc ?_ _)); exact BK101.out⟩, ⟨by repeat (first | (with_reducible first | exact HB.out | apply below_alloc | apply pw_below_drewN | apply below_drew1 | refine below_set ?_ GE101.out) | exact HB.out)⟩⟩
  case round =>
    clear H'
    try clear c1
    try clear p2
    obtain ⟨x5_1, x6_1, rfl, HA, HK1, HO_5, BK101, HB⟩ := hrel
    cases gk with
    | zero => exact absurd HA.out (by simp [isobathref02_forces.l0])
    | succ k1 =>
      have H := HA.out
      clear HA
      simp only [isobathref02_forces.l0] at H
      by_cases c4 : x6_1 < (l1.length : Int)
      · rw [if_pos c4] at H
        have c4b0 : decide (x6_1 < (l1.length : Int)) = true := decide_eq_true c4
        clear c4
        by_cases c5 : 0 ≤ x6_1
        · rw [if_pos c5] at H
          have c5b0 : decide (0 ≤ x6_1) = true := decide_eq_true c5
          clear c5
          by_cases c6 : x6_1 < (l0_1.length : Int)
          · rw [if_pos c6] at H
            have c6b0 : decide (x6_1 < (l0_1.length : Int)) = true := decide_eq_true c6
            clear c6
            replace H := Option.bind_eq_some_iff.mp H
            obtain ⟨t105, A70, H⟩ := H
            replace H : ((isobathref02_Up.f (wrap64 ((wrap64 (((rd_T46 l0_1 x6_1).f2) * ((rd_T57 l1 x6_1).f1))) * ((rd_T57 l1 x6_1).f1))) 1000000).bind fun t108 => (if x5_1.length < 8796093022208 then (isobathref02_forces.l0 k1 l1 (x5_1 ++ [(⟨t105, t108⟩ : S57)]) (wrap64 (x6_1 + 1)) a0_0 l0_1 a0_2 a0_3) else (none))) = some r := H
            have A7 := Aside0.mk A70
            clear A70
            replace H := Option.bind_eq_some_iff.mp H
            obtain ⟨t108, A80, H⟩ := H
            replace H : (if x5_1.length < 8796093022208 then (isobathref02_forces.l0 k1 l1 (x5_1 ++ [(⟨t105, t108⟩ : S57)]) (wrap64 (x6_1 + 1)) a0_0 l0_1 a0_2 a0_3) else (none)) = some r := H
            have A8 := Aside0.mk A80
            clear A80
            by_cases c9 : x5_1.length < 8796093022208
            · rw [if_pos c9] at H
              have LMc9 := Aside0.mk c9
              clear c9
              obtain ⟨y109, hy109⟩ : ∃ y_ : List (S57), y_ = (x5_1 ++ [(⟨t105, t108⟩ : S57)]) := ⟨_, rfl⟩
              replace H : (isobathref02_forces.l0 k1 l1 y109 (wrap64 (x6_1 + 1)) a0_0 l0_1 a0_2 a0_3) = some r := by first | (rw [hy109]; with_reducible exact H) | (have H2_ := (Option.bind_some _ _).symm.trans H; rw [hy109]; with_reducible exact H2_) | (have H2_ := (Option.bind_some _ _).symm.trans H; with_reducible exact H2_) | with_reducible exact H | (rw [hy109]; exact H) | exact H
              have Ny109 := Aside0.mk hy109
              clear hy109
              have H' := Aside0.mk H
              clear H
              have hcz10_0 : wr.cell? ⟨gb101, 0, none⟩ = some (.int .i64 a0_0) := (blk_cell BK101.out 0).trans rfl
              have hcz10_1 : wr.cell? ⟨gb101, 1, none⟩ = some (.slice A0_1 l0_1.length c0_1) := (blk_cell BK101.out 1).trans rfl
              have hcz10_2 : wr.cell? ⟨gb101, 2, none⟩ = some (.int .i64 a0_2) := (blk_cell BK101.out 2).trans rfl
              have hcz10_3 : wr.cell? ⟨gb101, 3, none⟩ = some (.int .i64 a0_3) := (blk_cell BK101.out 3).trans rfl
              have hfz10_0 := blk_frozen BK101.out 0
              have hfz10_1 := blk_frozen BK101.out 1
              have hfz10_2 := blk_frozen BK101.out 2
              have hfz10_3 := blk_frozen BK101.out 3
              have p102 : 0 ≤ (x6_1 : Int) := of_decide_eq_true (by first | (with_reducible assumption) | assumption)
              have q102 : x6_1 < (l0_1.length : Int) := of_decide_eq_true (by first | (with_reducible assumption) | assumption)
              obtain ⟨ad102, e102, hx102_0, hx102_1, hx102_2, hx102_3⟩ := at_T46 HR0_1.out x6_1 p102 q102
              cases e102
              replace hx102_0 := (HB.out.cell (World.block_lt_of_cell? w _ hx102_0)).trans hx102_0
              replace hx102_1 := (HB.out.cell (World.block_lt_of_cell? w _ hx102_1)).trans hx102_1
              replace hx102_2 := (HB.out.cell (World.block_lt_of_cell? w _ hx102_2)).trans hx102_2
              replace hx102_3 := (HB.out.cell (World.block_lt_of_cell? w _ hx102_3)).trans hx102_3
              replace p102 := eq_true p102
              replace q102 := eq_true q102
              try go_wp2
              have n0_ := Aside0.mk (Kd.R_drew HO_5.out)
              have n1_ := Aside0.mk (blk_drew BK101.out)
              have n2_ := Aside0.mk (below_drew1 HB.out)
              clear HO_5
              clear BK101
              clear HB
              have HO_5 := n0_
              have BK101 := n1_
              have HB := n2_
              clear n0_ n1_ n2_
              have p103 : 0 ≤ (x6_1 : Int) := of_decide_eq_true (by first | (with_reducible assumption) | assumption)
              have q103 : x6_1 < (l1.length : Int) := of_decide_eq_true (by first | (with_reducible assumption) | assumption)
              obtain ⟨ad103, e103, hx103_0, hx103_1⟩ := at_T57 HR1.out x6_1 p103 q103
              have hw103_1 := hx103_1
              have hw103_0 := hx103_0
              cases e103
              replace hx103_0 := (HB.out.cell (World.block_lt_of_cell? w _ hx103_0)).trans hx103_0
              replace hx103_1 := (HB.out.cell (World.block_lt_of_cell? w _ hx103_1)).trans hx103_1
              replace p103 := eq_true p103
              replace q103 := eq_true q103
              have p104 : 0 ≤ (x6_1 : Int) := of_decide_eq_true (by first | (with_reducible assumption) | assumption)
              have q104 : x6_1 < (l1.length : Int) := of_decide_eq_true (by first | (with_reducible assumption) | assumption)
              obtain ⟨ad104, e104, hx104_0, hx104_1⟩ := at_T57 HR1.out x6_1 p104 q104
              have hw104_1 := hx104_1
              have hw104_0 := hx104_0
              obtain rfl : ad103 = ad104 := (by injection e104)
              replace hx104_0 := (HB.out.cell (World.block_lt_of_cell? w _ hx104_0)).trans hx104_0
              replace hx104_1 := (HB.out.cell (World.block_lt_of_cell? w _ hx104_1)).trans hx104_1
              replace p104 := eq_true p104
              replace q104 := eq_true q104
              have p106 : 0 ≤ (x6_1 : Int) := of_decide_eq_true (by first | (with_reducible assumption) | assumption)
              have q106 : x6_1 < (l1.length : Int) := of_decide_eq_true (by first | (with_reducible assumption) | assumption)
              obtain ⟨ad106, e106, hx106_0, hx106_1⟩ := at_T57 HR1.out x6_1 p106 q106
              have hw106_1 := hx106_1
              have hw106_0 := hx106_0
              obtain rfl : ad103 = ad106 := (by injection e106)
              replace hx106_0 := (HB.out.cell (World.block_lt_of_cell? w _ hx106_0)).trans hx106_0
              replace hx106_1 := (HB.out.cell (World.block_lt_of_cell? w _ hx106_1)).trans hx106_1
              replace p106 := eq_true p106
              replace q106 := eq_true q106
              have p107 : 0 ≤ (x6_1 : Int) := of_decide_eq_true (by first | (with_reducible assumption) | assumption)
              have q107 : x6_1 < (l1.length : Int) := of_decide_eq_true (by first | (with_reducible assumption) | assumption)
              obtain ⟨ad107, e107, hx107_0, hx107_1⟩ := at_T57 HR1.out x6_1 p107 q107
              have hw107_1 := hx107_1
              have hw107_0 := hx107_0
              obtain rfl : ad103 = ad107 := (by injection e107)
              replace hx107_0 := (HB.out.cell (World.block_lt_of_cell? w _ hx107_0)).trans hx107_0
              replace hx107_1 := (HB.out.cell (World.block_lt_of_cell? w _ hx107_1)).trans hx107_1
              replace p107 := eq_true p107
              replace q107 := eq_true q107
              refine start_ (n := 33) (S := fun w' => w'.cell? (ad103.add ((x6_1).toNat * 2)) = some (.int .i64 ((rd_T57 l1 x6_1).f0)) ∧ w'.cell? ⟨(ad103.add ((x6_1).toNat * 2)).block, (ad103.add ((x6_1).toNat * 2)).off + 1, none⟩ = some (.int .i64 ((rd_T57 l1 x6_1).f1)) ∧ w'.cell? (ad103.add ((x6_1).toNat * 2)) = some (.int .i64 ((rd_T57 l1 x6_1).f0)) ∧ w'.cell? ⟨(ad103.add ((x6_1).toNat * 2)).block, (ad103.add ((x6_1).toNat * 2)).off + 1, none⟩ = some (.int .i64 ((rd_T57 l1 x6_1).f1)) ∧ w'.cell? (ad103.add ((x6_1).toNat * 2)) = some (.int .i64 ((rd_T57 l1 x6_1).f0)) ∧ w'.cell? ⟨(ad103.add ((x6_1).toNat * 2)).block, (ad103.add ((x6_1).toNat * 2)).off + 1, none⟩ = some (.int .i64 ((rd_T57 l1 x6_1).f1)) ∧ w'.cell? (ad103.add ((x6_1).toNat * 2)) = some (.int .i64 ((rd_T57 l1 x6_1).f0)) ∧ w'.cell? ⟨(ad103.add ((x6_1).toNat * 2)).block, (ad103.add ((x6_1).toNat * 2)).off + 1, none⟩ = some (.int .i64 ((rd_T57 l1 x6_1).f1))) (ds := []) #[false, false, false, false, false, false, false, false, false, false, false, false, false, false, false, false, false, false, false, false, false, false, false, false, false, false, false, false, false, false, false, false, false] (by kernel_rfl) rfl rfl ⟨((HB.out.cell (World.block_lt_of_cell? w _ hw103_0)).trans hw103_0), ((HB.out.cell (World.block_lt_of_cell? w _ hw103_1)).trans hw103_1), ((HB.out.cell (World.block_lt_of_cell? w _ hw104_0)).trans hw104_0), ((HB.out.cell (World.block_lt_of_cell? w _ hw104_1)).trans hw104_1), ((HB.out.cell (World.block_lt_of_cell? w _ hw106_0)).trans hw106_0), ((HB.out.cell (World.block_lt_of_cell? w _ hw106_1)).trans hw106_1), ((HB.out.cell (World.block_lt_of_cell? w _ hw107_0)).trans hw107_0), ((HB.out.cell (World.block_lt_of_cell? w _ hw107_1)).trans hw107_1)⟩ (fun hHeld => ?_); refine with_tabW isobathref02_forces.tab6 isobathref02_forces.bits6 (fun HT_ HW_ => ?_)
              generalize wr.drew = w11 at HO_5 BK101 HB hx103_0 hx103_1 hx104_0 hx104_1 hx106_0 hx106_1 hx107_0 hx107_1 hHeld ⊢
              refine pure_ (i := 0) (N := some 20) (v := ?_) (a' := ?_) #[true, false, false, false, false, false, false, false, false, false, false, false, false, false, false, false, false, false, false, false, false, false, false, false, false, false, false, false, false, false, false, false, false] rfl rfl (any_of HT_.out (by kernel_rfl)) (fun _ _ _ h => h) (Or.inl ⟨by rfl, ?_⟩) ?_ ?_
              rotate_left
              · intro w'
                go_simp
                with_reducible rfl
              rotate_left
              · simp only [Act.put, List.setIfInBounds_toArray, List.set_cons_zero, List.set_cons_succ, i64_w, i32_w]
                rfl
              refine pure_ (i := 1) (N := some 21) (v := ?_) (a' := ?_) #[true, true, false, false, false, false, false, false, false, false, false, false, false, false, false, false, false, false, false, false, false, false, false, false, false, false, false, false, false, false, false, false, false] rfl rfl (any_of HT_.out (by kernel_rfl)) (fun _ _ _ h => h) (Or.inl ⟨by rfl, ?_⟩) ?_ ?_
              rotate_left
              · intro w'
                go_simp
                with_reducible rfl
              rotate_left
              · simp only [Act.put, List.setIfInBounds_toArray, List.set_cons_zero, List.set_cons_succ, i64_w, i32_w]
                rfl
              refine pure_ (i := 2) (N := some 22) (v := ?_) (a' := ?_) #[true, true, true, false, false, false, false, false, false, false, false, false, false, false, false, false, false, false, false, false, false, false, false, false, false, false, false, false, false, false, false, false, false] rfl rfl (any_of HT_.out (by kernel_rfl)) (fun _ _ _ h => h) (Or.inl ⟨by rfl, ?_⟩) ?_ ?_
              rotate_left
              · intro w'
                go_simp
                with_reducible rfl
              rotate_left
              · simp only [Act.put, List.setIfInBounds_toArray, List.set_cons_zero, List.set_cons_succ, i64_w, i32_w]
                rfl
              refine pure_ (i := 3) (N := some 23) (v := ?_) (a' := ?_) #[true, true, true, true, false, false, false, false, false, false, false, false, false, false, false, false, false, false, false, false, false, false, false, false, false, false, false, false, false, false, false, false, false] rfl rfl (any_of HT_.out (by kernel_rfl)) (fun _ _ _ h => h) (Or.inl ⟨by rfl, ?_⟩) ?_ ?_
              rotate_left
              · intro w'
                go_simp
                with_reducible rfl
              rotate_left
              · simp only [Act.put, List.setIfInBounds_toArray, List.set_cons_zero, List.set_cons_succ, i64_w, i32_w]
                rfl
              refine pure_ (i := 4) (N := some 24) (v := ?_) (a' := ?_) #[true, true, true, true, true, false, false, false, false, false, false, false, false, false, false, false, false, false, false, false, false, false, false, false, false, false, false, false, false, false, false, false, false] rfl rfl (any_of HT_.out (by kernel_rfl)) (fun _ _ _ h => h) (Or.inl ⟨by rfl, ?_⟩) ?_ ?_
              rotate_left
              · intro w'
                go_simp
                with_reducible rfl
              rotate_left
              · simp only [Act.put, List.setIfInBounds_toArray, List.set_cons_zero, List.set_cons_succ, i64_w, i32_w]
                rfl
              refine pure_ (i := 5) (N := some 25) (v := ?_) (a' := ?_) #[true, true, true, true, true, true, false, false, false, false, false, false, false, false, false, false, false, false, false, false, false, false, false, false, false, false, false, false, false, false, false, false, false] rfl rfl (any_of HT_.out (by kernel_rfl)) (fun _ _ _ h => h) (Or.inl ⟨by rfl, ?_⟩) ?_ ?_
              rotate_left
              · intro w'
                go_simp
                with_reducible rfl
              rotate_left
              · simp only [Act.put, List.setIfInBounds_toArray, List.set_cons_zero, List.set_cons_succ, i64_w, i32_w]
                rfl
              refine pure_ (i := 8) (N := some 28) (v := ?_) (a' := ?_) #[true, true, true, true, true, true, false, false, true, false, false, false, false, false, false, false, false, false, false, false, false, false, false, false, false, false, false, false, false, false, false, false, false] rfl rfl (any_of HT_.out (by kernel_rfl)) (fun _ _ _ h => h) (Or.inl ⟨by rfl, ?_⟩) ?_ ?_
              rotate_left
              · intro w'
                go_simp
                with_reducible rfl
              rotate_left
              · simp only [Act.put, List.setIfInBounds_toArray, List.set_cons_zero, List.set_cons_succ, i64_w, i32_w]
                rfl
              refine pure_ (i := 9) (N := some 29) (v := ?_) (a' := ?_) #[true, true, true, true, true, true, false, false, true, true, false, false, false, false, false, false, false, false, false, false, false, false, false, false, false, false, false, false, false, false, false, false, false] rfl rfl (any_of HT_.out (by kernel_rfl)) (fun _ _ _ h => h) (Or.inl ⟨by rfl, ?_⟩) ?_ ?_
              rotate_left
              · intro w'
                go_simp
                with_reducible rfl
              rotate_left
              · simp only [Act.put, List.setIfInBounds_toArray, List.set_cons_zero, List.set_cons_succ, i64_w, i32_w]
                rfl
              refine pure_ (i := 10) (N := some 30) (v := ?_) (a' := ?_) #[true, true, true, true, true, true, false, false, true, true, true, false, false, false, false, false, false, false, false, false, false, false, false, false, false, false, false, false, false, false, false, false, false] rfl rfl (any_of HT_.out (by kernel_rfl)) (fun _ _ _ h => h) (Or.inl ⟨by rfl, ?_⟩) ?_ ?_
              rotate_left
              · intro w'
                go_simp
                with_reducible rfl
              rotate_left
              · simp only [Act.put, List.setIfInBounds_toArray, List.set_cons_zero, List.set_cons_succ, i64_w, i32_w]
                rfl
              refine pure_ (i := 11) (N := some 31) (v := ?_) (a' := ?_) #[true, true, true, true, true, true, false, false, true, true, true, true, false, false, false, false, false, false, false, false, false, false, false, false, false, false, false, false, false, false, false, false, false] rfl rfl (any_of HT_.out (by kernel_rfl)) (fun _ _ _ h => h) (Or.inl ⟨by rfl, ?_⟩) ?_ ?_
              rotate_left
              · intro w'
                go_simp
                with_reducible rfl
              rotate_left
              · simp only [Act.put, List.setIfInBounds_toArray, List.set_cons_zero, List.set_cons_succ, i64_w, i32_w]
                rfl
              refine pure_ (i := 15) (N := some 35) (v := ?_) (a' := ?_) #[true, true, true, true, true, true, false, false, true, true, true, true, false, false, false, true, false, false, false, false, false, false, false, false, false, false, false, false, false, false, false, false, false] rfl rfl (any_of HT_.out (by kernel_rfl)) (fun _ _ _ h => h) (Or.inl ⟨by rfl, ?_⟩) ?_ ?_
              rotate_left
              · intro w'
                go_simp
                with_reducible rfl
              rotate_left
              · simp only [Act.put, List.setIfInBounds_toArray, List.set_cons_zero, List.set_cons_succ, i64_w, i32_w]
                rfl
              refine pure_ (i := 16) (N := some 36) (v := ?_) (a' := ?_) #[true, true, true, true, true, true, false, false, true, true, true, true, false, false, false, true, true, false, false, false, false, false, false, false, false, false, false, false, false, false, false, false, false] rfl rfl (any_of HT_.out (by kernel_rfl)) (fun _ _ _ h => h) (Or.inl ⟨by rfl, ?_⟩) ?_ ?_
              rotate_left
              · intro w'
                go_simp
                with_reducible rfl
              rotate_left
              · simp only [Act.put, List.setIfInBounds_toArray, List.set_cons_zero, List.set_cons_succ, i64_w, i32_w]
                rfl
              refine pure_ (i := 17) (N := some 37) (v := ?_) (a' := ?_) #[true, true, true, true, true, true, false, false, true, true, true, true, false, false, false, true, true, true, false, false, false, false, false, false, false, false, false, false, false, false, false, false, false] rfl rfl (any_of HT_.out (by kernel_rfl)) (fun _ _ _ h => h) (Or.inl ⟨by rfl, ?_⟩) ?_ ?_
              rotate_left
              · intro w'
                go_simp
                with_reducible rfl
              rotate_left
              · simp only [Act.put, List.setIfInBounds_toArray, List.set_cons_zero, List.set_cons_succ, i64_w, i32_w]
                rfl
              refine pure_ (i := 18) (N := some 38) (v := ?_) (a' := ?_) #[true, true, true, true, true, true, false, false, true, true, true, true, false, false, false, true, true, true, true, false, false, false, false, false, false, false, false, false, false, false, false, false, false] rfl rfl (any_of HT_.out (by kernel_rfl)) (fun _ _ _ h => h) (Or.inl ⟨by rfl, ?_⟩) ?_ ?_
              rotate_left
              · intro w'
                go_simp
                with_reducible rfl
              rotate_left
              · simp only [Act.put, List.setIfInBounds_toArray, List.set_cons_zero, List.set_cons_succ, i64_w, i32_w]
                rfl
              refine pure_ (i := 19) (N := some 39) (v := ?_) (a' := ?_) #[true, true, true, true, true, true, false, false, true, true, true, true, false, false, false, true, true, true, true, true, false, false, false, false, false, false, false, false, false, false, false, false, false] rfl rfl (any_of HT_.out (by kernel_rfl)) (fun _ _ _ h => h) (Or.inl ⟨by rfl, ?_⟩) ?_ ?_
              rotate_left
              · intro w'
                go_simp
                with_reducible rfl
              rotate_left
              · simp only [Act.put, List.setIfInBounds_toArray, List.set_cons_zero, List.set_cons_succ, i64_w, i32_w]
                rfl
              refine pure_ (i := 22) (N := some 42) (v := ?_) (a' := ?_) #[true, true, true, true, true, true, false, false, true, true, true, true, false, false, false, true, true, true, true, true, false, false, true, false, false, false, false, false, false, false, false, false, false] rfl rfl (any_of HT_.out (by kernel_rfl)) (fun _ _ _ h => h) (Or.inl ⟨by rfl, ?_⟩) ?_ ?_
              rotate_left
              · intro w'
                go_simp
                with_reducible rfl
              rotate_left
              · simp only [Act.put, List.setIfInBounds_toArray, List.set_cons_zero, List.set_cons_succ, i64_w, i32_w]
                rfl
              refine pure_ (i := 23) (N := some 43) (v := ?_) (a' := ?_) #[true, true, true, true, true, true, false, false, true, true, true, true, false, false, false, true, true, true, true, true, false, false, true, true, false, false, false, false, false, false, false, false, false] rfl rfl (any_of HT_.out (by kernel_rfl)) (fun _ _ _ h => h) (Or.inl ⟨by rfl, ?_⟩) ?_ ?_
              rotate_left
              · intro w'
                go_simp
                with_reducible rfl
              rotate_left
              · simp only [Act.put, List.setIfInBounds_toArray, List.set_cons_zero, List.set_cons_succ, i64_w, i32_w]
                rfl
              refine pure_ (i := 24) (N := some 44) (v := ?_) (a' := ?_) #[true, true, true, true, true, true, false, false, true, true, true, true, false, false, false, true, true, true, true, true, false, false, true, true, true, false, false, false, false, false, false, false, false] rfl rfl (any_of HT_.out (by kernel_rfl)) (fun _ _ _ h => h) (Or.inl ⟨by rfl, ?_⟩) ?_ ?_
              rotate_left
              · intro w'
                go_simp
                with_reducible rfl
              rotate_left
              · simp only [Act.put, List.setIfInBounds_toArray, List.set_cons_zero, List.set_cons_succ, i64_w, i32_w]
                rfl
              refine pure_ (i := 25) (N := some 45) (v := ?_) (a' := ?_) #[true, true, true, true, true, true, false, false, true, true, true, true, false, false, false, true, true, true, true, true, false, false, true, true, true, true, false, false, false, false, false, false, false] rfl rfl (any_of HT_.out (by kernel_rfl)) (fun _ _ _ h => h) (Or.inl ⟨by rfl, ?_⟩) ?_ ?_
              rotate_left
              · intro w'
                go_simp
                with_reducible rfl
              rotate_left
              · simp only [Act.put, List.setIfInBounds_toArray, List.set_cons_zero, List.set_cons_succ, i64_w, i32_w]
                rfl
              refine take_ (i := 6) (N := some 26) (v := ?_) (a' := ?_) #[true, true, true, true, true, true, true, false, true, true, true, true, false, false, false, true, true, true, true, true, false, false, true, true, true, true, false, false, false, false, false, false, false] rfl rfl (take_ofW HT_.out HW_.out (by kernel_rfl)) (fun _ _ _ h => h) (Or.inl ⟨by rfl, ?_⟩) hHeld ?_ ?_
              rotate_left
              · rintro w' ⟨s0, s1, s2, s3, s4, s5, s6, s7⟩
                go_simp
                with_reducible rfl
              rotate_left
              · simp only [Act.put, List.setIfInBounds_toArray, List.set_cons_zero, List.set_cons_succ, i64_w, i32_w]
                rfl
              refine pure_ (i := 7) (N := some 27) (v := ?_) (a' := ?_) #[true, true, true, true, true, true, true, true, true, true, true, true, false, false, false, true, true, true, true, true, false, false, true, true, true, true, false, false, false, false, false, false, false] rfl rfl (any_of HT_.out (by kernel_rfl)) (fun _ _ _ h => h) (Or.inl ⟨by rfl, ?_⟩) ?_ ?_
              rotate_left
              · intro w'
                go_simp
                with_reducible rfl
              rotate_left
              · simp only [Act.put, List.setIfInBounds_toArray, List.set_cons_zero, List.set_cons_succ, i64_w, i32_w]
                rfl
              refine take_ (i := 12) (N := some 32) (v := ?_) (a' := ?_) #[true, true, true, true, true, true, true, true, true, true, true, true, true, false, false, true, true, true, true, true, false, false, true, true, true, true, false, false, false, false, false, false, false] rfl rfl (take_ofW HT_.out HW_.out (by kernel_rfl)) (fun _ _ _ h => h) (Or.inl ⟨by rfl, ?_⟩) hHeld ?_ ?_
              rotate_left
              · rintro w' ⟨s0, s1, s2, s3, s4, s5, s6, s7⟩
                go_simp
                with_reducible rfl
              rotate_left
              · simp only [Act.put, List.setIfInBounds_toArray, List.set_cons_zero, List.set_cons_succ, i64_w, i32_w]
                rfl
              refine pure_ (i := 13) (N := some 33) (v := ?_) (a' := ?_) #[true, true, true, true, true, true, true, true, true, true, true, true, true, true, false, true, true, true, true, true, false, false, true, true, true, true, false, false, false, false, false, false, false] rfl rfl (any_of HT_.out (by kernel_rfl)) (fun _ _ _ h => h) (Or.inl ⟨by rfl, ?_⟩) ?_ ?_
              rotate_left
              · intro w'
                go_simp
                with_reducible rfl
              rotate_left
              · simp only [Act.put, List.setIfInBounds_toArray, List.set_cons_zero, List.set_cons_succ, i64_w, i32_w]
                rfl
              refine take_ (i := 20) (N := some 40) (v := ?_) (a' := ?_) #[true, true, true, true, true, true, true, true, true, true, true, true, true, true, false, true, true, true, true, true, true, false, true, true, true, true, false, false, false, false, false, false, false] rfl rfl (take_ofW HT_.out HW_.out (by kernel_rfl)) (fun _ _ _ h => h) (Or.inl ⟨by rfl, ?_⟩) hHeld ?_ ?_
              rotate_left
              · rintro w' ⟨s0, s1, s2, s3, s4, s5, s6, s7⟩
                go_simp
                with_reducible rfl
              rotate_left
              · simp only [Act.put, List.setIfInBounds_toArray, List.set_cons_zero, List.set_cons_succ, i64_w, i32_w]
                rfl
              refine pure_ (i := 21) (N := some 41) (v := ?_) (a' := ?_) #[true, true, true, true, true, true, true, true, true, true, true, true, true, true, false, true, true, true, true, true, true, true, true, true, true, true, false, false, false, false, false, false, false] rfl rfl (any_of HT_.out (by kernel_rfl)) (fun _ _ _ h => h) (Or.inl ⟨by rfl, ?_⟩) ?_ ?_
              rotate_left
              · intro w'
                go_simp
                with_reducible rfl
              rotate_left
              · simp only [Act.put, List.setIfInBounds_toArray, List.set_cons_zero, List.set_cons_succ, i64_w, i32_w]
                rfl
              refine take_ (i := 26) (N := some 46) (v := ?_) (a' := ?_) #[true, true, true, true, true, true, true, true, true, true, true, true, true, true, false, true, true, true, true, true, true, true, true, true, true, true, true, false, false, false, false, false, false] rfl rfl (take_ofW HT_.out HW_.out (by kernel_rfl)) (fun _ _ _ h => h) (Or.inl ⟨by rfl, ?_⟩) hHeld ?_ ?_
              rotate_left
              · rintro w' ⟨s0, s1, s2, s3, s4, s5, s6, s7⟩
                go_simp
                with_reducible rfl
              rotate_left
              · simp only [Act.put, List.setIfInBounds_toArray, List.set_cons_zero, List.set_cons_succ, i64_w, i32_w]
                rfl
              refine pure_ (i := 27) (N := some 47) (v := ?_) (a' := ?_) #[true, true, true, true, true, true, true, true, true, true, true, true, true, true, false, true, true, true, true, true, true, true, true, true, true, true, true, true, false, false, false, false, false] rfl rfl (any_of HT_.out (by kernel_rfl)) (fun _ _ _ h => h) (Or.inl ⟨by rfl, ?_⟩) ?_ ?_
              rotate_left
              · intro w'
                go_simp
                with_reducible rfl
              rotate_left
              · simp only [Act.put, List.setIfInBounds_toArray, List.set_cons_zero, List.set_cons_succ, i64_w, i32_w]
                rfl
              refine one_ (i := 14) (N := some 34) #[true, true, true, true, true, true, true, true, true, true, true, true, true, true, true, true, true, true, true, true, true, true, true, true, true, true, true, true, false, false, false, false, false] rfl rfl (one_of HT_.out (by kernel_rfl)) (by decide) (fun K hK => ?_)
              refine goes_ Try.func69 (by kernel_rfl) rfl #[.int .i64 (wrap64 ((wrap64 (((rd_T46 l0_1 x6_1).f2) * ((rd_T57 l1 x6_1).f0))) * ((rd_T57 l1 x6_1).f0))), .int .i64 1000000] (by rfl) rfl rfl (by (try simp only [List.map_toArray, List.map_cons, List.map_nil]); first | done | rfl | (simp only [List.length_drop, List.length_take]; rfl)) ?_
              with_reducible refine (isobathref02_Down.calls (wrap64 ((wrap64 (((rd_T46 l0_1 x6_1).f2) * ((rd_T57 l1 x6_1).f0))) * ((rd_T57 l1 x6_1).f0))) 1000000 t105 _ A7.out).mono ?_
              rintro e w' ⟨rfl, ⟨nd, rfl⟩⟩
              refine ⟨_, rfl, ?_⟩
              refine hK.out _ _ ⟨((HB.out.cell (World.block_lt_of_cell? w _ hw103_0)).trans hw103_0), ((HB.out.cell (World.block_lt_of_cell? w _ hw103_1)).trans hw103_1), ((HB.out.cell (World.block_lt_of_cell? w _ hw104_0)).trans hw104_0), ((HB.out.cell (World.block_lt_of_cell? w _ hw104_1)).trans hw104_1), ((HB.out.cell (World.block_lt_of_cell? w _ hw106_0)).trans hw106_0), ((HB.out.cell (World.block_lt_of_cell? w _ hw106_1)).trans hw106_1), ((HB.out.cell (World.block_lt_of_cell? w _ hw107_0)).trans hw107_0), ((HB.out.cell (World.block_lt_of_cell? w _ hw107_1)).trans hw107_1)⟩ (fun hHeld => ?_)
              clear hK K
              refine norm_ (a' := ?_) ?_ ?_
              rotate_left
              · show Act.put _ (some 34) _ = _
                simp only [Act.put, List.setIfInBounds_toArray, List.set_cons_zero, List.set_cons_succ, i64_w, i32_w]
                rfl
              refine one_ (i := 28) (N := some 48) #[true, true, true, true, true, true, true, true, true, true, true, true, true, true, true, true, true, true, true, true, true, true, true, true, true, true, true, true, true, false, false, false, false] rfl rfl (one_of HT_.out (by kernel_rfl)) (by decide) (fun K hK => ?_)
              refine goes_ Try.func71 (by kernel_rfl) rfl #[.int .i64 (wrap64 ((wrap64 (((rd_T46 l0_1 x6_1).f2) * ((rd_T57 l1 x6_1).f1))) * ((rd_T57 l1 x6_1).f1))), .int .i64 1000000] (by rfl) rfl rfl (by (try simp only [List.map_toArray, List.map_cons, List.map_nil]); first | done | rfl | (simp only [List.length_drop, List.length_take]; rfl)) ?_
              with_reducible refine (isobathref02_Up.calls (wrap64 ((wrap64 (((rd_T46 l0_1 x6_1).f2) * ((rd_T57 l1 x6_1).f1))) * ((rd_T57 l1 x6_1).f1))) 1000000 t108 _ A8.out).mono ?_
              rintro e w' ⟨rfl, ⟨nd, rfl⟩⟩
              refine ⟨_, rfl, ?_⟩
              refine hK.out _ _ ⟨((HB.out.cell (World.block_lt_of_cell? w _ hw103_0)).trans hw103_0), ((HB.out.cell (World.block_lt_of_cell? w _ hw103_1)).trans hw103_1), ((HB.out.cell (World.block_lt_of_cell? w _ hw104_0)).trans hw104_0), ((HB.out.cell (World.block_lt_of_cell? w _ hw104_1)).trans hw104_1), ((HB.out.cell (World.block_lt_of_cell? w _ hw106_0)).trans hw106_0), ((HB.out.cell (World.block_lt_of_cell? w _ hw106_1)).trans hw106_1), ((HB.out.cell (World.block_lt_of_cell? w _ hw107_0)).trans hw107_0), ((HB.out.cell (World.block_lt_of_cell? w _ hw107_1)).trans hw107_1)⟩ (fun hHeld => ?_)
              clear hK K
              refine norm_ (a' := ?_) ?_ ?_
              rotate_left
              · show Act.put _ (some 48) _ = _
                simp only [Act.put, List.setIfInBounds_toArray, List.set_cons_zero, List.set_cons_succ, i64_w, i32_w]
                rfl
              refine pure_ (i := 29) (N := some 49) (v := ?_) (a' := ?_) #[true, true, true, true, true, true, true, true, true, true, true, true, true, true, true, true, true, true, true, true, true, true, true, true, true, true, true, true, true, true, false, false, false] rfl rfl (any_of HT_.out (by kernel_rfl)) (fun _ _ _ h => h) (Or.inl ⟨by rfl, ?_⟩) ?_ ?_
              rotate_left
              · intro w'
                go_simp
                with_reducible rfl
              rotate_left
              · simp only [Act.put, List.setIfInBounds_toArray, List.set_cons_zero, List.set_cons_succ, i64_w, i32_w]
                rfl
              refine one_ (i := 30) (N := some 50) #[true, true, true, true, true, true, true, true, true, true, true, true, true, true, true, true, true, true, true, true, true, true, true, true, true, true, true, true, true, true, true, false, false] rfl rfl (one_of HT_.out (by kernel_rfl)) (by decide) (fun K hK => ?_)
              refine value_ (w1 := ?_) (v := ?_) (by rfl) rfl ?_ ?_
              rotate_left 2
              · go_simp
                constructor
                · rfl
                · rfl
              refine hK.out _ _ ⟨(World.cell?_alloc_lt _ _ _ (World.block_lt_of_cell? _ _ (((HB.out.cell (World.block_lt_of_cell? w _ hw103_0)).trans hw103_0)))).trans (((HB.out.cell (World.block_lt_of_cell? w _ hw103_0)).trans hw103_0)), (World.cell?_alloc_lt _ _ _ (World.block_lt_of_cell? _ _ (((HB.out.cell (World.block_lt_of_cell? w _ hw103_1)).trans hw103_1)))).trans (((HB.out.cell (World.block_lt_of_cell? w _ hw103_1)).trans hw103_1)), (World.cell?_alloc_lt _ _ _ (World.block_lt_of_cell? _ _ (((HB.out.cell (World.block_lt_of_cell? w _ hw104_0)).trans hw104_0)))).trans (((HB.out.cell (World.block_lt_of_cell? w _ hw104_0)).trans hw104_0)), (World.cell?_alloc_lt _ _ _ (World.block_lt_of_cell? _ _ (((HB.out.cell (World.block_lt_of_cell? w _ hw104_1)).trans hw104_1)))).trans (((HB.out.cell (World.block_lt_of_cell? w _ hw104_1)).trans hw104_1)), (World.cell?_alloc_lt _ _ _ (World.block_lt_of_cell? _ _ (((HB.out.cell (World.block_lt_of_cell? w _ hw106_0)).trans hw106_0)))).trans (((HB.out.cell (World.block_lt_of_cell? w _ hw106_0)).trans hw106_0)), (World.cell?_alloc_lt _ _ _ (World.block_lt_of_cell? _ _ (((HB.out.cell (World.block_lt_of_cell? w _ hw106_1)).trans hw106_1)))).trans (((HB.out.cell (World.block_lt_of_cell? w _ hw106_1)).trans hw106_1)), (World.cell?_alloc_lt _ _ _ (World.block_lt_of_cell? _ _ (((HB.out.cell (World.block_lt_of_cell? w _ hw107_0)).trans hw107_0)))).trans (((HB.out.cell (World.block_lt_of_cell? w _ hw107_0)).trans hw107_0)), (World.cell?_alloc_lt _ _ _ (World.block_lt_of_cell? _ _ (((HB.out.cell (World.block_lt_of_cell? w _ hw107_1)).trans hw107_1)))).trans (((HB.out.cell (World.block_lt_of_cell? w _ hw107_1)).trans hw107_1))⟩ (fun hHeld => ?_)
              clear hK K
              refine norm_ (a' := ?_) ?_ ?_
              rotate_left
              · show Act.put _ (some 50) _ = _
                simp only [Act.put, List.setIfInBounds_toArray, List.set_cons_zero, List.set_cons_succ, i64_w, i32_w]
                rfl
              refine one_ (i := 31) (N := some 51) #[true, true, true, true, true, true, true, true, true, true, true, true, true, true, true, true, true, true, true, true, true, true, true, true, true, true, true, true, true, true, true, true, false] rfl rfl (one_of HT_.out (by kernel_rfl)) (by decide) (fun K hK => ?_)
              refine Kd.R_append_step k57 (w0 := w) w.heap.size (by rfl) (.tmp 20) (.tmp 50) 48 57 (.agg #[(.int .i64 0), (.int .i64 0)]) 16 rfl Try.underlying48 info57 rfl (by decide) (by omega) u5 x5_1 (⟨t105, t108⟩ : S57) [.int .i64 t105, .int .i64 t108] (fun _ => True) (fun _ => False) rfl rfl ?aP (fun _ hk => hk.elim) ?aF ?aO ?aB ?aS ?aL ?_
              (case aP => exact k57_mkM _ _ _ (⟨t105, t108⟩ : S57))
              (case aB => exact (by repeat (first | (with_reducible first | exact HB.out | apply below_alloc | apply pw_below_drewN | apply below_drew1 | refine below_set ?_ GE101.out) | exact HB.out)))
              (case aF => exact (fun _ _ => trivial))
              (case aO => exact (by (with_reducible repeat (first | apply Kd.R_alloc | apply Kd.R_drewN | apply Kd.R_drew)); exact HO_5.out))
              (case aS => exact (below_size (by repeat (first | (with_reducible first | exact HB.out | apply below_alloc | apply pw_below_drewN | apply below_drew1 | refine below_set ?_ GE101.out) | exact HB.out))))
              (case aL => have := LMc9.out; omega)
              intro v110 w12 ho hb hg hat
              rw [← Ny109.out] at ho
              have n0_ := Aside0.mk (blk_grown (g := gb101) (o := .cells #[.int .i64 a0_0, .slice (some ad102) l0_1.length c0_1, .int .i64 a0_2, .int .i64 a0_3] 37 (0, 0)) (by (with_reducible repeat (first | refine blk_drewN ?_ _ | refine blk_drew ?_ | refine blk_alloc ?_ _)); exact BK101.out) hg (Kd.R_ne HO_5.out BK101.out (by decide)))
              have n1_ := Aside0.mk (hb)
              have n2_ := Aside0.mk (ho)
              clear BK101
              clear HB
              clear HO_5
              have BK101 := n0_
              have HB := n1_
              have HO111 := n2_
              clear n0_ n1_ n2_
              clear ho hb hg hat
              refine hK.out _ _ ⟨((HB.out.cell (World.block_lt_of_cell? w _ hw103_0)).trans hw103_0), ((HB.out.cell (World.block_lt_of_cell? w _ hw103_1)).trans hw103_1), ((HB.out.cell (World.block_lt_of_cell? w _ hw104_0)).trans hw104_0), ((HB.out.cell (World.block_lt_of_cell? w _ hw104_1)).trans hw104_1), ((HB.out.cell (World.block_lt_of_cell? w _ hw106_0)).trans hw106_0), ((HB.out.cell (World.block_lt_of_cell? w _ hw106_1)).trans hw106_1), ((HB.out.cell (World.block_lt_of_cell? w _ hw107_0)).trans hw107_0), ((HB.out.cell (World.block_lt_of_cell? w _ hw107_1)).trans hw107_1)⟩ (fun hHeld => ?_)
              clear hK K
              refine norm_ (a' := ?_) ?_ ?_
              rotate_left
              · show Act.put _ (some 51) _ = _
                simp only [Act.put, List.setIfInBounds_toArray, List.set_cons_zero, List.set_cons_succ, i64_w, i32_w]
                rfl
              refine pure_ (i := 32) (N := some 5) (v := ?_) (a' := ?_) #[true, true, true, true, true, true, true, true, true, true, true, true, true, true, true, true, true, true, true, true, true, true, true, true, true, true, true, true, true, true, true, true, true] rfl rfl (any_of HT_.out (by kernel_rfl)) (fun _ _ _ h => h) (Or.inl ⟨by rfl, ?_⟩) ?_ ?_
              rotate_left
              · intro w'
                go_simp
                with_reducible rfl
              rotate_left
              · simp only [Act.put, List.setIfInBounds_toArray, List.set_cons_zero, List.set_cons_succ, i64_w, i32_w]
                rfl
              refine done_ (done_of HT_.out (by kernel_rfl)) ?_
              try go_wp2
              go_roundg k1
              case measure => have := HK1.out; omega
              case rel => exact ⟨(y109), (wrap64 (x6_1 + 1)), (by first | rfl | (simp; done) | (simp [*]; done)), H', ⟨by have := HK1.out; omega⟩, ⟨by (with_reducible repeat (first | apply Kd.R_alloc | apply Kd.R_drewN | apply Kd.R_drew)); exact HO111.out⟩, ⟨by (with_reducible repeat (first | refine blk_drewN ?_ _ | refine blk_drew ?_ | refine blk_alloc ?_ _)); exact BK101.out⟩, ⟨by repeat (first | (with_reducible first | exact HB.out | apply below_alloc | apply pw_below_drewN | apply below_drew1 | refine below_set ?_ GE101.out) | exact HB.out)⟩⟩
            · rw [if_neg c9] at H
              exact absurd H (by simp)
          · rw [if_neg c6] at H
            exact absurd H (by simp)
        · rw [if_neg c5] at H
          exact absurd H (by simp)
      · rw [if_neg c4] at H
        have c4b0 : decide (x6_1 < (l1.length : Int)) = false := decide_eq_false c4
        clear c4
        obtain rfl := Option.some.inj H
        go_wp2
        go_ret
        exact ⟨_, by first | rfl | (simp [errW_none, errW_some] <;> rfl) | (simp [*, errW_none, errW_some] <;> rfl), by (with_reducible repeat (first | apply Kd.R_alloc | apply Kd.R_drewN | apply Kd.R_drew)); exact HO_5.out, by repeat (first | (with_reducible first | exact HB.out | apply below_alloc | apply pw_below_drewN | apply below_drew1 | refine below_set ?_ GE101.out) | exact HB.out)⟩
end Go.Proofs.Ytebcmhajbjkojaa.P
namespace Go.Proofs.Ytebcmhajbjkojaa.P
open Go.RowKit Go.Proofs.YtebcmhajbjkojaaW.PrintWords Go.Proofs.YtebcmhajbjkojaaW.PrintLast Go.Proofs.YtebcmhajbjkojaaW.PrintMore
attribute [local go_sem] max2_int min2_int max_two min_two max_three min_three max_four min_four   -- for this text's walks alone
set_option linter.unusedVariables false
set_option linter.unusedSimpArgs false
def isobathref02_Forces.f (k : Nat) (a0_0 : Int) (l0_1 : List (S46)) (a0_2 : Int) (a0_3 : Int) (l1 : List (S57)) : Option ((List (S57)) × Int) := (isobathref02_currents.f k a0_0 l0_1 a0_2 a0_3 l1).bind fun t102 => (if t102 = 0 then ((isobathref02_forces.f k a0_0 l0_1 a0_2 a0_3 l1).bind fun t103 => (some (t103, 0))) else (some (([] : List (S57)), t102)))
set_option maxHeartbeats 8000000 in
set_option maxRecDepth 100000 in
theorem isobathref02_Forces.calls (k : Nat) (a0_0 : Int) (A0_1 : Option Addr) (c0_1 : Nat) (l0_1 : List (S46)) (a0_2 : Int) (a0_3 : Int) (A1 : Option Addr) (c1 : Nat) (l1 : List (S57)) (r1 : List (S57)) (r2 : Int) (w : World) (hr0_1 : Kd.C k46 w A0_1 l0_1.length l0_1) (hc0_1 : l0_1.length ≤ c0_1) (hr1 : Kd.C k57 w A1 l1.length l1) (hc1 : l1.length ≤ c1) (h : isobathref02_Forces.f k a0_0 l0_1 a0_2 a0_3 l1 = some (r1, r2)) :
    Calls Try.prog 40 #[.agg #[.int .i64 a0_0, .slice A0_1 l0_1.length c0_1, .int .i64 a0_2, .int .i64 a0_3], .slice A1 l1.length c1] w fun e w' => ∃ v0_ : Value, e = .returned (.tuple #[v0_, .int .i64 r2]) ∧ Kd.R k57 57 w' w.heap.size (fun _ => True) v0_ r1 ∧ Below w.heap.size w w' := by
  have hu37 := Try.underlying37
  have HR0_1 := Aside0.mk hr0_1
  have HC0_1 := Aside0.mk hc0_1
  clear hr0_1 hc0_1
  have HR1 := Aside0.mk hr1
  have HC1 := Aside0.mk hc1
  clear hr1 hc1
  have HB := Aside0.mk (Below.refl w.heap.size w)
  have H : ((isobathref02_currents.f k a0_0 l0_1 a0_2 a0_3 l1).bind fun t102 => (if t102 = 0 then ((isobathref02_forces.f k a0_0 l0_1 a0_2 a0_3 l1).bind fun t103 => (some (t103, 0))) else (some (([] : List (S57)), t102)))) = some (r1, r2) := h
  clear h
  replace H := Option.bind_eq_some_iff.mp H
  obtain ⟨t102, A30, H⟩ := H
  replace H : (if t102 = 0 then ((isobathref02_forces.f k a0_0 l0_1 a0_2 a0_3 l1).bind fun t103 => (some (t103, 0))) else (some (([] : List (S57)), t102))) = some (r1, r2) := H
  have A3 := Aside0.mk A30
  clear A30
  by_cases c4 : t102 = 0
  · rw [if_pos c4] at H
    have c4b0 : (t102 == 0) = true := beq_iff_eq.mpr c4
    have c4b1 : (t102 != 0) = false := bne_eq_false_iff_eq.mpr c4
    clear c4
    replace H := Option.bind_eq_some_iff.mp H
    obtain ⟨t103, A50, H⟩ := H
    replace H : (some (t103, 0)) = some (r1, r2) := H
    have A5 := Aside0.mk A50
    clear A50
    simp only [Option.some.injEq, Prod.mk.injEq] at H
    obtain ⟨rfl, rfl⟩ := H
    go_enter Try.func40, Try.ntmps40
    go_wp2_with (first | ((with_reducible refine gate_dst (N := 2) rfl ?_); refine box_event ?hg (N := 2) ?hd (cs := #[.int .i64 a0_0, .slice A0_1 l0_1.length c0_1, .int .i64 a0_2, .int .i64 a0_3]) (t := 37) ?hr ?_; (case hd => rfl); (case hg => rfl); (case hr => first | (go_simp; done) | (go_simp; rfl)); intro gb101 hg w6 hbox hb; have n0_ := Aside0.mk (below_step (by repeat (first | (with_reducible first | exact HB.out | apply below_alloc | apply pw_below_drewN | apply below_drew1) | exact HB.out)) hb); have n1_ := Aside0.mk (hbox); have n2_ := Aside0.mk ((by rw [hg]; exact (below_size (by repeat (first | (with_reducible first | exact HB.out | apply below_alloc | apply pw_below_drewN | apply below_drew1) | exact HB.out))) : w.heap.size ≤ gb101)); have n3_ := Aside0.mk ((by rw [hg]; exact (below_size (by repeat (first | (with_reducible first | exact HB.out | apply below_alloc | apply pw_below_drewN | apply below_drew1) | exact HB.out))) : w.heap.size ≤ gb101)); clear HB; have HB := n0_; have BK101 := n1_; have GW101 := n2_; have GE101 := n3_; clear n0_ n1_ n2_ n3_; clear hb hbox hg; have hcz7_0 : w6.cell? ⟨gb101, 0, none⟩ = some (.int .i64 a0_0) := (blk_cell BK101.out 0).trans rfl; have hcz7_1 : w6.cell? ⟨gb101, 1, none⟩ = some (.slice A0_1 l0_1.length c0_1) := (blk_cell BK101.out 1).trans rfl; have hcz7_2 : w6.cell? ⟨gb101, 2, none⟩ = some (.int .i64 a0_2) := (blk_cell BK101.out 2).trans rfl; have hcz7_3 : w6.cell? ⟨gb101, 3, none⟩ = some (.int .i64 a0_3) := (blk_cell BK101.out 3).trans rfl; have hfz7_0 := blk_frozen BK101.out 0; have hfz7_1 := blk_frozen BK101.out 1; have hfz7_2 := blk_frozen BK101.out 2; have hfz7_3 := blk_frozen BK101.out 3) | ((with_reducible refine gate_callee (f := 76) rfl ?_); refine goesL_ (some 9) rfl rfl Try.func76 (by kernel_rfl) rfl #[.agg #[.int .i64 a0_0, .slice A0_1 l0_1.length c0_1, .int .i64 a0_2, .int .i64 a0_3], .slice A1 l1.length c1] rfl (by (try simp only [List.map_toArray, List.map_cons, List.map_nil]); first | done | rfl | (simp only [List.length_drop, List.length_take]; rfl)) ?_; (with_reducible refine (isobathref02_currents.calls k a0_0 _ _ l0_1 a0_2 a0_3 _ _ l1 t102 _ ?side1 ?side2 ?side3 ?side4 A3.out).mono ?_); (case side1 => repeat (first | exact (Kd.C_below HR0_1.out HB.out) | (with_reducible refine Kd.C_alloc ?_ _) | (with_reducible refine Kd.C_drewN ?_ _) | (with_reducible refine Kd.C_drew ?_))); (case side2 => exact HC0_1.out); (case side3 => repeat (first | exact (Kd.C_below HR1.out HB.out) | (with_reducible refine Kd.C_alloc ?_ _) | (with_reducible refine Kd.C_drewN ?_ _) | (with_reducible refine Kd.C_drew ?_))); (case side4 => exact HC1.out); rintro e w8 ⟨rfl, hb⟩; refine ⟨_, rfl, ?_⟩; have n0_ := Aside0.mk (blk_below (g := gb101) (o := .cells #[.int .i64 a0_0, .slice A0_1 l0_1.length c0_1, .int .i64 a0_2, .int .i64 a0_3] 37 (0, 0)) (by (with_reducible repeat (first | refine blk_drewN ?_ _ | refine blk_drew ?_ | refine blk_alloc ?_ _)); exact BK101.out) hb); have n1_ := Aside0.mk (below_step (by repeat (first | (with_reducible first | exact HB.out | apply below_alloc | apply pw_below_drewN | apply below_drew1 | refine below_set ?_ GE101.out) | exact HB.out)) hb); clear BK101; clear HB; have BK101 := n0_; have HB := n1_; clear n0_ n1_; (try clear hb); (try clear hb2); (try clear hk); (try clear hi); have hcz9_0 : w8.cell? ⟨gb101, 0, none⟩ = some (.int .i64 a0_0) := (blk_cell BK101.out 0).trans rfl; have hcz9_1 : w8.cell? ⟨gb101, 1, none⟩ = some (.slice A0_1 l0_1.length c0_1) := (blk_cell BK101.out 1).trans rfl; have hcz9_2 : w8.cell? ⟨gb101, 2, none⟩ = some (.int .i64 a0_2) := (blk_cell BK101.out 2).trans rfl; have hcz9_3 : w8.cell? ⟨gb101, 3, none⟩ = some (.int .i64 a0_3) := (blk_cell BK101.out 3).trans rfl; have hfz9_0 := blk_frozen BK101.out 0; have hfz9_1 := blk_frozen BK101.out 1; have hfz9_2 := blk_frozen BK101.out 2; have hfz9_3 := blk_frozen BK101.out 3) | ((with_reducible refine gate_callee (f := 77) rfl ?_); refine goesL_ (some 15) rfl rfl Try.func77 (by kernel_rfl) rfl #[.agg #[.int .i64 a0_0, .slice A0_1 l0_1.length c0_1, .int .i64 a0_2, .int .i64 a0_3], .slice A1 l1.length c1] rfl (by (try simp only [List.map_toArray, List.map_cons, List.map_nil]); first | done | rfl | (simp only [List.length_drop, List.length_take]; rfl)) ?_; (with_reducible refine (isobathref02_forces.calls k a0_0 _ _ l0_1 a0_2 a0_3 _ _ l1 t103 _ ?side1 ?side2 ?side3 ?side4 A5.out).mono ?_); (case side1 => repeat (first | exact (Kd.C_below HR0_1.out HB.out) | (with_reducible refine Kd.C_alloc ?_ _) | (with_reducible refine Kd.C_drewN ?_ _) | (with_reducible refine Kd.C_drew ?_))); (case side2 => exact HC0_1.out); (case side3 => repeat (first | exact (Kd.C_below HR1.out HB.out) | (with_reducible refine Kd.C_alloc ?_ _) | (with_reducible refine Kd.C_drewN ?_ _) | (with_reducible refine Kd.C_drew ?_))); (case side4 => exact HC1.out); rintro e w10 ⟨v104, rfl, ho0, hb⟩; refine ⟨_, rfl, ?_⟩; have n0_ := Aside0.mk (Kd.R_lower ho0 (below_size (by repeat (first | (with_reducible first | exact HB.out | apply below_alloc | apply pw_below_drewN | apply below_drew1 | refine below_set ?_ GE101.out) | exact HB.out)))); have n1_ := Aside0.mk (blk_below (g := gb101) (o := .cells #[.int .i64 a0_0, .slice A0_1 l0_1.length c0_1, .int .i64 a0_2, .int .i64 a0_3] 37 (0, 0)) (by (with_reducible repeat (first | refine blk_drewN ?_ _ | refine blk_drew ?_ | refine blk_alloc ?_ _)); exact BK101.out) hb); have n2_ := Aside0.mk (below_step (by repeat (first | (with_reducible first | exact HB.out | apply below_alloc | apply pw_below_drewN | apply below_drew1 | refine below_set ?_ GE101.out) | exact HB.out)) hb); clear BK101; clear HB; have HO105 := n0_; have BK101 := n1_; have HB := n2_; clear n0_ n1_ n2_; (try clear hb); (try clear hb2); (try clear hk); (try clear hi); (try clear ho0)))
    go_ret2
    exact ⟨_, by first | rfl | (simp [errW_none, errW_some] <;> rfl) | (simp [*, errW_none, errW_some] <;> rfl), by (with_reducible repeat (first | apply Kd.R_alloc | apply Kd.R_drewN | apply Kd.R_drew)); exact HO105.out, by repeat (first | (with_reducible first | exact HB.out | apply below_alloc | apply pw_below_drewN | apply below_drew1 | refine below_set ?_ GE101.out) | exact HB.out)⟩
  · rw [if_neg c4] at H
    have c4b0 : (t102 == 0) = false := beq_eq_false_iff_ne.mpr c4
    have c4b1 : (t102 != 0) = true := bne_iff_ne.mpr c4
    simp only [Option.some.injEq, Prod.mk.injEq] at H
    obtain ⟨rfl, rfl⟩ := H
    go_enter Try.func40, Try.ntmps40
    go_wp2_with (first | ((with_reducible refine gate_dst (N := 2) rfl ?_); refine box_event ?hg (N := 2) ?hd (cs := #[.int .i64 a0_0, .slice A0_1 l0_1.length c0_1, .int .i64 a0_2, .int .i64 a0_3]) (t := 37) ?hr ?_; (case hd => rfl); (case hg => rfl); (case hr => first | (go_simp; done) | (go_simp; rfl)); intro gb101 hg w11 hbox hb; have n0_ := Aside0.mk (below_step (by repeat (first | (with_reducible first | exact HB.out | apply below_alloc | apply pw_below_drewN | apply below_drew1) | exact HB.out)) hb); have n1_ := Aside0.mk (hbox); have n2_ := Aside0.mk ((by rw [hg]; exact (below_size (by repeat (first | (with_reducible first | exact HB.out | apply below_alloc | apply pw_below_drewN | apply below_drew1) | exact HB.out))) : w.heap.size ≤ gb101)); have n3_ := Aside0.mk ((by rw [hg]; exact (below_size (by repeat (first | (with_reducible first | exact HB.out | apply below_alloc | apply pw_below_drewN | apply below_drew1) | exact HB.out))) : w.heap.size ≤ gb101)); clear HB; have HB := n0_; have BK101 := n1_; have GW101 := n2_; have GE101 := n3_; clear n0_ n1_ n2_ n3_; clear hb hbox hg; have hcz12_0 : w11.cell? ⟨gb101, 0, none⟩ = some (.int .i64 a0_0) := (blk_cell BK101.out 0).trans rfl; have hcz12_1 : w11.cell? ⟨gb101, 1, none⟩ = some (.slice A0_1 l0_1.length c0_1) := (blk_cell BK101.out 1).trans rfl; have hcz12_2 : w11.cell? ⟨gb101, 2, none⟩ = some (.int .i64 a0_2) := (blk_cell BK101.out 2).trans rfl; have hcz12_3 : w11.cell? ⟨gb101, 3, none⟩ = some (.int .i64 a0_3) := (blk_cell BK101.out 3).trans rfl; have hfz12_0 := blk_frozen BK101.out 0; have hfz12_1 := blk_frozen BK101.out 1; have hfz12_2 := blk_frozen BK101.out 2; have hfz12_3 := blk_frozen BK101.out 3) | ((with_reducible refine gate_callee (f := 76) rfl ?_); refine goesL_ (some 9) rfl rfl Try.func76 (by kernel_rfl) rfl #[.agg #[.int .i64 a0_0, .slice A0_1 l0_1.length c0_1, .int .i64 a0_2, .int .i64 a0_3], .slice A1 l1.length c1] rfl (by (try simp only [List.map_toArray, List.map_cons, List.map_nil]); first | done | rfl | (simp only [List.length_drop, List.length_take]; rfl)) ?_; (with_reducible refine (isobathref02_currents.calls k a0_0 _ _ l0_1 a0_2 a0_3 _ _ l1 t102 _ ?side1 ?side2 ?side3 ?side4 A3.out).mono ?_); (case side1 => repeat (first | exact (Kd.C_below HR0_1.out HB.out) | (with_reducible refine Kd.C_alloc ?_ _) | (with_reducible refine Kd.C_drewN ?_ _) | (with_reducible refine Kd.C_drew ?_))); (case side2 => exact HC0_1.out); (case side3 => repeat (first | exact (Kd.C_below HR1.out HB.out) | (with_reducible refine Kd.C_alloc ?_ _) | (with_reducible refine Kd.C_drewN ?_ _) | (with_reducible refine Kd.C_drew ?_))); (case side4 => exact HC1.out); rintro e w13 ⟨rfl, hb⟩; refine ⟨_, rfl, ?_⟩; have n0_ := Aside0.mk (blk_below (g := gb101) (o := .cells #[.int .i64 a0_0, .slice A0_1 l0_1.length c0_1, .int .i64 a0_2, .int .i64 a0_3] 37 (0, 0)) (by (with_reducible repeat (first | refine blk_drewN ?_ _ | refine blk_drew ?_ | refine blk_alloc ?_ _)); exact BK101.out) hb); have n1_ := Aside0.mk (below_step (by repeat (first | (with_reducible first | exact HB.out | apply below_alloc | apply pw_below_drewN | apply below_drew1 | refine below_set ?_ GE101.out) | exact HB.out)) hb); clear BK101; clear HB; have BK101 := n0_; have HB := n1_; clear n0_ n1_; (try clear hb); (try clear hb2); (try clear hk); (try clear hi)))
    go_ret2
    exact ⟨_, by first | rfl | (simp [errW_none, errW_some] <;> rfl) | (simp [*, errW_none, errW_some] <;> rfl), by first | exact Kd.R_nil _ _ _ _ _ | exact Kd.N_nil _ _ _ _ _ | exact Kd.V_nil _ _ _ _ _ | exact Kd.Q_nil _ _ _ _ _ | exact Kd.S_nil _ _ _ _ _, by repeat (first | (with_reducible first | exact HB.out | apply below_alloc | apply pw_below_drewN | apply below_drew1 | refine below_set ?_ GE101.out) | exact HB.out)⟩
end Go.Proofs.Ytebcmhajbjkojaa.P
namespace Go.Proofs.Ytebcmhajbjkojaa.P
open Go.RowKit Go.Proofs.YtebcmhajbjkojaaW.PrintWords Go.Proofs.YtebcmhajbjkojaaW.PrintLast Go.Proofs.YtebcmhajbjkojaaW.PrintMore
attribute [local go_sem] max2_int min2_int max_two min_two max_three min_three max_four min_four   -- for this text's walks alone
set_option linter.unusedVariables false
set_option linter.unusedSimpArgs false
def isobathref02_lifts.l0 : Nat → List Int → Int → Int → Int → List (S46) → Int → Int → Option (List Int)
  | 0, _, _, _, _, _, _, _ => none
  | k + 1, x3, x4, x5, x102000, x102001, x102002, x102003 => if x5 < (x102001.length : Int) then (if 0 ≤ x5 then (if x3.length < 17592186044416 then (isobathref02_lifts.l0 k (x3 ++ [wrap64 (x4 + ((rd_T46 x102001 x5).f1))]) (wrap64 (x4 + ((rd_T46 x102001 x5).f1))) (wrap64 (x5 + 1)) x102000 x102001 x102002 x102003) else (none)) else (none)) else (some x3)
def isobathref02_lifts.f (k : Nat) (a0_0 : Int) (l0_1 : List (S46)) (a0_2 : Int) (a0_3 : Int) : Option (List Int) := isobathref02_lifts.l0 k ([] : List Int) 0 0 a0_0 l0_1 a0_2 a0_3
set_option maxHeartbeats 8000000 in
set_option maxRecDepth 100000 in
theorem isobathref02_lifts.calls (k : Nat) (a0_0 : Int) (A0_1 : Option Addr) (c0_1 : Nat) (l0_1 : List (S46)) (a0_2 : Int) (a0_3 : Int) (r : List Int) (w : World) (hr0_1 : Kd.C k46 w A0_1 l0_1.length l0_1) (hc0_1 : l0_1.length ≤ c0_1) (h : isobathref02_lifts.f k a0_0 l0_1 a0_2 a0_3 = some r) :
    Calls Try.prog 68 #[.agg #[.int .i64 a0_0, .slice A0_1 l0_1.length c0_1, .int .i64 a0_2, .int .i64 a0_3]] w fun e w' => ∃ v0_ : Value, e = .returned (v0_) ∧ Kd.R (Kd.int .i64) 2 w' w.heap.size (fun _ => True) v0_ r ∧ Below w.heap.size w w' := by
  have hu37 := Try.underlying37
  have HR0_1 := Aside0.mk hr0_1
  have HC0_1 := Aside0.mk hc0_1
  clear hr0_1 hc0_1
  have HB := Aside0.mk (Below.refl w.heap.size w)
  have H : (isobathref02_lifts.l0 k ([] : List Int) 0 0 a0_0 l0_1 a0_2 a0_3) = some r := h
  clear h
  have H' := Aside0.mk H
  clear H
  go_enter Try.func68, Try.ntmps68
  go_wp2_with (first | ((with_reducible refine gate_dst (N := 1) rfl ?_); refine box_event ?hg (N := 1) ?hd (cs := #[.int .i64 a0_0, .slice A0_1 l0_1.length c0_1, .int .i64 a0_2, .int .i64 a0_3]) (t := 37) ?hr ?_; (case hd => rfl); (case hg => rfl); (case hr => first | (go_simp; done) | (go_simp; rfl)); intro gb101 hg w2 hbox hb; have n0_ := Aside0.mk (below_step (by repeat (first | (with_reducible first | exact HB.out | apply below_alloc | apply pw_below_drewN | apply below_drew1) | exact HB.out)) hb); have n1_ := Aside0.mk (hbox); have n2_ := Aside0.mk ((by rw [hg]; exact (below_size (by repeat (first | (with_reducible first | exact HB.out | apply below_alloc | apply pw_below_drewN | apply below_drew1) | exact HB.out))) : w.heap.size ≤ gb101)); have n3_ := Aside0.mk ((by rw [hg]; exact (below_size (by repeat (first | (with_reducible first | exact HB.out | apply below_alloc | apply pw_below_drewN | apply below_drew1) | exact HB.out))) : w.heap.size ≤ gb101)); clear HB; have HB := n0_; have BK101 := n1_; have GW101 := n2_; have GE101 := n3_; clear n0_ n1_ n2_ n3_; clear hb hbox hg))
  go_loopg [3, 4, 5] k (fun kq v3 v4 v5 w' => ∃ (x3_1 : List Int) (x4_1 : Int) (x5_1 : Int), v4 = .int .i64 x4_1 ∧ v5 = .int .i64 x5_1 ∧ Aside0 (isobathref02_lifts.l0 kq x3_1 x4_1 x5_1 a0_0 l0_1 a0_2 a0_3 = some r) ∧ Aside0 (kq ≤ k) ∧ Aside0 (Kd.R (Kd.int .i64) 2 w' w.heap.size (fun _ => True) v3 x3_1) ∧ Aside0 (w'.heap[gb101]? = some (.cells #[.int .i64 a0_0, (.slice A0_1 l0_1.length c0_1), .int .i64 a0_2, .int .i64 a0_3] 37 (0, 0))) ∧ Aside0 (Below w.heap.size w w'))
  case atStart => exact ⟨(([] : List Int)), (0), (0), (by first | rfl | (simp; done) | (simp [*]; done)), (by first | rfl | (simp; done) | (simp [*]; done)), H', ⟨Nat.le_refl _⟩, ⟨by first | exact Kd.R_nil _ _ _ _ _ | exact Kd.N_nil _ _ _ _ _ | exact Kd.V_nil _ _ _ _ _ | exact Kd.Q_nil _ _ _ _ _ | exact Kd.S_nil _ _ _ _ _⟩, ⟨by (with_reducible repeat (first | refine blk_drewN ?_ _ | refine blk_drew ?_ | refine blk_alloc ?_ _)); exact BK101.out⟩, ⟨by repeat (first | (with_reducible first | exact HB.out | apply below_alloc | apply pw_below_drewN | apply below_drew1 | refine below_set ?_ GE101.out) | exact HB.out)⟩⟩
  case round =>
    clear H'
    try clear p2
    obtain ⟨x3_1, x4_1, x5_1, rfl, rfl, HA, HK1, HO_3, BK101, HB⟩ := hrel
    cases gk with
    | zero => exact absurd HA.out (by simp [isobathref02_lifts.l0])
    | succ k1 =>
      have H := HA.out
      clear HA
      simp only [isobathref02_lifts.l0] at H
      by_cases c3 : x5_1 < (l0_1.length : Int)
      · rw [if_pos c3] at H
        have c3b0 : decide (x5_1 < (l0_1.length : Int)) = true := decide_eq_true c3
        clear c3
        by_cases c4 : 0 ≤ x5_1
        · rw [if_pos c4] at H
          have c4b0 : decide (0 ≤ x5_1) = true := decide_eq_true c4
          clear c4
          by_cases c5 : x3_1.length < 17592186044416
          · rw [if_pos c5] at H
            have LMc5 := Aside0.mk c5
            clear c5
            obtain ⟨y103, hy103⟩ : ∃ y_ : List Int, y_ = (x3_1 ++ [wrap64 (x4_1 + ((rd_T46 l0_1 x5_1).f1))]) := ⟨_, rfl⟩
            replace H : (isobathref02_lifts.l0 k1 y103 (wrap64 (x4_1 + ((rd_T46 l0_1 x5_1).f1))) (wrap64 (x5_1 + 1)) a0_0 l0_1 a0_2 a0_3) = some r := by first | (rw [hy103]; with_reducible exact H) | (have H2_ := (Option.bind_some _ _).symm.trans H; rw [hy103]; with_reducible exact H2_) | (have H2_ := (Option.bind_some _ _).symm.trans H; with_reducible exact H2_) | with_reducible exact H | (rw [hy103]; exact H) | exact H
            have Ny103 := Aside0.mk hy103
            clear hy103
            have H' := Aside0.mk H
            clear H
            have hcz6_0 : wr.cell? ⟨gb101, 0, none⟩ = some (.int .i64 a0_0) := (blk_cell BK101.out 0).trans rfl
            have hcz6_1 : wr.cell? ⟨gb101, 1, none⟩ = some (.slice A0_1 l0_1.length c0_1) := (blk_cell BK101.out 1).trans rfl
            have hcz6_2 : wr.cell? ⟨gb101, 2, none⟩ = some (.int .i64 a0_2) := (blk_cell BK101.out 2).trans rfl
            have hcz6_3 : wr.cell? ⟨gb101, 3, none⟩ = some (.int .i64 a0_3) := (blk_cell BK101.out 3).trans rfl
            have hfz6_0 := blk_frozen BK101.out 0
            have hfz6_1 := blk_frozen BK101.out 1
            have hfz6_2 := blk_frozen BK101.out 2
            have hfz6_3 := blk_frozen BK101.out 3
            have p102 : 0 ≤ (x5_1 : Int) := of_decide_eq_true (by first | (with_reducible assumption) | assumption)
            have q102 : x5_1 < (l0_1.length : Int) := of_decide_eq_true (by first | (with_reducible assumption) | assumption)
            obtain ⟨ad102, e102, hx102_0, hx102_1, hx102_2, hx102_3⟩ := at_T46 HR0_1.out x5_1 p102 q102
            cases e102
            replace hx102_0 := (HB.out.cell (World.block_lt_of_cell? w _ hx102_0)).trans hx102_0
            replace hx102_1 := (HB.out.cell (World.block_lt_of_cell? w _ hx102_1)).trans hx102_1
            replace hx102_2 := (HB.out.cell (World.block_lt_of_cell? w _ hx102_2)).trans hx102_2
            replace hx102_3 := (HB.out.cell (World.block_lt_of_cell? w _ hx102_3)).trans hx102_3
            replace p102 := eq_true p102
            replace q102 := eq_true q102
            go_wp2_with (first | ((with_reducible refine gate_builtin (b := .append) (xs := #[.tmp 21, .tmp 23]) rfl ?_); at_builtin; refine Kd.R_append (Kd.int .i64) (w0 := w) w.heap.size rfl (.tmp 21) (.tmp 23) 42 2 (.int .i64 0) 8 rfl Try.underlying42 info2 rfl (by decide) (by omega) u3 x3_1 (wrap64 (x4_1 + ((rd_T46 l0_1 x5_1).f1))) [.int .i64 (wrap64 (x4_1 + ((rd_T46 l0_1 x5_1).f1)))] (fun _ => True) (fun _ => False) rfl rfl ?aP (fun _ hk => hk.elim) ?aF ?aO ?aB ?aS ?aL ?_; (case aP => exact rfl); (case aB => exact (by repeat (first | (with_reducible first | exact HB.out | apply below_alloc | apply pw_below_drewN | apply below_drew1 | refine below_set ?_ GE101.out) | exact HB.out))); (case aF => exact (fun _ _ => trivial)); (case aO => exact (by (with_reducible repeat (first | apply Kd.R_alloc | apply Kd.R_drewN | apply Kd.R_drew)); exact HO_3.out)); (case aS => exact (below_size (by repeat (first | (with_reducible first | exact HB.out | apply below_alloc | apply pw_below_drewN | apply below_drew1 | refine below_set ?_ GE101.out) | exact HB.out)))); (case aL => have := LMc5.out; omega); intro v104 w7 ho hb hg hat; rw [← Ny103.out] at ho; have n0_ := Aside0.mk (blk_grown (g := gb101) (o := .cells #[.int .i64 a0_0, .slice (some ad102) l0_1.length c0_1, .int .i64 a0_2, .int .i64 a0_3] 37 (0, 0)) (by (with_reducible repeat (first | refine blk_drewN ?_ _ | refine blk_drew ?_ | refine blk_alloc ?_ _)); exact BK101.out) hg (Kd.R_ne HO_3.out BK101.out (by decide))); have n1_ := Aside0.mk (hb); have n2_ := Aside0.mk (ho); clear BK101; clear HB; clear HO_3; have BK101 := n0_; have HB := n1_; have HO105 := n2_; clear n0_ n1_ n2_; clear ho hb hg hat))
            go_roundg k1
            case measure => have := HK1.out; omega
            case rel => exact ⟨(y103), (wrap64 (x4_1 + ((rd_T46 l0_1 x5_1).f1))), (wrap64 (x5_1 + 1)), (by first | rfl | (simp; done) | (simp [*]; done)), (by first | rfl | (simp; done) | (simp [*]; done)), H', ⟨by have := HK1.out; omega⟩, ⟨by (with_reducible repeat (first | apply Kd.R_alloc | apply Kd.R_drewN | apply Kd.R_drew)); exact HO105.out⟩, ⟨by (with_reducible repeat (first | refine blk_drewN ?_ _ | refine blk_drew ?_ | refine blk_alloc ?_ _)); exact BK101.out⟩, ⟨by repeat (first | (with_reducible first | exact HB.out | apply below_alloc | apply pw_below_drewN | apply below_drew1 | refine below_set ?_ GE101.out) | exact HB.out)⟩⟩
          · rw [if_neg c5] at H
            exact absurd H (by simp)
        · rw [if_neg c4] at H
          exact absurd H (by simp)
      · rw [if_neg c3] at H
        have c3b0 : decide (x5_1 < (l0_1.length : Int)) = false := decide_eq_false c3
        clear c3
        obtain rfl := Option.some.inj H
        have hcz8_0 : wr.cell? ⟨gb101, 0, none⟩ = some (.int .i64 a0_0) := (blk_cell BK101.out 0).trans rfl
        have hcz8_1 : wr.cell? ⟨gb101, 1, none⟩ = some (.slice A0_1 l0_1.length c0_1) := (blk_cell BK101.out 1).trans rfl
        have hcz8_2 : wr.cell? ⟨gb101, 2, none⟩ = some (.int .i64 a0_2) := (blk_cell BK101.out 2).trans rfl
        have hcz8_3 : wr.cell? ⟨gb101, 3, none⟩ = some (.int .i64 a0_3) := (blk_cell BK101.out 3).trans rfl
        have hfz8_0 := blk_frozen BK101.out 0
        have hfz8_1 := blk_frozen BK101.out 1
        have hfz8_2 := blk_frozen BK101.out 2
        have hfz8_3 := blk_frozen BK101.out 3
        go_wp2
        go_ret
        exact ⟨_, by first | rfl | (simp [errW_none, errW_some] <;> rfl) | (simp [*, errW_none, errW_some] <;> rfl), by (with_reducible repeat (first | apply Kd.R_alloc | apply Kd.R_drewN | apply Kd.R_drew)); exact HO_3.out, by repeat (first | (with_reducible first | exact HB.out | apply below_alloc | apply pw_below_drewN | apply below_drew1 | refine below_set ?_ GE101.out) | exact HB.out)⟩
end Go.Proofs.Ytebcmhajbjkojaa.P
namespace Go.Proofs.Ytebcmhajbjkojaa.P
open Go.RowKit Go.Proofs.YtebcmhajbjkojaaW.PrintWords Go.Proofs.YtebcmhajbjkojaaW.PrintLast Go.Proofs.YtebcmhajbjkojaaW.PrintMore
attribute [local go_sem] max2_int min2_int max_two min_two max_three min_three max_four min_four   -- for this text's walks alone
set_option linter.unusedVariables false
set_option linter.unusedSimpArgs false
def isobathref02_Stands.l0 : Nat → List Int → Int → Option (Bool)
  | 0, _, _ => none
  | k + 1, x3, x4 => if x4 < (x3.length : Int) then (if 0 ≤ x4 then (if (rd x3 x4) < 1 then (some false) else (isobathref02_Stands.l0 k x3 (wrap64 (x4 + 1)))) else (none)) else (some true)
def isobathref02_Stands.f (k : Nat) (a0_0 : Int) (l0_1 : List (S46)) (a0_2 : Int) (a0_3 : Int) : Option (Bool) := (isobathref02_lifts.f k a0_0 l0_1 a0_2 a0_3).bind fun t102 => (isobathref02_Stands.l0 k t102 0)
set_option maxHeartbeats 8000000 in
set_option maxRecDepth 100000 in
theorem isobathref02_Stands.calls (k : Nat) (a0_0 : Int) (A0_1 : Option Addr) (c0_1 : Nat) (l0_1 : List (S46)) (a0_2 : Int) (a0_3 : Int) (r : Bool) (w : World) (hr0_1 : Kd.C k46 w A0_1 l0_1.length l0_1) (hc0_1 : l0_1.length ≤ c0_1) (h : isobathref02_Stands.f k a0_0 l0_1 a0_2 a0_3 = some r) :
    Calls Try.prog 59 #[.agg #[.int .i64 a0_0, .slice A0_1 l0_1.length c0_1, .int .i64 a0_2, .int .i64 a0_3]] w fun e w' => e = .returned (.bool r) ∧ Below w.heap.size w w' := by
  have hu37 := Try.underlying37
  have HR0_1 := Aside0.mk hr0_1
  have HC0_1 := Aside0.mk hc0_1
  clear hr0_1 hc0_1
  have HB := Aside0.mk (Below.refl w.heap.size w)
  have H : ((isobathref02_lifts.f k a0_0 l0_1 a0_2 a0_3).bind fun t102 => (isobathref02_Stands.l0 k t102 0)) = some r := h
  clear h
  replace H := Option.bind_eq_some_iff.mp H
  obtain ⟨t102, A20, H⟩ := H
  replace H : (isobathref02_Stands.l0 k t102 0) = some r := H
  have A2 := Aside0.mk A20
  clear A20
  have H' := Aside0.mk H
  clear H
  go_enter Try.func59, Try.ntmps59
  go_wp2_with (first | ((with_reducible refine gate_dst (N := 1) rfl ?_); refine box_event ?hg (N := 1) ?hd (cs := #[.int .i64 a0_0, .slice A0_1 l0_1.length c0_1, .int .i64 a0_2, .int .i64 a0_3]) (t := 37) ?hr ?_; (case hd => rfl); (case hg => rfl); (case hr => first | (go_simp; done) | (go_simp; rfl)); intro gb101 hg w3 hbox hb; have n0_ := Aside0.mk (below_step (by repeat (first | (with_reducible first | exact HB.out | apply below_alloc | apply pw_below_drewN | apply below_drew1) | exact HB.out)) hb); have n1_ := Aside0.mk (hbox); have n2_ := Aside0.mk ((by rw [hg]; exact (below_size (by repeat (first | (with_reducible first | exact HB.out | apply below_alloc | apply pw_below_drewN | apply below_drew1) | exact HB.out))) : w.heap.size ≤ gb101)); have n3_ := Aside0.mk ((by rw [hg]; exact (below_size (by repeat (first | (with_reducible first | exact HB.out | apply below_alloc | apply pw_below_drewN | apply below_drew1) | exact HB.out))) : w.heap.size ≤ gb101)); clear HB; have HB := n0_; have BK101 := n1_; have GW101 := n2_; have GE101 := n3_; clear n0_ n1_ n2_ n3_; clear hb hbox hg; have hcz4_0 : w3.cell? ⟨gb101, 0, none⟩ = some (.int .i64 a0_0) := (blk_cell BK101.out 0).trans rfl; have hcz4_1 : w3.cell? ⟨gb101, 1, none⟩ = some (.slice A0_1 l0_1.length c0_1) := (blk_cell BK101.out 1).trans rfl; have hcz4_2 : w3.cell? ⟨gb101, 2, none⟩ = some (.int .i64 a0_2) := (blk_cell BK101.out 2).trans rfl; have hcz4_3 : w3.cell? ⟨gb101, 3, none⟩ = some (.int .i64 a0_3) := (blk_cell BK101.out 3).trans rfl; have hfz4_0 := blk_frozen BK101.out 0; have hfz4_1 := blk_frozen BK101.out 1; have hfz4_2 := blk_frozen BK101.out 2; have hfz4_3 := blk_frozen BK101.out 3) | ((with_reducible refine gate_callee (f := 68) rfl ?_); refine goesL_ (some 6) rfl rfl Try.func68 (by kernel_rfl) rfl #[.agg #[.int .i64 a0_0, .slice A0_1 l0_1.length c0_1, .int .i64 a0_2, .int .i64 a0_3]] rfl (by (try simp only [List.map_toArray, List.map_cons, List.map_nil]); first | done | rfl | (simp only [List.length_drop, List.length_take]; rfl)) ?_; (with_reducible refine (isobathref02_lifts.calls k a0_0 _ _ l0_1 a0_2 a0_3 t102 _ ?side1 ?side2 A2.out).mono ?_); (case side1 => repeat (first | exact (Kd.C_below HR0_1.out HB.out) | (with_reducible refine Kd.C_alloc ?_ _) | (with_reducible refine Kd.C_drewN ?_ _) | (with_reducible refine Kd.C_drew ?_))); (case side2 => exact HC0_1.out); rintro e w5 ⟨v103, rfl, ho0, hb⟩; refine ⟨_, rfl, ?_⟩; have n0_ := Aside0.mk (Kd.R_lower ho0 (below_size (by repeat (first | (with_reducible first | exact HB.out | apply below_alloc | apply pw_below_drewN | apply below_drew1 | refine below_set ?_ GE101.out) | exact HB.out)))); have n1_ := Aside0.mk (blk_below (g := gb101) (o := .cells #[.int .i64 a0_0, .slice A0_1 l0_1.length c0_1, .int .i64 a0_2, .int .i64 a0_3] 37 (0, 0)) (by (with_reducible repeat (first | refine blk_drewN ?_ _ | refine blk_drew ?_ | refine blk_alloc ?_ _)); exact BK101.out) hb); have n2_ := Aside0.mk (below_step (by repeat (first | (with_reducible first | exact HB.out | apply below_alloc | apply pw_below_drewN | apply below_drew1 | refine below_set ?_ GE101.out) | exact HB.out)) hb); clear BK101; clear HB; have HO104 := n0_; have BK101 := n1_; have HB := n2_; clear n0_ n1_ n2_; (try clear hb); (try clear hb2); (try clear hk); (try clear hi); (try clear ho0)))
  go_loopg [4] k (fun kq v4 w' => ∃ (x4_1 : Int), v4 = .int .i64 x4_1 ∧ Aside0 (isobathref02_Stands.l0 kq t102 x4_1 = some r) ∧ Aside0 (kq ≤ k) ∧ Aside0 (Kd.R (Kd.int .i64) 2 w' w.heap.size (fun _ => True) v103 t102) ∧ Aside0 (w'.heap[gb101]? = some (.cells #[.int .i64 a0_0, (.slice A0_1 l0_1.length c0_1), .int .i64 a0_2, .int .i64 a0_3] 37 (0, 0))) ∧ Aside0 (Below w.heap.size w w'))
  case atStart => exact ⟨(0), (by first | rfl | (simp; done) | (simp [*]; done)), H', ⟨Nat.le_refl _⟩, ⟨by (with_reducible repeat (first | apply Kd.R_alloc | apply Kd.R_drewN | apply Kd.R_drew)); exact HO104.out⟩, ⟨by (with_reducible repeat (first | refine blk_drewN ?_ _ | refine blk_drew ?_ | refine blk_alloc ?_ _)); exact BK101.out⟩, ⟨by repeat (first | (with_reducible first | exact HB.out | apply below_alloc | apply pw_below_drewN | apply below_drew1 | refine below_set ?_ GE101.out) | exact HB.out)⟩⟩
  case round =>
    clear H'
    try clear p2
    try clear c5
    try clear hcz4_0
    try clear hcz4_1
    try clear hcz4_2
    try clear hcz4_3
    try clear hfz4_0
    try clear hfz4_1
    try clear hfz4_2
    try clear hfz4_3
    obtain ⟨x4_1, rfl, HA, HK1, HO_3, BK101, HB⟩ := hrel
    cases gk with
    | zero => exact absurd HA.out (by simp [isobathref02_Stands.l0])
    | succ k1 =>
      have H := HA.out
      clear HA
      simp only [isobathref02_Stands.l0] at H
      by_cases c6 : x4_1 < (t102.length : Int)
      · rw [if_pos c6] at H
        have c6b0 : decide (x4_1 < (t102.length : Int)) = true := decide_eq_true c6
        clear c6
        by_cases c7 : 0 ≤ x4_1
        · rw [if_pos c7] at H
          have c7b0 : decide (0 ≤ x4_1) = true := decide_eq_true c7
          clear c7
          by_cases c8 : (rd t102 x4_1) < 1
          · rw [if_pos c8] at H
            have c8b0 : decide ((rd t102 x4_1) < 1) = true := decide_eq_true c8
            clear c8
            obtain rfl := Option.some.inj H
            obtain ⟨Ao9, co9, eo9⟩ := Kd.R_slice HO_3.out
            subst eo9
            have p105 : 0 ≤ (x4_1 : Int) := of_decide_eq_true (by first | (with_reducible assumption) | assumption)
            have q105 : x4_1 < (t102.length : Int) := of_decide_eq_true (by first | (with_reducible assumption) | assumption)
            obtain ⟨ad105, e105, hx105_0⟩ := Kd.at_int (Kd.R_reads' HO_3.out).2.2 x4_1 p105 q105
            cases e105
            replace p105 := eq_true p105
            replace q105 := eq_true q105
            go_wp2
            go_ret
            exact ⟨by first | rfl | (simp [errW_none, errW_some] <;> rfl) | (simp [*, errW_none, errW_some] <;> rfl), by repeat (first | (with_reducible first | exact HB.out | apply below_alloc | apply pw_below_drewN | apply below_drew1 | refine below_set ?_ GE101.out) | exact HB.out)⟩
          · rw [if_neg c8] at H
            have c8b0 : decide ((rd t102 x4_1) < 1) = false := decide_eq_false c8
            clear c8
            have H' := Aside0.mk H
            clear H
            obtain ⟨Ao10, co10, eo10⟩ := Kd.R_slice HO_3.out
            subst eo10
            have p105 : 0 ≤ (x4_1 : Int) := of_decide_eq_true (by first | (with_reducible assumption) | assumption)
            have q105 : x4_1 < (t102.length : Int) := of_decide_eq_true (by first | (with_reducible assumption) | assumption)
            obtain ⟨ad105, e105, hx105_0⟩ := Kd.at_int (Kd.R_reads' HO_3.out).2.2 x4_1 p105 q105
            cases e105
            replace p105 := eq_true p105
            replace q105 := eq_true q105
            go_wp2
            go_roundg k1
            case measure => have := HK1.out; omega
            case rel => exact ⟨(wrap64 (x4_1 + 1)), (by first | rfl | (simp; done) | (simp [*]; done)), H', ⟨by have := HK1.out; omega⟩, ⟨by (with_reducible repeat (first | apply Kd.R_alloc | apply Kd.R_drewN | apply Kd.R_drew)); exact HO_3.out⟩, ⟨by (with_reducible repeat (first | refine blk_drewN ?_ _ | refine blk_drew ?_ | refine blk_alloc ?_ _)); exact BK101.out⟩, ⟨by repeat (first | (with_reducible first | exact HB.out | apply below_alloc | apply pw_below_drewN | apply below_drew1 | refine below_set ?_ GE101.out) | exact HB.out)⟩⟩
        · rw [if_neg c7] at H
          exact absurd H (by simp)
      · rw [if_neg c6] at H
        have c6b0 : decide (x4_1 < (t102.length : Int)) = false := decide_eq_false c6
        clear c6
        obtain rfl := Option.some.inj H
        obtain ⟨Ao11, co11, eo11⟩ := Kd.R_slice HO_3.out
        subst eo11
        go_wp2
        go_ret
        exact ⟨by first | rfl | (simp [errW_none, errW_some] <;> rfl) | (simp [*, errW_none, errW_some] <;> rfl), by repeat (first | (with_reducible first | exact HB.out | apply below_alloc | apply pw_below_drewN | apply below_drew1 | refine below_set ?_ GE101.out) | exact HB.out)⟩
end Go.Proofs.Ytebcmhajbjkojaa.P
namespace Go.Proofs.Ytebcmhajbjkojaa.P
open Go.RowKit Go.Proofs.YtebcmhajbjkojaaW.PrintWords Go.Proofs.YtebcmhajbjkojaaW.PrintLast Go.Proofs.YtebcmhajbjkojaaW.PrintMore
attribute [local go_sem] max2_int min2_int max_two min_two max_three min_three max_four min_four   -- for this text's walks alone
set_option linter.unusedVariables false
set_option linter.unusedSimpArgs false
def isobathlaw02_valid.f (k : Nat) (a0_0 : Int) (l0_1 : List (S46)) (a0_2 : Int) (a0_3 : Int) (l1 : List (S57)) : Option (Bool) := (isobathref02_Forces.f k a0_0 l0_1 a0_2 a0_3 l1).bind fun bt102 => ((isobathlaw02_long.f a0_0 l0_1 a0_2 a0_3 l1).bind fun t106 => (if t106 = true then (some false) else (if bt102.2 = 0 then ((isobathref02_Stands.f k a0_0 l0_1 a0_2 a0_3).bind fun t107 => (some t107)) else (some false))))
set_option maxHeartbeats 8000000 in
set_option maxRecDepth 100000 in
theorem isobathlaw02_valid.calls (k : Nat) (a0_0 : Int) (A0_1 : Option Addr) (c0_1 : Nat) (l0_1 : List (S46)) (a0_2 : Int) (a0_3 : Int) (A1 : Option Addr) (c1 : Nat) (l1 : List (S57)) (r : Bool) (w : World) (hr0_1 : Kd.C k46 w A0_1 l0_1.length l0_1) (hc0_1 : l0_1.length ≤ c0_1) (hr1 : Kd.C k57 w A1 l1.length l1) (hc1 : l1.length ≤ c1) (h : isobathlaw02_valid.f k a0_0 l0_1 a0_2 a0_3 l1 = some r) :
    Calls Try.prog 25 #[.agg #[.int .i64 a0_0, .slice A0_1 l0_1.length c0_1, .int .i64 a0_2, .int .i64 a0_3], .slice A1 l1.length c1] w fun e w' => e = .returned (.bool r) ∧ Below w.heap.size w w' := by
  have hu37 := Try.underlying37
  have HR0_1 := Aside0.mk hr0_1
  have HC0_1 := Aside0.mk hc0_1
  clear hr0_1 hc0_1
  have HR1 := Aside0.mk hr1
  have HC1 := Aside0.mk hc1
  clear hr1 hc1
  have HB := Aside0.mk (Below.refl w.heap.size w)
  have H : ((isobathref02_Forces.f k a0_0 l0_1 a0_2 a0_3 l1).bind fun bt102 => ((isobathlaw02_long.f a0_0 l0_1 a0_2 a0_3 l1).bind fun t106 => (if t106 = true then (some false) else (if bt102.2 = 0 then ((isobathref02_Stands.f k a0_0 l0_1 a0_2 a0_3).bind fun t107 => (some t107)) else (some false))))) = some r := h
  clear h
  replace H := Option.bind_eq_some_iff.mp H
  obtain ⟨⟨t102, t105⟩, A30, H⟩ := H
  replace H : ((isobathlaw02_long.f a0_0 l0_1 a0_2 a0_3 l1).bind fun t106 => (if t106 = true then (some false) else (if t105 = 0 then ((isobathref02_Stands.f k a0_0 l0_1 a0_2 a0_3).bind fun t107 => (some t107)) else (some false)))) = some r := H
  have A3 := Aside0.mk A30
  clear A30
  replace H := Option.bind_eq_some_iff.mp H
  obtain ⟨t106, A40, H⟩ := H
  replace H : (if t106 = true then (some false) else (if t105 = 0 then ((isobathref02_Stands.f k a0_0 l0_1 a0_2 a0_3).bind fun t107 => (some t107)) else (some false))) = some r := H
  have A4 := Aside0.mk A40
  clear A40
  by_cases c5 : t106 = true
  · subst c5
    have H1 : (some false) = some r := by rw [if_pos rfl] at H; exact H
    clear H
    have H := H1
    clear H1
    obtain rfl := Option.some.inj H
    go_enter Try.func25, Try.ntmps25
    go_wp2_with (first | ((with_reducible refine gate_dst (N := 2) rfl ?_); refine box_event ?hg (N := 2) ?hd (cs := #[.int .i64 a0_0, .slice A0_1 l0_1.length c0_1, .int .i64 a0_2, .int .i64 a0_3]) (t := 37) ?hr ?_; (case hd => rfl); (case hg => rfl); (case hr => first | (go_simp; done) | (go_simp; rfl)); intro gb101 hg w6 hbox hb; have n0_ := Aside0.mk (below_step (by repeat (first | (with_reducible first | exact HB.out | apply below_alloc | apply pw_below_drewN | apply below_drew1) | exact HB.out)) hb); have n1_ := Aside0.mk (hbox); have n2_ := Aside0.mk ((by rw [hg]; exact (below_size (by repeat (first | (with_reducible first | exact HB.out | apply below_alloc | apply pw_below_drewN | apply below_drew1) | exact HB.out))) : w.heap.size ≤ gb101)); have n3_ := Aside0.mk ((by rw [hg]; exact (below_size (by repeat (first | (with_reducible first | exact HB.out | apply below_alloc | apply pw_below_drewN | apply below_drew1) | exact HB.out))) : w.heap.size ≤ gb101)); clear HB; have HB := n0_; have BK101 := n1_; have GW101 := n2_; have GE101 := n3_; clear n0_ n1_ n2_ n3_; clear hb hbox hg; have hcz7_0 : w6.cell? ⟨gb101, 0, none⟩ = some (.int .i64 a0_0) := (blk_cell BK101.out 0).trans rfl; have hcz7_1 : w6.cell? ⟨gb101, 1, none⟩ = some (.slice A0_1 l0_1.length c0_1) := (blk_cell BK101.out 1).trans rfl; have hcz7_2 : w6.cell? ⟨gb101, 2, none⟩ = some (.int .i64 a0_2) := (blk_cell BK101.out 2).trans rfl; have hcz7_3 : w6.cell? ⟨gb101, 3, none⟩ = some (.int .i64 a0_3) := (blk_cell BK101.out 3).trans rfl; have hfz7_0 := blk_frozen BK101.out 0; have hfz7_1 := blk_frozen BK101.out 1; have hfz7_2 := blk_frozen BK101.out 2; have hfz7_3 := blk_frozen BK101.out 3) | ((with_reducible refine gate_callee (f := 40) rfl ?_); refine goesL_ (some 10) rfl rfl Try.func40 (by kernel_rfl) rfl #[.agg #[.int .i64 a0_0, .slice A0_1 l0_1.length c0_1, .int .i64 a0_2, .int .i64 a0_3], .slice A1 l1.length c1] rfl (by (try simp only [List.map_toArray, List.map_cons, List.map_nil]); first | done | rfl | (simp only [List.length_drop, List.length_take]; rfl)) ?_; (with_reducible refine (isobathref02_Forces.calls k a0_0 _ _ l0_1 a0_2 a0_3 _ _ l1 t102 t105 _ ?side1 ?side2 ?side3 ?side4 A3.out).mono ?_); (case side1 => repeat (first | exact (Kd.C_below HR0_1.out HB.out) | (with_reducible refine Kd.C_alloc ?_ _) | (with_reducible refine Kd.C_drewN ?_ _) | (with_reducible refine Kd.C_drew ?_))); (case side2 => exact HC0_1.out); (case side3 => repeat (first | exact (Kd.C_below HR1.out HB.out) | (with_reducible refine Kd.C_alloc ?_ _) | (with_reducible refine Kd.C_drewN ?_ _) | (with_reducible refine Kd.C_drew ?_))); (case side4 => exact HC1.out); rintro e w8 ⟨v103, rfl, ho0, hb⟩; refine ⟨_, rfl, ?_⟩; have n0_ := Aside0.mk (Kd.R_lower ho0 (below_size (by repeat (first | (with_reducible first | exact HB.out | apply below_alloc | apply pw_below_drewN | apply below_drew1 | refine below_set ?_ GE101.out) | exact HB.out)))); have n1_ := Aside0.mk (blk_below (g := gb101) (o := .cells #[.int .i64 a0_0, .slice A0_1 l0_1.length c0_1, .int .i64 a0_2, .int .i64 a0_3] 37 (0, 0)) (by (with_reducible repeat (first | refine blk_drewN ?_ _ | refine blk_drew ?_ | refine blk_alloc ?_ _)); exact BK101.out) hb); have n2_ := Aside0.mk (below_step (by repeat (first | (with_reducible first | exact HB.out | apply below_alloc | apply pw_below_drewN | apply below_drew1 | refine below_set ?_ GE101.out) | exact HB.out)) hb); clear BK101; clear HB; have HO104 := n0_; have BK101 := n1_; have HB := n2_; clear n0_ n1_ n2_; (try clear hb); (try clear hb2); (try clear hk); (try clear hi); (try clear ho0); have hcz9_0 : w8.cell? ⟨gb101, 0, none⟩ = some (.int .i64 a0_0) := (blk_cell BK101.out 0).trans rfl; have hcz9_1 : w8.cell? ⟨gb101, 1, none⟩ = some (.slice A0_1 l0_1.length c0_1) := (blk_cell BK101.out 1).trans rfl; have hcz9_2 : w8.cell? ⟨gb101, 2, none⟩ = some (.int .i64 a0_2) := (blk_cell BK101.out 2).trans rfl; have hcz9_3 : w8.cell? ⟨gb101, 3, none⟩ = some (.int .i64 a0_3) := (blk_cell BK101.out 3).trans rfl; have hfz9_0 := blk_frozen BK101.out 0; have hfz9_1 := blk_frozen BK101.out 1; have hfz9_2 := blk_frozen BK101.out 2; have hfz9_3 := blk_frozen BK101.out 3) | ((with_reducible refine gate_callee (f := 21) rfl ?_); refine goesL_ (some 15) rfl rfl Try.func21 (by kernel_rfl) rfl #[.agg #[.int .i64 a0_0, .slice A0_1 l0_1.length c0_1, .int .i64 a0_2, .int .i64 a0_3], .slice A1 l1.length c1] rfl (by (try simp only [List.map_toArray, List.map_cons, List.map_nil]); first | done | rfl | (simp only [List.length_drop, List.length_take]; rfl)) ?_; (with_reducible refine (isobathlaw02_long.calls a0_0 _ _ l0_1 a0_2 a0_3 _ _ l1 true _ ?side1 ?side2 ?side3 ?side4 A4.out).mono ?_); (case side1 => repeat (first | exact (Kd.C_below HR0_1.out HB.out) | (with_reducible refine Kd.C_alloc ?_ _) | (with_reducible refine Kd.C_drewN ?_ _) | (with_reducible refine Kd.C_drew ?_))); (case side2 => exact HC0_1.out); (case side3 => repeat (first | exact (Kd.C_below HR1.out HB.out) | (with_reducible refine Kd.C_alloc ?_ _) | (with_reducible refine Kd.C_drewN ?_ _) | (with_reducible refine Kd.C_drew ?_))); (case side4 => exact HC1.out); rintro e w10 ⟨rfl, hb⟩; refine ⟨_, rfl, ?_⟩; have n0_ := Aside0.mk (Kd.R_below (by (with_reducible repeat (first | apply Kd.R_alloc | apply Kd.R_drewN | apply Kd.R_drew)); exact HO104.out) hb); have n1_ := Aside0.mk (blk_below (g := gb101) (o := .cells #[.int .i64 a0_0, .slice A0_1 l0_1.length c0_1, .int .i64 a0_2, .int .i64 a0_3] 37 (0, 0)) (by (with_reducible repeat (first | refine blk_drewN ?_ _ | refine blk_drew ?_ | refine blk_alloc ?_ _)); exact BK101.out) hb); have n2_ := Aside0.mk (below_step (by repeat (first | (with_reducible first | exact HB.out | apply below_alloc | apply pw_below_drewN | apply below_drew1 | refine below_set ?_ GE101.out) | exact HB.out)) hb); clear HO104; clear BK101; clear HB; have HO104 := n0_; have BK101 := n1_; have HB := n2_; clear n0_ n1_ n2_; (try clear hb); (try clear hb2); (try clear hk); (try clear hi)))
    go_ret
    exact ⟨by first | rfl | (simp [errW_none, errW_some] <;> rfl) | (simp [*, errW_none, errW_some] <;> rfl), by repeat (first | (with_reducible first | exact HB.out | apply below_alloc | apply pw_below_drewN | apply below_drew1 | refine below_set ?_ GE101.out) | exact HB.out)⟩
  · replace c5 := Bool.eq_false_iff.mpr c5
    subst c5
    have H1 : (if t105 = 0 then ((isobathref02_Stands.f k a0_0 l0_1 a0_2 a0_3).bind fun t107 => (some t107)) else (some false)) = some r := by rw [if_neg (show ¬ (false = true) by decide)] at H; exact H
    clear H
    have H := H1
    clear H1
    by_cases c11 : t105 = 0
    · rw [if_pos c11] at H
      have c11b0 : (t105 == 0) = true := beq_iff_eq.mpr c11
      have c11b1 : (t105 != 0) = false := bne_eq_false_iff_eq.mpr c11
      clear c11
      replace H := Option.bind_eq_some_iff.mp H
      obtain ⟨t107, A120, H⟩ := H
      replace H : (some t107) = some r := H
      have A12 := Aside0.mk A120
      clear A120
      obtain rfl := Option.some.inj H
      go_enter Try.func25, Try.ntmps25
      go_wp2_with (first | ((with_reducible refine gate_dst (N := 2) rfl ?_); refine box_event ?hg (N := 2) ?hd (cs := #[.int .i64 a0_0, .slice A0_1 l0_1.length c0_1, .int .i64 a0_2, .int .i64 a0_3]) (t := 37) ?hr ?_; (case hd => rfl); (case hg => rfl); (case hr => first | (go_simp; done) | (go_simp; rfl)); intro gb101 hg w13 hbox hb; have n0_ := Aside0.mk (below_step (by repeat (first | (with_reducible first | exact HB.out | apply below_alloc | apply pw_below_drewN | apply below_drew1) | exact HB.out)) hb); have n1_ := Aside0.mk (hbox); have n2_ := Aside0.mk ((by rw [hg]; exact (below_size (by repeat (first | (with_reducible first | exact HB.out | apply below_alloc | apply pw_below_drewN | apply below_drew1) | exact HB.out))) : w.heap.size ≤ gb101)); have n3_ := Aside0.mk ((by rw [hg]; exact (below_size (by repeat (first | (with_reducible first | exact HB.out | apply below_alloc | apply pw_below_drewN | apply below_drew1) | exact HB.out))) : w.heap.size ≤ gb101)); clear HB; have HB := n0_; have BK101 := n1_; have GW101 := n2_; have GE101 := n3_; clear n0_ n1_ n2_ n3_; clear hb hbox hg; have hcz14_0 : w13.cell? ⟨gb101, 0, none⟩ = some (.int .i64 a0_0) := (blk_cell BK101.out 0).trans rfl; have hcz14_1 : w13.cell? ⟨gb101, 1, none⟩ = some (.slice A0_1 l0_1.length c0_1) := (blk_cell BK101.out 1).trans rfl; have hcz14_2 : w13.cell? ⟨gb101, 2, none⟩ = some (.int .i64 a0_2) := (blk_cell BK101.out 2).trans rfl; have hcz14_3 : w13.cell? ⟨gb101, 3, none⟩ = some (.int .i64 a0_3) := (blk_cell BK101.out 3).trans rfl; have hfz14_0 := blk_frozen BK101.out 0; have hfz14_1 := blk_frozen BK101.out 1; have hfz14_2 := blk_frozen BK101.out 2; have hfz14_3 := blk_frozen BK101.out 3) | ((with_reducible refine gate_callee (f := 40) rfl ?_); refine goesL_ (some 10) rfl rfl Try.func40 (by kernel_rfl) rfl #[.agg #[.int .i64 a0_0, .slice A0_1 l0_1.length c0_1, .int .i64 a0_2, .int .i64 a0_3], .slice A1 l1.length c1] rfl (by (try simp only [List.map_toArray, List.map_cons, List.map_nil]); first | done | rfl | (simp only [List.length_drop, List.length_take]; rfl)) ?_; (with_reducible refine (isobathref02_Forces.calls k a0_0 _ _ l0_1 a0_2 a0_3 _ _ l1 t102 t105 _ ?side1 ?side2 ?side3 ?side4 A3.out).mono ?_); (case side1 => repeat (first | exact (Kd.C_below HR0_1.out HB.out) | (with_reducible refine Kd.C_alloc ?_ _) | (with_reducible refine Kd.C_drewN ?_ _) | (with_reducible refine Kd.C_drew ?_))); (case side2 => exact HC0_1.out); (case side3 => repeat (first | exact (Kd.C_below HR1.out HB.out) | (with_reducible refine Kd.C_alloc ?_ _) | (with_reducible refine Kd.C_drewN ?_ _) | (with_reducible refine Kd.C_drew ?_))); (case side4 => exact HC1.out); rintro e w15 ⟨v103, rfl, ho0, hb⟩; refine ⟨_, rfl, ?_⟩; have n0_ := Aside0.mk (Kd.R_lower ho0 (below_size (by repeat (first | (with_reducible first | exact HB.out | apply below_alloc | apply pw_below_drewN | apply below_drew1 | refine below_set ?_ GE101.out) | exact HB.out)))); have n1_ := Aside0.mk (blk_below (g := gb101) (o := .cells #[.int .i64 a0_0, .slice A0_1 l0_1.length c0_1, .int .i64 a0_2, .int .i64 a0_3] 37 (0, 0)) (by (with_reducible repeat (first | refine blk_drewN ?_ _ | refine blk_drew ?_ | refine blk_alloc ?_ _)); exact BK101.out) hb); have n2_ := Aside0.mk (below_step (by repeat (first | (with_reducible first | exact HB.out | apply below_alloc | apply pw_below_drewN | apply below_drew1 | refine below_set ?_ GE101.out) | exact HB.out)) hb); clear BK101; clear HB; have HO104 := n0_; have BK101 := n1_; have HB := n2_; clear n0_ n1_ n2_; (try clear hb); (try clear hb2); (try clear hk); (try clear hi); (try clear ho0); have hcz16_0 : w15.cell? ⟨gb101, 0, none⟩ = some (.int .i64 a0_0) := (blk_cell BK101.out 0).trans rfl; have hcz16_1 : w15.cell? ⟨gb101, 1, none⟩ = some (.slice A0_1 l0_1.length c0_1) := (blk_cell BK101.out 1).trans rfl; have hcz16_2 : w15.cell? ⟨gb101, 2, none⟩ = some (.int .i64 a0_2) := (blk_cell BK101.out 2).trans rfl; have hcz16_3 : w15.cell? ⟨gb101, 3, none⟩ = some (.int .i64 a0_3) := (blk_cell BK101.out 3).trans rfl; have hfz16_0 := blk_frozen BK101.out 0; have hfz16_1 := blk_frozen BK101.out 1; have hfz16_2 := blk_frozen BK101.out 2; have hfz16_3 := blk_frozen BK101.out 3) | ((with_reducible refine gate_callee (f := 21) rfl ?_); refine goesL_ (some 15) rfl rfl Try.func21 (by kernel_rfl) rfl #[.agg #[.int .i64 a0_0, .slice A0_1 l0_1.length c0_1, .int .i64 a0_2, .int .i64 a0_3], .slice A1 l1.length c1] rfl (by (try simp only [List.map_toArray, List.map_cons, List.map_nil]); first | done | rfl | (simp only [List.length_drop, List.length_take]; rfl)) ?_; (with_reducible refine (isobathlaw02_long.calls a0_0 _ _ l0_1 a0_2 a0_3 _ _ l1 false _ ?side1 ?side2 ?side3 ?side4 A4.out).mono ?_); (case side1 => repeat (first | exact (Kd.C_below HR0_1.out HB.out) | (with_reducible refine Kd.C_alloc ?_ _) | (with_reducible refine Kd.C_drewN ?_ _) | (with_reducible refine Kd.C_drew ?_))); (case side2 => exact HC0_1.out); (case side3 => repeat (first | exact (Kd.C_below HR1.out HB.out) | (with_reducible refine Kd.C_alloc ?_ _) | (with_reducible refine Kd.C_drewN ?_ _) | (with_reducible refine Kd.C_drew ?_))); (case side4 => exact HC1.out); rintro e w17 ⟨rfl, hb⟩; refine ⟨_, rfl, ?_⟩; have n0_ := Aside0.mk (Kd.R_below (by (with_reducible repeat (first | apply Kd.R_alloc | apply Kd.R_drewN | apply Kd.R_drew)); exact HO104.out) hb); have n1_ := Aside0.mk (blk_below (g := gb101) (o := .cells #[.int .i64 a0_0, .slice A0_1 l0_1.length c0_1, .int .i64 a0_2, .int .i64 a0_3] 37 (0, 0)) (by (with_reducible repeat (first | refine blk_drewN ?_ _ | refine blk_drew ?_ | refine blk_alloc ?_ _)); exact BK101.out) hb); have n2_ := Aside0.mk (below_step (by repeat (first | (with_reducible first | exact HB.out | apply below_alloc | apply pw_below_drewN | apply below_drew1 | refine below_set ?_ GE101.out) | exact HB.out)) hb); clear HO104; clear BK101; clear HB; have HO104 := n0_; have BK101 := n1_; have HB := n2_; clear n0_ n1_ n2_; (try clear hb); (try clear hb2); (try clear hk); (try clear hi); have hcz18_0 : w17.cell? ⟨gb101, 0, none⟩ = some (.int .i64 a0_0) := (blk_cell BK101.out 0).trans rfl; have hcz18_1 : w17.cell? ⟨gb101, 1, none⟩ = some (.slice A0_1 l0_1.length c0_1) := (blk_cell BK101.out 1).trans rfl; have hcz18_2 : w17.cell? ⟨gb101, 2, none⟩ = some (.int .i64 a0_2) := (blk_cell BK101.out 2).trans rfl; have hcz18_3 : w17.cell? ⟨gb101, 3, none⟩ = some (.int .i64 a0_3) := (blk_cell BK101.out 3).trans rfl; have hfz18_0 := blk_frozen BK101.out 0; have hfz18_1 := blk_frozen BK101.out 1; have hfz18_2 := blk_frozen BK101.out 2; have hfz18_3 := blk_frozen BK101.out 3) | (go_at_call 59; (with_reducible refine (isobathref02_Stands.calls k a0_0 _ _ l0_1 a0_2 a0_3 t107 _ ?side1 ?side2 A12.out).mono ?_); (case side1 => repeat (first | exact (Kd.C_below HR0_1.out HB.out) | (with_reducible refine Kd.C_alloc ?_ _) | (with_reducible refine Kd.C_drewN ?_ _) | (with_reducible refine Kd.C_drew ?_))); (case side2 => exact HC0_1.out); rintro e w19 ⟨rfl, hb⟩; have n0_ := Aside0.mk (Kd.R_below (by (with_reducible repeat (first | apply Kd.R_alloc | apply Kd.R_drewN | apply Kd.R_drew)); exact HO104.out) hb); have n1_ := Aside0.mk (blk_below (g := gb101) (o := .cells #[.int .i64 a0_0, .slice A0_1 l0_1.length c0_1, .int .i64 a0_2, .int .i64 a0_3] 37 (0, 0)) (by (with_reducible repeat (first | refine blk_drewN ?_ _ | refine blk_drew ?_ | refine blk_alloc ?_ _)); exact BK101.out) hb); have n2_ := Aside0.mk (below_step (by repeat (first | (with_reducible first | exact HB.out | apply below_alloc | apply pw_below_drewN | apply below_drew1 | refine below_set ?_ GE101.out) | exact HB.out)) hb); clear HO104; clear BK101; clear HB; have HO104 := n0_; have BK101 := n1_; have HB := n2_; clear n0_ n1_ n2_; (try clear hb); (try clear hb2); (try clear hk); (try clear hi)))
      go_ret
      exact ⟨by first | rfl | (simp [errW_none, errW_some] <;> rfl) | (simp [*, errW_none, errW_some] <;> rfl), by repeat (first | (with_reducible first | exact HB.out | apply below_alloc | apply pw_below_drewN | apply below_drew1 | refine below_set ?_ GE101.out) | exact HB.out)⟩
    · rw [if_neg c11] at H
      have c11b0 : (t105 == 0) = false := beq_eq_false_iff_ne.mpr c11
      have c11b1 : (t105 != 0) = true := bne_iff_ne.mpr c11
      obtain rfl := Option.some.inj H
      go_enter Try.func25, Try.ntmps25
      go_wp2_with (first | ((with_reducible refine gate_dst (N := 2) rfl ?_); refine box_event ?hg (N := 2) ?hd (cs := #[.int .i64 a0_0, .slice A0_1 l0_1.length c0_1, .int .i64 a0_2, .int .i64 a0_3]) (t := 37) ?hr ?_; (case hd => rfl); (case hg => rfl); (case hr => first | (go_simp; done) | (go_simp; rfl)); intro gb101 hg w20 hbox hb; have n0_ := Aside0.mk (below_step (by repeat (first | (with_reducible first | exact HB.out | apply below_alloc | apply pw_below_drewN | apply below_drew1) | exact HB.out)) hb); have n1_ := Aside0.mk (hbox); have n2_ := Aside0.mk ((by rw [hg]; exact (below_size (by repeat (first | (with_reducible first | exact HB.out | apply below_alloc | apply pw_below_drewN | apply below_drew1) | exact HB.out))) : w.heap.size ≤ gb101)); have n3_ := Aside0.mk ((by rw [hg]; exact (below_size (by repeat (first | (with_reducible first | exact HB.out | apply below_alloc | apply pw_below_drewN | apply below_drew1) | exact HB.out))) : w.heap.size ≤ gb101)); clear HB; have HB := n0_; have BK101 := n1_; have GW101 := n2_; have GE101 := n3_; clear n0_ n1_ n2_ n3_; clear hb hbox hg; have hcz21_0 : w20.cell? ⟨gb101, 0, none⟩ = some (.int .i64 a0_0) := (blk_cell BK101.out 0).trans rfl; have hcz21_1 : w20.cell? ⟨gb101, 1, none⟩ = some (.slice A0_1 l0_1.length c0_1) := (blk_cell BK101.out 1).trans rfl; have hcz21_2 : w20.cell? ⟨gb101, 2, none⟩ = some (.int .i64 a0_2) := (blk_cell BK101.out 2).trans rfl; have hcz21_3 : w20.cell? ⟨gb101, 3, none⟩ = some (.int .i64 a0_3) := (blk_cell BK101.out 3).trans rfl; have hfz21_0 := blk_frozen BK101.out 0; have hfz21_1 := blk_frozen BK101.out 1; have hfz21_2 := blk_frozen BK101.out 2; have hfz21_3 := blk_frozen BK101.out 3) | ((with_reducible refine gate_callee (f := 40) rfl ?_); refine goesL_ (some 10) rfl rfl Try.func40 (by kernel_rfl) rfl #[.agg #[.int .i64 a0_0, .slice A0_1 l0_1.length c0_1, .int .i64 a0_2, .int .i64 a0_3], .slice A1 l1.length c1] rfl (by (try simp only [List.map_toArray, List.map_cons, List.map_nil]); first | done | rfl | (simp only [List.length_drop, List.length_take]; rfl)) ?_; (with_reducible refine (isobathref02_Forces.calls k a0_0 _ _ l0_1 a0_2 a0_3 _ _ l1 t102 t105 _ ?side1 ?side2 ?side3 ?side4 A3.out).mono ?_); (case side1 => repeat (first | exact (Kd.C_below HR0_1.out HB.out) | (with_reducible refine Kd.C_alloc ?_ _) | (with_reducible refine Kd.C_drewN ?_ _) | (with_reducible refine Kd.C_drew ?_))); (case side2 => exact HC0_1.out); (case side3 => repeat (first | exact (Kd.C_below HR1.out HB.out) | (with_reducible refine Kd.C_alloc ?_ _) | (with_reducible refine Kd.C_drewN ?_ _) | (with_reducible refine Kd.C_drew ?_))); (case side4 => exact HC1.out); rintro e w22 ⟨v103, rfl, ho0, hb⟩; refine ⟨_, rfl, ?_⟩; have n0_ := Aside0.mk (Kd.R_lower ho0 (below_size (by repeat (first | (with_reducible first | exact HB.out | apply below_alloc | apply pw_below_drewN | apply below_drew1 | refine below_set ?_ GE101.out) | exact HB.out)))); have n1_ := Aside0.mk (blk_below (g := gb101) (o := .cells #[.int .i64 a0_0, .slice A0_1 l0_1.length c0_1, .int .i64 a0_2, .int .i64 a0_3] 37 (0, 0)) (by (with_reducible repeat (first | refine blk_drewN ?_ _ | refine blk_drew ?_ | refine blk_alloc ?_ _)); exact BK101.out) hb); have n2_ := Aside0.mk (below_step (by repeat (first | (with_reducible first | exact HB.out | apply below_alloc | apply pw_below_drewN | apply below_drew1 | refine below_set ?_ GE101.out) | exact HB.out)) hb); clear BK101; clear HB; have HO104 := n0_; have BK101 := n1_; have HB := n2_; clear n0_ n1_ n2_; (try clear hb); (try clear hb2); (try clear hk); (try clear hi); (try clear ho0); have hcz23_0 : w22.cell? ⟨gb101, 0, none⟩ = some (.int .i64 a0_0) := (blk_cell BK101.out 0).trans rfl; have hcz23_1 : w22.cell? ⟨gb101, 1, none⟩ = some (.slice A0_1 l0_1.length c0_1) := (blk_cell BK101.out 1).trans rfl; have hcz23_2 : w22.cell? ⟨gb101, 2, none⟩ = some (.int .i64 a0_2) := (blk_cell BK101.out 2).trans rfl; have hcz23_3 : w22.cell? ⟨gb101, 3, none⟩ = some (.int .i64 a0_3) := (blk_cell BK101.out 3).trans rfl; have hfz23_0 := blk_frozen BK101.out 0; have hfz23_1 := blk_frozen BK101.out 1; have hfz23_2 := blk_frozen BK101.out 2; have hfz23_3 := blk_frozen BK101.out 3) | ((with_reducible refine gate_callee (f := 21) rfl ?_); refine goesL_ (some 15) rfl rfl Try.func21 (by kernel_rfl) rfl #[.agg #[.int .i64 a0_0, .slice A0_1 l0_1.length c0_1, .int .i64 a0_2, .int .i64 a0_3], .slice A1 l1.length c1] rfl (by (try simp only [List.map_toArray, List.map_cons, List.map_nil]); first | done | rfl | (simp only [List.length_drop, List.length_take]; rfl)) ?_; (with_reducible refine (isobathlaw02_long.calls a0_0 _ _ l0_1 a0_2 a0_3 _ _ l1 false _ ?side1 ?side2 ?side3 ?side4 A4.out).mono ?_); (case side1 => repeat (first | exact (Kd.C_below HR0_1.out HB.out) | (with_reducible refine Kd.C_alloc ?_ _) | (with_reducible refine Kd.C_drewN ?_ _) | (with_reducible refine Kd.C_drew ?_))); (case side2 => exact HC0_1.out); (case side3 => repeat (first | exact (Kd.C_below HR1.out HB.out) | (with_reducible refine Kd.C_alloc ?_ _) | (with_reducible refine Kd.C_drewN ?_ _) | (with_reducible refine Kd.C_drew ?_))); (case side4 => exact HC1.out); rintro e w24 ⟨rfl, hb⟩; refine ⟨_, rfl, ?_⟩; have n0_ := Aside0.mk (Kd.R_below (by (with_reducible repeat (first | apply Kd.R_alloc | apply Kd.R_drewN | apply Kd.R_drew)); exact HO104.out) hb); have n1_ := Aside0.mk (blk_below (g := gb101) (o := .cells #[.int .i64 a0_0, .slice A0_1 l0_1.length c0_1, .int .i64 a0_2, .int .i64 a0_3] 37 (0, 0)) (by (with_reducible repeat (first | refine blk_drewN ?_ _ | refine blk_drew ?_ | refine blk_alloc ?_ _)); exact BK101.out) hb); have n2_ := Aside0.mk (below_step (by repeat (first | (with_reducible first | exact HB.out | apply below_alloc | apply pw_below_drewN | apply below_drew1 | refine below_set ?_ GE101.out) | exact HB.out)) hb); clear HO104; clear BK101; clear HB; have HO104 := n0_; have BK101 := n1_; have HB := n2_; clear n0_ n1_ n2_; (try clear hb); (try clear hb2); (try clear hk); (try clear hi)))
      go_ret
      exact ⟨by first | rfl | (simp [errW_none, errW_some] <;> rfl) | (simp [*, errW_none, errW_some] <;> rfl), by repeat (first | (with_reducible first | exact HB.out | apply below_alloc | apply pw_below_drewN | apply below_drew1 | refine below_set ?_ GE101.out) | exact HB.out)⟩
end Go.Proofs.Ytebcmhajbjkojaa.P
namespace Go.Proofs.Ytebcmhajbjkojaa.P
open Go.RowKit Go.Proofs.YtebcmhajbjkojaaW.PrintWords Go.Proofs.YtebcmhajbjkojaaW.PrintLast Go.Proofs.YtebcmhajbjkojaaW.PrintMore
attribute [local go_sem] max2_int min2_int max_two min_two max_three min_three max_four min_four   -- for this text's walks alone
set_option linter.unusedVariables false
set_option linter.unusedSimpArgs false
def mooring_Circle.f (d : Int) (els : List S46) (an fr : Int) (cs : List S57) (free : Bool) : Option (Int × Int) := if Moor.err d els an fr cs true = 0 then some (Moor.shi (Moor.list (Moor.offsAt els (Moor.pulls free (Moor.on els cs)) (Moor.lifts els)) els.length), 0) else some (0, Moor.err d els an fr cs true)
set_option maxHeartbeats 8000000 in
set_option maxRecDepth 100000 in
theorem mooring_Circle.calls (d : Int) (A : Option Addr) (c : Nat) (els : List S46) (an fr : Int) (A1 : Option Addr) (c1 : Nat) (cs : List S57) (free : Bool) (r1 : Int) (r2 : Int) (w : World) (hr0 : Kd.C k46 w A els.length els) (hc0 : els.length ≤ c) (hr1 : Kd.C k57 w A1 cs.length cs) (hc1 : cs.length ≤ c1) (h : mooring_Circle.f d els an fr cs free = some (r1, r2)) :
    Calls Try.prog 28 #[.agg #[.int .i64 d, .slice A els.length c, .int .i64 an, .int .i64 fr], .slice A1 cs.length c1, .bool free] w fun e w' => e = .returned (.tuple #[.int .i64 r1, .int .i64 r2]) ∧ Below w.heap.size w w' := by
  have hu37 := Try.underlying37
  have hu57 := Try.underlying57
  have hu98 := Try.underlying98
  have hu129 := Try.underlying129
  obtain ⟨r, hr⟩ : ∃ r, Moor.err d els an fr cs true = r := ⟨_, rfl⟩
  have NS := Aside0.mk (fun (w1 : World) (hb1 : Below w.heap.size w w1) => mooring_newShape.calls A c A1 c1 cs free r w1 (Kd.C_below hr0 hb1) hc0 (Kd.C_below hr1 hb1) hc1 hr)
  have HR := Aside0.mk hr
  unfold mooring_Circle.f at h
  rw [hr] at h
  have HR0 := Aside0.mk hr0
  clear hr0 hc0 hr1 hc1 hr
  have hfd : ∀ (w : World) (x y : Int), (Instr.field 57 (.agg #[.int .i64 x, .int .i64 y]) 1).run Try.prog w = .ok (.int .i64 y) w := fun _ _ _ => by kernel_rfl
  by_cases c0 : r = 0
  · subst c0
    rw [if_pos rfl] at h
    have h := Option.some.inj h
    simp only [Prod.mk.injEq] at h
    obtain ⟨rfl, rfl⟩ := h
    have OKM := Aside0.mk (Moor.err_ok HR.out).1
    have STA := Aside0.mk ((Moor.err_ok HR.out).2 rfl)
    go_enter Try.func28, Try.ntmps28
    go_wp2_with (first | ((with_reducible refine gate_dst (N := 3) rfl ?_); refine box_event ?hg (N := 3) ?hd (cs := #[.int .i64 d, .slice A els.length c, .int .i64 an, .int .i64 fr]) (t := 37) ?hr ?_; (case hd => rfl); (case hg => rfl); (case hr => first | (go_simp; done) | (go_simp; rfl)); intro gm hgm w1 hbk hb0; have BM := Aside0.mk hbk; have HB := Aside0.mk hb0; have hz0 := (blk_cell hbk 0).trans rfl; have hz1 := (blk_cell hbk 1).trans rfl; have hz2 := (blk_cell hbk 2).trans rfl; have hz3 := (blk_cell hbk 3).trans rfl; clear hgm hbk hb0) | (go_at_call 61; (with_reducible refine (NS.out _ HB.out).mono ?_); intro e w3 hnf; obtain ⟨gs, he, hf, hb1⟩ := NewShape.of_zero hnf; subst he; have FO := Aside0.mk hf; have n1 := Aside0.mk (below_step HB.out hb1); clear HB BM hz0 hz1 hz2 hz3 hnf hb1 hf; have HB := n1; clear n1; ) | (go_at_call 65; (with_reducible refine (mooring_total.calls A c gs 63 (Moor.offsAt els (Moor.pulls free (Moor.on els cs)) (Moor.lifts els)) _ FO.out OKM.out.n40 (mooring_gives_offset FO.out OKM.out STA.out) (OKM.out.offs_mid STA.out free)).mono ?_); rintro e w4 ⟨rfl, hb1⟩; have n1 := Aside0.mk (below_step HB.out hb1); clear HB hb1; have HB := n1; clear n1))
    go_ret2
    exact ⟨rfl, HB.out⟩
  · rw [if_neg c0] at h
    have h := Option.some.inj h
    simp only [Prod.mk.injEq] at h
    obtain ⟨rfl, rfl⟩ := h
    have d1 : (r != 0) = true := bne_iff_ne.mpr c0
    have C0 := Aside0.mk c0
    clear c0
    go_enter Try.func28, Try.ntmps28
    go_wp2_with (first | ((with_reducible refine gate_dst (N := 3) rfl ?_); refine box_event ?hg (N := 3) ?hd (cs := #[.int .i64 d, .slice A els.length c, .int .i64 an, .int .i64 fr]) (t := 37) ?hr ?_; (case hd => rfl); (case hg => rfl); (case hr => first | (go_simp; done) | (go_simp; rfl)); intro gm hgm w1 hbk hb0; have BM := Aside0.mk hbk; have HB := Aside0.mk hb0; have hz0 := (blk_cell hbk 0).trans rfl; have hz1 := (blk_cell hbk 1).trans rfl; have hz2 := (blk_cell hbk 2).trans rfl; have hz3 := (blk_cell hbk 3).trans rfl; clear hgm hbk hb0) | (go_at_call 61; (with_reducible refine (NS.out _ HB.out).mono ?_); intro e w3 hnf; obtain ⟨he, hb1⟩ := NewShape.of_ne hnf C0.out; subst he; have n1 := Aside0.mk (below_step HB.out hb1); clear HB BM hz0 hz1 hz2 hz3 hnf hb1; have HB := n1; clear n1; ))
    go_ret2
    exact ⟨rfl, HB.out⟩
end Go.Proofs.Ytebcmhajbjkojaa.P
namespace Go.Proofs.Ytebcmhajbjkojaa.P
open Go.RowKit Go.Proofs.YtebcmhajbjkojaaW.PrintWords Go.Proofs.YtebcmhajbjkojaaW.PrintLast Go.Proofs.YtebcmhajbjkojaaW.PrintMore
attribute [local go_sem] max2_int min2_int max_two min_two max_three min_three max_four min_four   -- for this text's walks alone
set_option linter.unusedVariables false
set_option linter.unusedSimpArgs false
def mooring_Pulls.f (d : Int) (els : List S46) (an fr : Int) (cs : List S57) (free : Bool) : Option (List S57 × Int) := if Moor.err d els an fr cs false = 0 then some (Moor.pulls free (Moor.on els cs), 0) else some ([], Moor.err d els an fr cs false)
set_option maxHeartbeats 8000000 in
set_option maxRecDepth 100000 in
theorem mooring_Pulls.calls (d : Int) (A : Option Addr) (c : Nat) (els : List S46) (an fr : Int) (A1 : Option Addr) (c1 : Nat) (cs : List S57) (free : Bool) (r1 : List S57) (r2 : Int) (w : World) (hr0 : Kd.C k46 w A els.length els) (hc0 : els.length ≤ c) (hr1 : Kd.C k57 w A1 cs.length cs) (hc1 : cs.length ≤ c1) (h : mooring_Pulls.f d els an fr cs free = some (r1, r2)) :
    Calls Try.prog 26 #[.agg #[.int .i64 d, .slice A els.length c, .int .i64 an, .int .i64 fr], .slice A1 cs.length c1, .bool free] w fun e w' => ∃ v0_ : Value, e = .returned (.tuple #[v0_, .int .i64 r2]) ∧ Kd.R k57 57 w' w.heap.size (fun _ => True) v0_ r1 ∧ Below w.heap.size w w' := by
  have hu37 := Try.underlying37
  have hu57 := Try.underlying57
  have hu98 := Try.underlying98
  have hu129 := Try.underlying129
  obtain ⟨r, hr⟩ : ∃ r, Moor.err d els an fr cs false = r := ⟨_, rfl⟩
  have NF := Aside0.mk (fun (w1 : World) (hb1 : Below w.heap.size w w1) => mooring_newForces.calls A c A1 c1 cs false r w1 (Kd.C_below hr0 hb1) hc0 (Kd.C_below hr1 hb1) hc1 hr)
  have HR := Aside0.mk hr
  unfold mooring_Pulls.f at h
  rw [hr] at h
  have HR0 := Aside0.mk hr0
  clear hr0 hc0 hr1 hc1 hr
  by_cases c0 : r = 0
  · subst c0
    rw [if_pos rfl] at h
    have h := Option.some.inj h
    simp only [Prod.mk.injEq] at h
    obtain ⟨rfl, rfl⟩ := h
    have OKM := Aside0.mk (Moor.err_ok HR.out).1
    go_enter Try.func26, Try.ntmps26
    go_wp2_with (first | ((with_reducible refine gate_dst (N := 3) rfl ?_); refine box_event ?hg (N := 3) ?hd (cs := #[.int .i64 d, .slice A els.length c, .int .i64 an, .int .i64 fr]) (t := 37) ?hr ?_; (case hd => rfl); (case hg => rfl); (case hr => first | (go_simp; done) | (go_simp; rfl)); intro gm hgm w1 hbk hb0; have BM := Aside0.mk hbk; have HB := Aside0.mk hb0; have hz0 := (blk_cell hbk 0).trans rfl; have hz1 := (blk_cell hbk 1).trans rfl; have hz2 := (blk_cell hbk 2).trans rfl; have hz3 := (blk_cell hbk 3).trans rfl; clear hgm hbk hb0) | (go_at_call 58; (with_reducible refine (NF.out _ HB.out).mono ?_); intro e w3 hnf; obtain ⟨gs, he, hf, ho, hb1⟩ := NewForces.of_zero hnf; subst he; have FO := Aside0.mk hf; clear ho; have n1 := Aside0.mk (below_step HB.out hb1); clear HB BM hz0 hz1 hz2 hz3 hnf hb1 hf; have HB := n1; clear n1; ) | (go_at_call 60; (with_reducible refine (mooring_pulls.calls A c gs free _ FO.out ?p1 ?p2).mono ?_); (case p1 => exact (by rw [OKM.out.onlen]; exact OKM.out.n40)); (case p2 => exact Moor.on_onB OKM.out.elok OKM.out.cur); rintro e w4 ⟨v, rfl, hp, hb1⟩; have n1 := Aside0.mk (below_step HB.out hb1); have RP := Aside0.mk (Kd.R_lower hp (below_size HB.out)); clear HB FO hp hb1; have HB := n1; clear n1))
    go_ret2
    exact ⟨_, rfl, RP.out, HB.out⟩
  · rw [if_neg c0] at h
    have h := Option.some.inj h
    simp only [Prod.mk.injEq] at h
    obtain ⟨rfl, rfl⟩ := h
    have d1 : (r != 0) = true := bne_iff_ne.mpr c0
    have C0 := Aside0.mk c0
    clear c0
    go_enter Try.func26, Try.ntmps26
    go_wp2_with (first | ((with_reducible refine gate_dst (N := 3) rfl ?_); refine box_event ?hg (N := 3) ?hd (cs := #[.int .i64 d, .slice A els.length c, .int .i64 an, .int .i64 fr]) (t := 37) ?hr ?_; (case hd => rfl); (case hg => rfl); (case hr => first | (go_simp; done) | (go_simp; rfl)); intro gm hgm w1 hbk hb0; have BM := Aside0.mk hbk; have HB := Aside0.mk hb0; have hz0 := (blk_cell hbk 0).trans rfl; have hz1 := (blk_cell hbk 1).trans rfl; have hz2 := (blk_cell hbk 2).trans rfl; have hz3 := (blk_cell hbk 3).trans rfl; clear hgm hbk hb0) | (go_at_call 58; (with_reducible refine (NF.out _ HB.out).mono ?_); intro e w3 hnf; obtain ⟨he, hb1⟩ := NewForces.of_ne hnf C0.out; subst he; have n1 := Aside0.mk (below_step HB.out hb1); clear HB BM hz0 hz1 hz2 hz3 hnf hb1; have HB := n1; clear n1; ))
    go_ret2
    exact ⟨_, rfl, Kd.R_nil _ _ _ _ _, HB.out⟩
end Go.Proofs.Ytebcmhajbjkojaa.P
namespace Go.Proofs.Ytebcmhajbjkojaa.P
open Go.RowKit Go.Proofs.YtebcmhajbjkojaaW.PrintWords Go.Proofs.YtebcmhajbjkojaaW.PrintLast Go.Proofs.YtebcmhajbjkojaaW.PrintMore
attribute [local go_sem] max2_int min2_int max_two min_two max_three min_three max_four min_four   -- for this text's walks alone
set_option linter.unusedVariables false
set_option linter.unusedSimpArgs false
def mooring_Shape.f (d : Int) (els : List S46) (an fr : Int) (cs : List S57) (free : Bool) : Option (List S57 × List S57 × Int) := if Moor.err d els an fr cs true = 0 then some (Moor.list (Moor.offsAt els (Moor.pulls free (Moor.on els cs)) (Moor.lifts els)) els.length, Moor.list (Moor.riseAt els (Moor.pulls free (Moor.on els cs)) (Moor.lifts els)) els.length, 0) else some ([], [], Moor.err d els an fr cs true)
theorem Shape_two {w W w1 : World} {v0 v1 : Value} {xs ys : List S57} (h0 : Kd.R k57 57 W w.heap.size (fun _ => True) v0 xs) (h1 : Kd.R k57 57 w1 W.heap.size (fun _ => True) v1 ys) (hle : w.heap.size ≤ W.heap.size) (hb : Below W.heap.size W w1) :
    Kd.R k57 57 w1 w.heap.size (fun k_ => some k_ ≠ v1.ownBlock) v0 xs ∧ Kd.R k57 57 w1 w.heap.size (fun k_ => some k_ ≠ v0.ownBlock) v1 ys := by
  have b0 := Kd.R_bound h0
  have b1 := Kd.R_bound h1
  refine ⟨Kd.R_below (Kd.R_mono b0 (fun k hk he => ?_)) hb, Kd.R_lower (Kd.R_mono b1 (fun k hk he => ?_)) hle⟩
  · have h2 := (b1.1 k he.symm).2.1
    have h3 := hk.2.2.1
    omega
  · have h2 := (b0.1 k he.symm).2.2.1
    have h3 := hk.2.1
    omega
set_option maxHeartbeats 8000000 in
set_option maxRecDepth 100000 in
theorem mooring_Shape.calls (d : Int) (A : Option Addr) (c : Nat) (els : List S46) (an fr : Int) (A1 : Option Addr) (c1 : Nat) (cs : List S57) (free : Bool) (r1 : List S57) (r2 : List S57) (r3 : Int) (w : World) (hr0 : Kd.C k46 w A els.length els) (hc0 : els.length ≤ c) (hr1 : Kd.C k57 w A1 cs.length cs) (hc1 : cs.length ≤ c1) (h : mooring_Shape.f d els an fr cs free = some (r1, r2, r3)) :
    Calls Try.prog 27 #[.agg #[.int .i64 d, .slice A els.length c, .int .i64 an, .int .i64 fr], .slice A1 cs.length c1, .bool free] w fun e w' => ∃ v0_ v1_ : Value, e = .returned (.tuple #[v0_, v1_, .int .i64 r3]) ∧ Kd.R k57 57 w' w.heap.size (fun k_ => some k_ ≠ (v1_ : Value).ownBlock) v0_ r1 ∧ Kd.R k57 57 w' w.heap.size (fun k_ => some k_ ≠ (v0_ : Value).ownBlock) v1_ r2 ∧ Below w.heap.size w w' := by
  have hu37 := Try.underlying37
  have hu57 := Try.underlying57
  have hu98 := Try.underlying98
  have hu129 := Try.underlying129
  obtain ⟨r, hr⟩ : ∃ r, Moor.err d els an fr cs true = r := ⟨_, rfl⟩
  have NS := Aside0.mk (fun (w1 : World) (hb1 : Below w.heap.size w w1) => mooring_newShape.calls A c A1 c1 cs free r w1 (Kd.C_below hr0 hb1) hc0 (Kd.C_below hr1 hb1) hc1 hr)
  have HR := Aside0.mk hr
  unfold mooring_Shape.f at h
  rw [hr] at h
  have HR0 := Aside0.mk hr0
  clear hr0 hc0 hr1 hc1 hr
  by_cases c0 : r = 0
  · subst c0
    rw [if_pos rfl] at h
    have h := Option.some.inj h
    simp only [Prod.mk.injEq] at h
    obtain ⟨rfl, rfl, rfl⟩ := h
    have OKM := Aside0.mk (Moor.err_ok HR.out).1
    have STA := Aside0.mk ((Moor.err_ok HR.out).2 rfl)
    go_enter Try.func27, Try.ntmps27
    go_wp2_with (first | ((with_reducible refine gate_dst (N := 3) rfl ?_); refine box_event ?hg (N := 3) ?hd (cs := #[.int .i64 d, .slice A els.length c, .int .i64 an, .int .i64 fr]) (t := 37) ?hr ?_; (case hd => rfl); (case hg => rfl); (case hr => first | (go_simp; done) | (go_simp; rfl)); intro gm hgm w1 hbk hb0; have BM := Aside0.mk hbk; have HB := Aside0.mk hb0; have hz0 := (blk_cell hbk 0).trans rfl; have hz1 := (blk_cell hbk 1).trans rfl; have hz2 := (blk_cell hbk 2).trans rfl; have hz3 := (blk_cell hbk 3).trans rfl; clear hgm hbk hb0) | (go_at_call 61; (with_reducible refine (NS.out _ HB.out).mono ?_); intro e w3 hnf; obtain ⟨gs, he, hf, hb1⟩ := NewShape.of_zero hnf; subst he; have FO := Aside0.mk hf; have n1 := Aside0.mk (below_step HB.out hb1); clear HB BM hz0 hz1 hz2 hz3 hnf hb1 hf; have HB := n1; clear n1; ) | (go_at_call 62; (with_reducible refine (mooring_each.calls A c gs 63 (Moor.offsAt els (Moor.pulls free (Moor.on els cs)) (Moor.lifts els)) _ FO.out OKM.out.n40 (mooring_gives_offset FO.out OKM.out STA.out)).mono ?_); rintro e w4 ⟨v0, rfl, hp, hb1⟩; have n1 := Aside0.mk (below_step HB.out hb1); have n2 := Aside0.mk (FO.out.below hb1); have RP0 := Aside0.mk (Kd.R_lower hp (below_size HB.out)); clear HB FO hp hb1; have HB := n1; have FO := n2; clear n1 n2) | (go_at_call 62; (with_reducible refine (mooring_each.calls A c gs 64 (Moor.riseAt els (Moor.pulls free (Moor.on els cs)) (Moor.lifts els)) _ FO.out OKM.out.n40 (mooring_gives_rise FO.out OKM.out STA.out)).mono ?_); rintro e w5 ⟨v1, rfl, hp, hb1⟩; have n1 := Aside0.mk (below_step HB.out hb1); have n2 := Aside0.mk (Shape_two RP0.out hp (below_size HB.out) hb1); clear HB FO RP0 hp hb1; have HB := n1; have RP := n2; clear n1 n2))
    go_ret3
    exact ⟨_, _, rfl, RP.out.1, RP.out.2, HB.out⟩
  · rw [if_neg c0] at h
    have h := Option.some.inj h
    simp only [Prod.mk.injEq] at h
    obtain ⟨rfl, rfl, rfl⟩ := h
    have d1 : (r != 0) = true := bne_iff_ne.mpr c0
    have C0 := Aside0.mk c0
    clear c0
    go_enter Try.func27, Try.ntmps27
    go_wp2_with (first | ((with_reducible refine gate_dst (N := 3) rfl ?_); refine box_event ?hg (N := 3) ?hd (cs := #[.int .i64 d, .slice A els.length c, .int .i64 an, .int .i64 fr]) (t := 37) ?hr ?_; (case hd => rfl); (case hg => rfl); (case hr => first | (go_simp; done) | (go_simp; rfl)); intro gm hgm w1 hbk hb0; have BM := Aside0.mk hbk; have HB := Aside0.mk hb0; have hz0 := (blk_cell hbk 0).trans rfl; have hz1 := (blk_cell hbk 1).trans rfl; have hz2 := (blk_cell hbk 2).trans rfl; have hz3 := (blk_cell hbk 3).trans rfl; clear hgm hbk hb0) | (go_at_call 61; (with_reducible refine (NS.out _ HB.out).mono ?_); intro e w3 hnf; obtain ⟨he, hb1⟩ := NewShape.of_ne hnf C0.out; subst he; have n1 := Aside0.mk (below_step HB.out hb1); clear HB BM hz0 hz1 hz2 hz3 hnf hb1; have HB := n1; clear n1; ))
    go_ret3
    exact ⟨_, _, rfl, Kd.R_nil _ _ _ _ _, Kd.R_nil _ _ _ _ _, HB.out⟩
end Go.Proofs.Ytebcmhajbjkojaa.P
namespace Go.Proofs.Ytebcmhajbjkojaa.P
open Go.RowKit Go.Proofs.YtebcmhajbjkojaaW.PrintWords Go.Proofs.YtebcmhajbjkojaaW.PrintLast Go.Proofs.YtebcmhajbjkojaaW.PrintMore
attribute [local go_sem] max2_int min2_int max_two min_two max_three min_three max_four min_four   -- for this text's walks alone
set_option linter.unusedVariables false
set_option linter.unusedSimpArgs false
attribute [local go_sem high] eqA57
mutual
def isobathlaw02_MooringFreer.j0 : Nat → List (S57) → List (S57) → Bool → Option (Bool)
  | 0, _, _, _ => none
  | k + 1, x5, x7, x102 => if x102 = true then (none) else (isobathlaw02_MooringFreer.l0 k x5 x7 0)
def isobathlaw02_MooringFreer.l0 : Nat → List (S57) → List (S57) → Int → Option (Bool)
  | 0, _, _, _ => none
  | k + 1, x5, x7, x19 => if x19 < (x5.length : Int) then (if 0 ≤ x19 then (if x19 < (x7.length : Int) then (if ((rd_T57 x5 x19).f1) = ((rd_T57 x7 x19).f1) then (isobathlaw02_MooringFreer.l0 k x5 x7 (wrap64 (x19 + 1))) else (none)) else (none)) else (none)) else (if 0 < (x5.length : Int) then (if 0 < (x7.length : Int) then (if (((rd_T57 x5 0).f0) == ((rd_T57 x7 0).f0) && (((rd_T57 x5 0).f1) == ((rd_T57 x7 0).f1))) = true then ((isobathlaw02_fine.f k).bind fun t137 => (some t137)) else (none)) else (none)) else (none))
end
def isobathlaw02_MooringFreer.f (k : Nat) (a0_0 : Int) (l0_1 : List (S46)) (a0_2 : Int) (a0_3 : Int) (l1 : List (S57)) : Option (Bool) := (isobathlaw02_valid.f k a0_0 l0_1 a0_2 a0_3 l1).bind fun t102 => (if t102 = true then ((mooring_Pulls.f a0_0 l0_1 a0_2 a0_3 l1 false).bind fun bt104 => ((mooring_Pulls.f a0_0 l0_1 a0_2 a0_3 l1 true).bind fun bt108 => ((mooring_Shape.f a0_0 l0_1 a0_2 a0_3 l1 false).bind fun bt112 => ((mooring_Shape.f a0_0 l0_1 a0_2 a0_3 l1 true).bind fun bt119 => ((mooring_Circle.f a0_0 l0_1 a0_2 a0_3 l1 false).bind fun bt126 => ((mooring_Circle.f a0_0 l0_1 a0_2 a0_3 l1 true).bind fun bt128 => (if (wrap64 ((wrap64 ((wrap64 ((wrap64 ((wrap64 (bt104.2 + bt108.2)) + bt112.2.2)) + bt119.2.2)) + bt126.2)) + bt128.2)) = 0 then ((isobathlaw02_inside.f k bt104.1 bt108.1).bind fun t130 => (if t130 = true then ((isobathlaw02_inside.f k bt112.1 bt119.1).bind fun t131 => (if t131 = true then ((isobathlaw02_inside.f k bt112.2.1 bt119.2.1).bind fun t132 => (if t132 = true then (if bt126.1 = bt128.1 then (isobathlaw02_MooringFreer.j0 k bt104.1 bt108.1 ((bt104.1.length : Int) == 0)) else (none)) else (none))) else (none))) else (none))) else (none)))))))) else ((isobathlaw02_fine.f k).bind fun t103 => (some t103)))
def isobathlaw02_MooringFreer.T14 : Bool × List (List Nat × List Nat) := (true, [([], []), ([], []), ([0, 1], [0, 1]), ([2], [2]), ([3], [3]), ([], []), ([], []), ([5, 6], [5, 6]), ([7], [7]), ([8], [8]), ([4, 9], [4, 9])])
def isobathlaw02_MooringFreer.B14 : List Nat := [0, 0, 3, 7, 15, 0, 0, 96, 224, 480, 1023]
theorem isobathlaw02_MooringFreer.tab14 : rtab .any (opsOf Try.f6 14) = isobathlaw02_MooringFreer.T14 := by kernel_rfl
theorem isobathlaw02_MooringFreer.bits14 : waitsOk isobathlaw02_MooringFreer.T14.2 isobathlaw02_MooringFreer.B14 = true := by kernel_rfl
def isobathlaw02_MooringFreer.T16 : Bool × List (List Nat × List Nat) := (true, [([], []), ([0], [0]), ([1], [1]), ([], []), ([3], [3]), ([4], [4]), ([2, 5], [2, 5]), ([6], [6]), ([7, 7], [7]), ([7, 8], [7, 8]), ([9, 8, 0, 1, 2, 3, 4, 5, 6, 7, 8, 9], [9])])
def isobathlaw02_MooringFreer.B16 : List Nat := [0, 1, 3, 0, 8, 24, 63, 127, 255, 511, 1023]
theorem isobathlaw02_MooringFreer.tab16 : rtab .any (opsOf Try.f6 16) = isobathlaw02_MooringFreer.T16 := by kernel_rfl
theorem isobathlaw02_MooringFreer.bits16 : waitsOk isobathlaw02_MooringFreer.T16.2 isobathlaw02_MooringFreer.B16 = true := by kernel_rfl
set_option maxHeartbeats 8000000 in
set_option maxRecDepth 100000 in
theorem isobathlaw02_MooringFreer.calls (k : Nat) (a0_0 : Int) (A0_1 : Option Addr) (c0_1 : Nat) (l0_1 : List (S46)) (a0_2 : Int) (a0_3 : Int) (A1 : Option Addr) (c1 : Nat) (l1 : List (S57)) (r : Bool) (w : World) (hr0_1 : Kd.C k46 w A0_1 l0_1.length l0_1) (hc0_1 : l0_1.length ≤ c0_1) (hr1 : Kd.C k57 w A1 l1.length l1) (hc1 : l1.length ≤ c1) (h : isobathlaw02_MooringFreer.f k a0_0 l0_1 a0_2 a0_3 l1 = some r) :
    Calls Try.prog 6 #[.agg #[.int .i64 a0_0, .slice A0_1 l0_1.length c0_1, .int .i64 a0_2, .int .i64 a0_3], .slice A1 l1.length c1] w fun e w' => e = .returned (.bool r) ∧ Below w.heap.size w w' := by
  have hu37 := Try.underlying37
  have hu57 := Try.underlying57
  have HR0_1 := Aside0.mk hr0_1
  have HC0_1 := Aside0.mk hc0_1
  clear hr0_1 hc0_1
  have HR1 := Aside0.mk hr1
  have HC1 := Aside0.mk hc1
  clear hr1 hc1
  have HB := Aside0.mk (Below.refl w.heap.size w)
  have H : ((isobathlaw02_valid.f k a0_0 l0_1 a0_2 a0_3 l1).bind fun t102 => (if t102 = true then ((mooring_Pulls.f a0_0 l0_1 a0_2 a0_3 l1 false).bind fun bt104 => ((mooring_Pulls.f a0_0 l0_1 a0_2 a0_3 l1 true).bind fun bt108 => ((mooring_Shape.f a0_0 l0_1 a0_2 a0_3 l1 false).bind fun bt112 => ((mooring_Shape.f a0_0 l0_1 a0_2 a0_3 l1 true).bind fun bt119 => ((mooring_Circle.f a0_0 l0_1 a0_2 a0_3 l1 false).bind fun bt126 => ((mooring_Circle.f a0_0 l0_1 a0_2 a0_3 l1 true).bind fun bt128 => (if (wrap64 ((wrap64 ((wrap64 ((wrap64 ((wrap64 (bt104.2 + bt108.2)) + bt112.2.2)) + bt119.2.2)) + bt126.2)) + bt128.2)) = 0 then ((isobathlaw02_inside.f k bt104.1 bt108.1).bind fun t130 => (if t130 = true then ((isobathlaw02_inside.f k bt112.1 bt119.1).bind fun t131 => (if t131 = true then ((isobathlaw02_inside.f k bt112.2.1 bt119.2.1).bind fun t132 => (if t132 = true then (if bt126.1 = bt128.1 then (isobathlaw02_MooringFreer.j0 k bt104.1 bt108.1 ((bt104.1.length : Int) == 0)) else (none)) else (none))) else (none))) else (none))) else (none)))))))) else ((isobathlaw02_fine.f k).bind fun t103 => (some t103)))) = some r := h
  clear h
  replace H := Option.bind_eq_some_iff.mp H
  obtain ⟨t102, A30, H⟩ := H
  replace H : (if t102 = true then ((mooring_Pulls.f a0_0 l0_1 a0_2 a0_3 l1 false).bind fun bt104 => ((mooring_Pulls.f a0_0 l0_1 a0_2 a0_3 l1 true).bind fun bt108 => ((mooring_Shape.f a0_0 l0_1 a0_2 a0_3 l1 false).bind fun bt112 => ((mooring_Shape.f a0_0 l0_1 a0_2 a0_3 l1 true).bind fun bt119 => ((mooring_Circle.f a0_0 l0_1 a0_2 a0_3 l1 false).bind fun bt126 => ((mooring_Circle.f a0_0 l0_1 a0_2 a0_3 l1 true).bind fun bt128 => (if (wrap64 ((wrap64 ((wrap64 ((wrap64 ((wrap64 (bt104.2 + bt108.2)) + bt112.2.2)) + bt119.2.2)) + bt126.2)) + bt128.2)) = 0 then ((isobathlaw02_inside.f k bt104.1 bt108.1).bind fun t130 => (if t130 = true then ((isobathlaw02_inside.f k bt112.1 bt119.1).bind fun t131 => (if t131 = true then ((isobathlaw02_inside.f k bt112.2.1 bt119.2.1).bind fun t132 => (if t132 = true then (if bt126.1 = bt128.1 then (isobathlaw02_MooringFreer.j0 k bt104.1 bt108.1 ((bt104.1.length : Int) == 0)) else (none)) else (none))) else (none))) else (none))) else (none)))))))) else ((isobathlaw02_fine.f k).bind fun t103 => (some t103))) = some r := H
  have A3 := Aside0.mk A30
  clear A30
  by_cases c4 : t102 = true
  · subst c4
    have H1 : ((mooring_Pulls.f a0_0 l0_1 a0_2 a0_3 l1 false).bind fun bt104 => ((mooring_Pulls.f a0_0 l0_1 a0_2 a0_3 l1 true).bind fun bt108 => ((mooring_Shape.f a0_0 l0_1 a0_2 a0_3 l1 false).bind fun bt112 => ((mooring_Shape.f a0_0 l0_1 a0_2 a0_3 l1 true).bind fun bt119 => ((mooring_Circle.f a0_0 l0_1 a0_2 a0_3 l1 false).bind fun bt126 => ((mooring_Circle.f a0_0 l0_1 a0_2 a0_3 l1 true).bind fun bt128 => (if (wrap64 ((wrap64 ((wrap64 ((wrap64 ((wrap64 (bt104.2 + bt108.2)) + bt112.2.2)) + bt119.2.2)) + bt126.2)) + bt128.2)) = 0 then ((isobathlaw02_inside.f k bt104.1 bt108.1).bind fun t130 => (if t130 = true then ((isobathlaw02_inside.f k bt112.1 bt119.1).bind fun t131 => (if t131 = true then ((isobathlaw02_inside.f k bt112.2.1 bt119.2.1).bind fun t132 => (if t132 = true then (if bt126.1 = bt128.1 then (isobathlaw02_MooringFreer.j0 k bt104.1 bt108.1 ((bt104.1.length : Int) == 0)) else (none)) else (none))) else (none))) else (none))) else (none)))))))) = some r := by rw [if_pos rfl] at H; exact H
    clear H
    have H := H1
    clear H1
    replace H := Option.bind_eq_some_iff.mp H
    obtain ⟨⟨t104, t107⟩, A50, H⟩ := H
    replace H : ((mooring_Pulls.f a0_0 l0_1 a0_2 a0_3 l1 true).bind fun bt108 => ((mooring_Shape.f a0_0 l0_1 a0_2 a0_3 l1 false).bind fun bt112 => ((mooring_Shape.f a0_0 l0_1 a0_2 a0_3 l1 true).bind fun bt119 => ((mooring_Circle.f a0_0 l0_1 a0_2 a0_3 l1 false).bind fun bt126 => ((mooring_Circle.f a0_0 l0_1 a0_2 a0_3 l1 true).bind fun bt128 => (if (wrap64 ((wrap64 ((wrap64 ((wrap64 ((wrap64 (t107 + bt108.2)) + bt112.2.2)) + bt119.2.2)) + bt126.2)) + bt128.2)) = 0 then ((isobathlaw02_inside.f k t104 bt108.1).bind fun t130 => (if t130 = true then ((isobathlaw02_inside.f k bt112.1 bt119.1).bind fun t131 => (if t131 = true then ((isobathlaw02_inside.f k bt112.2.1 bt119.2.1).bind fun t132 => (if t132 = true then (if bt126.1 = bt128.1 then (isobathlaw02_MooringFreer.j0 k t104 bt108.1 ((t104.length : Int) == 0)) else (none)) else (none))) else (none))) else (none))) else (none))))))) = some r := H
    have A5 := Aside0.mk A50
    clear A50
    replace H := Option.bind_eq_some_iff.mp H
    obtain ⟨⟨t108, t111⟩, A60, H⟩ := H
    replace H : ((mooring_Shape.f a0_0 l0_1 a0_2 a0_3 l1 false).bind fun bt112 => ((mooring_Shape.f a0_0 l0_1 a0_2 a0_3 l1 true).bind fun bt119 => ((mooring_Circle.f a0_0 l0_1 a0_2 a0_3 l1 false).bind fun bt126 => ((mooring_Circle.f a0_0 l0_1 a0_2 a0_3 l1 true).bind fun bt128 => (if (wrap64 ((wrap64 ((wrap64 ((wrap64 ((wrap64 (t107 + t111)) + bt112.2.2)) + bt119.2.2)) + bt126.2)) + bt128.2)) = 0 then ((isobathlaw02_inside.f k t104 t108).bind fun t130 => (if t130 = true then ((isobathlaw02_inside.f k bt112.1 bt119.1).bind fun t131 => (if t131 = true then ((isobathlaw02_inside.f k bt112.2.1 bt119.2.1).bind fun t132 => (if t132 = true then (if bt126.1 = bt128.1 then (isobathlaw02_MooringFreer.j0 k t104 t108 ((t104.length : Int) == 0)) else (none)) else (none))) else (none))) else (none))) else (none)))))) = some r := H
    have A6 := Aside0.mk A60
    clear A60
    replace H := Option.bind_eq_some_iff.mp H
    obtain ⟨⟨t112, t115, t118⟩, A70, H⟩ := H
    replace H : ((mooring_Shape.f a0_0 l0_1 a0_2 a0_3 l1 true).bind fun bt119 => ((mooring_Circle.f a0_0 l0_1 a0_2 a0_3 l1 false).bind fun bt126 => ((mooring_Circle.f a0_0 l0_1 a0_2 a0_3 l1 true).bind fun bt128 => (if (wrap64 ((wrap64 ((wrap64 ((wrap64 ((wrap64 (t107 + t111)) + t118)) + bt119.2.2)) + bt126.2)) + bt128.2)) = 0 then ((isobathlaw02_inside.f k t104 t108).bind fun t130 => (if t130 = true then ((isobathlaw02_inside.f k t112 bt119.1).bind fun t131 => (if t131 = true then ((isobathlaw02_inside.f k t115 bt119.2.1).bind fun t132 => (if t132 = true then (if bt126.1 = bt128.1 then (isobathlaw02_MooringFreer.j0 k t104 t108 ((t104.length : Int) == 0)) else (none)) else (none))) else (none))) else (none))) else (none))))) = some r := H
    have A7 := Aside0.mk A70
    clear A70
    replace H := Option.bind_eq_some_iff.mp H
    obtain ⟨⟨t119, t122, t125⟩, A80, H⟩ := H
    replace H : ((mooring_Circle.f a0_0 l0_1 a0_2 a0_3 l1 false).bind fun bt126 => ((mooring_Circle.f a0_0 l0_1 a0_2 a0_3 l1 true).bind fun bt128 => (if (wrap64 ((wrap64 ((wrap64 ((wrap64 ((wrap64 (t107 + t111)) + t118)) + t125)) + bt126.2)) + bt128.2)) = 0 then ((isobathlaw02_inside.f k t104 t108).bind fun t130 => (if t130 = true then ((isobathlaw02_inside.f k t112 t119).bind fun t131 => (if t131 = true then ((isobathlaw02_inside.f k t115 t122).bind fun t132 => (if t132 = true then (if bt126.1 = bt128.1 then (isobathlaw02_MooringFreer.j0 k t104 t108 ((t104.length : Int) == 0)) else (none)) else (none))) else (none))) else (none))) else (none)))) = some r := H
    have A8 := Aside0.mk A80
    clear A80
    replace H := Option.bind_eq_some_iff.mp H
    obtain ⟨⟨t126, t127⟩, A90, H⟩ := H
    replace H : ((mooring_Circle.f a0_0 l0_1 a0_2 a0_3 l1 true).bind fun bt128 => (if (wrap64 ((wrap64 ((wrap64 ((wrap64 ((wrap64 (t107 + t111)) + t118)) + t125)) + t127)) + bt128.2)) = 0 then ((isobathlaw02_inside.f k t104 t108).bind fun t130 => (if t130 = true then ((isobathlaw02_inside.f k t112 t119).bind fun t131 => (if t131 = true then ((isobathlaw02_inside.f k t115 t122).bind fun t132 => (if t132 = true then (if t126 = bt128.1 then (isobathlaw02_MooringFreer.j0 k t104 t108 ((t104.length : Int) == 0)) else (none)) else (none))) else (none))) else (none))) else (none))) = some r := H
    have A9 := Aside0.mk A90
    clear A90
    replace H := Option.bind_eq_some_iff.mp H
    obtain ⟨⟨t128, t129⟩, A100, H⟩ := H
    replace H : (if (wrap64 ((wrap64 ((wrap64 ((wrap64 ((wrap64 (t107 + t111)) + t118)) + t125)) + t127)) + t129)) = 0 then ((isobathlaw02_inside.f k t104 t108).bind fun t130 => (if t130 = true then ((isobathlaw02_inside.f k t112 t119).bind fun t131 => (if t131 = true then ((isobathlaw02_inside.f k t115 t122).bind fun t132 => (if t132 = true then (if t126 = t128 then (isobathlaw02_MooringFreer.j0 k t104 t108 ((t104.length : Int) == 0)) else (none)) else (none))) else (none))) else (none))) else (none)) = some r := H
    have A10 := Aside0.mk A100
    clear A100
    have HC11 := Aside0.mk H
    clear H
    go_enter Try.func6, Try.ntmps6
    go_upto_region 9 with (first | ((with_reducible refine gate_dst (N := 2) rfl ?_); (try (refine gate_guard (by rfl) ?_; dsimp only)); refine box_event ?hg (N := 2) ?hd (cs := #[.int .i64 a0_0, .slice A0_1 l0_1.length c0_1, .int .i64 a0_2, .int .i64 a0_3]) (t := 37) ?hr ?_; (case hd => rfl); (case hg => rfl); (case hr => first | (go_simp; done) | (go_simp; rfl)); intro gb101 hg w12 hbox hb; have n0_ := Aside0.mk (below_step (by repeat (first | (with_reducible first | exact HB.out | apply below_alloc | apply pw_below_drewN | apply below_drew1) | exact HB.out)) hb); have n1_ := Aside0.mk (hbox); have n2_ := Aside0.mk ((by rw [hg]; exact (below_size (by repeat (first | (with_reducible first | exact HB.out | apply below_alloc | apply pw_below_drewN | apply below_drew1) | exact HB.out))) : w.heap.size ≤ gb101)); have n3_ := Aside0.mk ((by rw [hg]; exact (below_size (by repeat (first | (with_reducible first | exact HB.out | apply below_alloc | apply pw_below_drewN | apply below_drew1) | exact HB.out))) : w.heap.size ≤ gb101)); clear HB; have HB := n0_; have BK101 := n1_; have GW101 := n2_; have GE101 := n3_; clear n0_ n1_ n2_ n3_; clear hb hbox hg; have hcz13_0 : w12.cell? ⟨gb101, 0, none⟩ = some (.int .i64 a0_0) := (blk_cell BK101.out 0).trans rfl; have hcz13_1 : w12.cell? ⟨gb101, 1, none⟩ = some (.slice A0_1 l0_1.length c0_1) := (blk_cell BK101.out 1).trans rfl; have hcz13_2 : w12.cell? ⟨gb101, 2, none⟩ = some (.int .i64 a0_2) := (blk_cell BK101.out 2).trans rfl; have hcz13_3 : w12.cell? ⟨gb101, 3, none⟩ = some (.int .i64 a0_3) := (blk_cell BK101.out 3).trans rfl; have hfz13_0 := blk_frozen BK101.out 0; have hfz13_1 := blk_frozen BK101.out 1; have hfz13_2 := blk_frozen BK101.out 2; have hfz13_3 := blk_frozen BK101.out 3) | ((with_reducible refine gate_callee (f := 25) rfl ?_); refine goesL_ (some 22) rfl rfl Try.func25 (by kernel_rfl) rfl #[.agg #[.int .i64 a0_0, .slice A0_1 l0_1.length c0_1, .int .i64 a0_2, .int .i64 a0_3], .slice A1 l1.length c1] rfl (by (try simp only [List.map_toArray, List.map_cons, List.map_nil]); first | done | rfl | (simp only [List.length_drop, List.length_take]; rfl)) ?_; (with_reducible refine (isobathlaw02_valid.calls k a0_0 _ _ l0_1 a0_2 a0_3 _ _ l1 true _ ?side1 ?side2 ?side3 ?side4 A3.out).mono ?_); (case side1 => repeat (first | exact (Kd.C_below HR0_1.out HB.out) | (with_reducible refine Kd.C_alloc ?_ _) | (with_reducible refine Kd.C_drewN ?_ _) | (with_reducible refine Kd.C_drew ?_))); (case side2 => exact HC0_1.out); (case side3 => repeat (first | exact (Kd.C_below HR1.out HB.out) | (with_reducible refine Kd.C_alloc ?_ _) | (with_reducible refine Kd.C_drewN ?_ _) | (with_reducible refine Kd.C_drew ?_))); (case side4 => exact HC1.out); rintro e w14 ⟨rfl, hb⟩; refine ⟨_, rfl, ?_⟩; have n0_ := Aside0.mk (blk_below (g := gb101) (o := .cells #[.int .i64 a0_0, .slice A0_1 l0_1.length c0_1, .int .i64 a0_2, .int .i64 a0_3] 37 (0, 0)) (by (with_reducible repeat (first | refine blk_drewN ?_ _ | refine blk_drew ?_ | refine blk_alloc ?_ _)); exact BK101.out) hb); have n1_ := Aside0.mk (below_step (by repeat (first | (with_reducible first | exact HB.out | apply below_alloc | apply pw_below_drewN | apply below_drew1 | refine below_set ?_ GE101.out) | exact HB.out)) hb); clear BK101; clear HB; have BK101 := n0_; have HB := n1_; clear n0_ n1_; (try clear hb); (try clear hb2); (try clear hk); (try clear hi); have hcz15_0 : w14.cell? ⟨gb101, 0, none⟩ = some (.int .i64 a0_0) := (blk_cell BK101.out 0).trans rfl; have hcz15_1 : w14.cell? ⟨gb101, 1, none⟩ = some (.slice A0_1 l0_1.length c0_1) := (blk_cell BK101.out 1).trans rfl; have hcz15_2 : w14.cell? ⟨gb101, 2, none⟩ = some (.int .i64 a0_2) := (blk_cell BK101.out 2).trans rfl; have hcz15_3 : w14.cell? ⟨gb101, 3, none⟩ = some (.int .i64 a0_3) := (blk_cell BK101.out 3).trans rfl; have hfz15_0 := blk_frozen BK101.out 0; have hfz15_1 := blk_frozen BK101.out 1; have hfz15_2 := blk_frozen BK101.out 2; have hfz15_3 := blk_frozen BK101.out 3) | ((with_reducible refine gate_callee (f := 26) rfl ?_); refine goesL_ (some 28) rfl rfl Try.func26 (by kernel_rfl) rfl #[.agg #[.int .i64 a0_0, .slice A0_1 l0_1.length c0_1, .int .i64 a0_2, .int .i64 a0_3], .slice A1 l1.length c1, .bool false] rfl (by (try simp only [List.map_toArray, List.map_cons, List.map_nil]); first | done | rfl | (simp only [List.length_drop, List.length_take]; rfl)) ?_; (with_reducible refine (mooring_Pulls.calls a0_0 _ _ l0_1 a0_2 a0_3 _ _ l1 false t104 t107 _ ?side1 ?side2 ?side3 ?side4 A5.out).mono ?_); (case side1 => repeat (first | exact (Kd.C_below HR0_1.out HB.out) | (with_reducible refine Kd.C_alloc ?_ _) | (with_reducible refine Kd.C_drewN ?_ _) | (with_reducible refine Kd.C_drew ?_))); (case side2 => exact HC0_1.out); (case side3 => repeat (first | exact (Kd.C_below HR1.out HB.out) | (with_reducible refine Kd.C_alloc ?_ _) | (with_reducible refine Kd.C_drewN ?_ _) | (with_reducible refine Kd.C_drew ?_))); (case side4 => exact HC1.out); rintro e w16 ⟨v105, rfl, ho0, hb⟩; refine ⟨_, rfl, ?_⟩; have n0_ := Aside0.mk (Kd.R_lower ho0 (below_size (by repeat (first | (with_reducible first | exact HB.out | apply below_alloc | apply pw_below_drewN | apply below_drew1 | refine below_set ?_ GE101.out) | exact HB.out)))); have n1_ := Aside0.mk (blk_below (g := gb101) (o := .cells #[.int .i64 a0_0, .slice A0_1 l0_1.length c0_1, .int .i64 a0_2, .int .i64 a0_3] 37 (0, 0)) (by (with_reducible repeat (first | refine blk_drewN ?_ _ | refine blk_drew ?_ | refine blk_alloc ?_ _)); exact BK101.out) hb); have n2_ := Aside0.mk (below_step (by repeat (first | (with_reducible first | exact HB.out | apply below_alloc | apply pw_below_drewN | apply below_drew1 | refine below_set ?_ GE101.out) | exact HB.out)) hb); clear BK101; clear HB; have HO106 := n0_; have BK101 := n1_; have HB := n2_; clear n0_ n1_ n2_; (try clear hb); (try clear hb2); (try clear hk); (try clear hi); (try clear ho0); have hcz17_0 : w16.cell? ⟨gb101, 0, none⟩ = some (.int .i64 a0_0) := (blk_cell BK101.out 0).trans rfl; have hcz17_1 : w16.cell? ⟨gb101, 1, none⟩ = some (.slice A0_1 l0_1.length c0_1) := (blk_cell BK101.out 1).trans rfl; have hcz17_2 : w16.cell? ⟨gb101, 2, none⟩ = some (.int .i64 a0_2) := (blk_cell BK101.out 2).trans rfl; have hcz17_3 : w16.cell? ⟨gb101, 3, none⟩ = some (.int .i64 a0_3) := (blk_cell BK101.out 3).trans rfl; have hfz17_0 := blk_frozen BK101.out 0; have hfz17_1 := blk_frozen BK101.out 1; have hfz17_2 := blk_frozen BK101.out 2; have hfz17_3 := blk_frozen BK101.out 3) | ((with_reducible refine gate_callee (f := 26) rfl ?_); refine goesL_ (some 34) rfl rfl Try.func26 (by kernel_rfl) rfl #[.agg #[.int .i64 a0_0, .slice A0_1 l0_1.length c0_1, .int .i64 a0_2, .int .i64 a0_3], .slice A1 l1.length c1, .bool true] rfl (by (try simp only [List.map_toArray, List.map_cons, List.map_nil]); first | done | rfl | (simp only [List.length_drop, List.length_take]; rfl)) ?_; (with_reducible refine (mooring_Pulls.calls a0_0 _ _ l0_1 a0_2 a0_3 _ _ l1 true t108 t111 _ ?side1 ?side2 ?side3 ?side4 A6.out).mono ?_); (case side1 => repeat (first | exact (Kd.C_below HR0_1.out HB.out) | (with_reducible refine Kd.C_alloc ?_ _) | (with_reducible refine Kd.C_drewN ?_ _) | (with_reducible refine Kd.C_drew ?_))); (case side2 => exact HC0_1.out); (case side3 => repeat (first | exact (Kd.C_below HR1.out HB.out) | (with_reducible refine Kd.C_alloc ?_ _) | (with_reducible refine Kd.C_drewN ?_ _) | (with_reducible refine Kd.C_drew ?_))); (case side4 => exact HC1.out); rintro e w18 ⟨v109, rfl, ho0, hb⟩; refine ⟨_, rfl, ?_⟩; have n0_ := Aside0.mk (Kd.R_elder' (by (with_reducible repeat (first | apply Kd.R_alloc | apply Kd.R_drewN | apply Kd.R_drew)); exact HO106.out) (Kd.R_base ho0) hb); have n1_ := Aside0.mk (Kd.R_lower (Kd.R_new' ho0 (Kd.R_lt (by (with_reducible repeat (first | apply Kd.R_alloc | apply Kd.R_drewN | apply Kd.R_drew)); exact HO106.out))) (below_size (by repeat (first | (with_reducible first | exact HB.out | apply below_alloc | apply pw_below_drewN | apply below_drew1 | refine below_set ?_ GE101.out) | exact HB.out)))); have n2_ := Aside0.mk (blk_below (g := gb101) (o := .cells #[.int .i64 a0_0, .slice A0_1 l0_1.length c0_1, .int .i64 a0_2, .int .i64 a0_3] 37 (0, 0)) (by (with_reducible repeat (first | refine blk_drewN ?_ _ | refine blk_drew ?_ | refine blk_alloc ?_ _)); exact BK101.out) hb); have n3_ := Aside0.mk (below_step (by repeat (first | (with_reducible first | exact HB.out | apply below_alloc | apply pw_below_drewN | apply below_drew1 | refine below_set ?_ GE101.out) | exact HB.out)) hb); clear HO106; clear BK101; clear HB; have HO106 := n0_; have HO110 := n1_; have BK101 := n2_; have HB := n3_; clear n0_ n1_ n2_ n3_; (try clear hb); (try clear hb2); (try clear hk); (try clear hi); (try clear ho0); have hcz19_0 : w18.cell? ⟨gb101, 0, none⟩ = some (.int .i64 a0_0) := (blk_cell BK101.out 0).trans rfl; have hcz19_1 : w18.cell? ⟨gb101, 1, none⟩ = some (.slice A0_1 l0_1.length c0_1) := (blk_cell BK101.out 1).trans rfl; have hcz19_2 : w18.cell? ⟨gb101, 2, none⟩ = some (.int .i64 a0_2) := (blk_cell BK101.out 2).trans rfl; have hcz19_3 : w18.cell? ⟨gb101, 3, none⟩ = some (.int .i64 a0_3) := (blk_cell BK101.out 3).trans rfl; have hfz19_0 := blk_frozen BK101.out 0; have hfz19_1 := blk_frozen BK101.out 1; have hfz19_2 := blk_frozen BK101.out 2; have hfz19_3 := blk_frozen BK101.out 3) | ((with_reducible refine gate_callee (f := 27) rfl ?_); refine goesL_ (some 40) rfl rfl Try.func27 (by kernel_rfl) rfl #[.agg #[.int .i64 a0_0, .slice A0_1 l0_1.length c0_1, .int .i64 a0_2, .int .i64 a0_3], .slice A1 l1.length c1, .bool false] rfl (by (try simp only [List.map_toArray, List.map_cons, List.map_nil]); first | done | rfl | (simp only [List.length_drop, List.length_take]; rfl)) ?_; (with_reducible refine (mooring_Shape.calls a0_0 _ _ l0_1 a0_2 a0_3 _ _ l1 false t112 t115 t118 _ ?side1 ?side2 ?side3 ?side4 A7.out).mono ?_); (case side1 => repeat (first | exact (Kd.C_below HR0_1.out HB.out) | (with_reducible refine Kd.C_alloc ?_ _) | (with_reducible refine Kd.C_drewN ?_ _) | (with_reducible refine Kd.C_drew ?_))); (case side2 => exact HC0_1.out); (case side3 => repeat (first | exact (Kd.C_below HR1.out HB.out) | (with_reducible refine Kd.C_alloc ?_ _) | (with_reducible refine Kd.C_drewN ?_ _) | (with_reducible refine Kd.C_drew ?_))); (case side4 => exact HC1.out); rintro e w20 ⟨v113, v116, rfl, ho0, ho1, hb⟩; refine ⟨_, rfl, ?_⟩; have n0_ := Aside0.mk (Kd.R_mono (Kd.R_told (Kd.R_told (Kd.R_old (by (with_reducible repeat (first | apply Kd.R_alloc | apply Kd.R_drewN | apply Kd.R_drew)); exact HO106.out) hb) (Kd.R_base ho0)) (Kd.R_base ho1)) (fun _ h_ => h_.1)); have n1_ := Aside0.mk (Kd.R_mono (Kd.R_told (Kd.R_told (Kd.R_old (by (with_reducible repeat (first | apply Kd.R_alloc | apply Kd.R_drewN | apply Kd.R_drew)); exact HO110.out) hb) (Kd.R_base ho0)) (Kd.R_base ho1)) (fun _ h_ => h_.1)); have n2_ := Aside0.mk (Kd.R_lower (Kd.R_new' (Kd.R_new' ho0 (Kd.R_lt (by (with_reducible repeat (first | apply Kd.R_alloc | apply Kd.R_drewN | apply Kd.R_drew)); exact HO106.out))) (Kd.R_lt (by (with_reducible repeat (first | apply Kd.R_alloc | apply Kd.R_drewN | apply Kd.R_drew)); exact HO110.out))) (below_size (by repeat (first | (with_reducible first | exact HB.out | apply below_alloc | apply pw_below_drewN | apply below_drew1 | refine below_set ?_ GE101.out) | exact HB.out)))); have n3_ := Aside0.mk (Kd.R_lower (Kd.R_new' (Kd.R_new' ho1 (Kd.R_lt (by (with_reducible repeat (first | apply Kd.R_alloc | apply Kd.R_drewN | apply Kd.R_drew)); exact HO106.out))) (Kd.R_lt (by (with_reducible repeat (first | apply Kd.R_alloc | apply Kd.R_drewN | apply Kd.R_drew)); exact HO110.out))) (below_size (by repeat (first | (with_reducible first | exact HB.out | apply below_alloc | apply pw_below_drewN | apply below_drew1 | refine below_set ?_ GE101.out) | exact HB.out)))); have n4_ := Aside0.mk (blk_below (g := gb101) (o := .cells #[.int .i64 a0_0, .slice A0_1 l0_1.length c0_1, .int .i64 a0_2, .int .i64 a0_3] 37 (0, 0)) (by (with_reducible repeat (first | refine blk_drewN ?_ _ | refine blk_drew ?_ | refine blk_alloc ?_ _)); exact BK101.out) hb); have n5_ := Aside0.mk (below_step (by repeat (first | (with_reducible first | exact HB.out | apply below_alloc | apply pw_below_drewN | apply below_drew1 | refine below_set ?_ GE101.out) | exact HB.out)) hb); clear HO106; clear HO110; clear BK101; clear HB; have HO106 := n0_; have HO110 := n1_; have HO114 := n2_; have HO117 := n3_; have BK101 := n4_; have HB := n5_; clear n0_ n1_ n2_ n3_ n4_ n5_; (try clear hb); (try clear hb2); (try clear hk); (try clear hi); (try clear ho0); (try clear ho1); have hcz21_0 : w20.cell? ⟨gb101, 0, none⟩ = some (.int .i64 a0_0) := (blk_cell BK101.out 0).trans rfl; have hcz21_1 : w20.cell? ⟨gb101, 1, none⟩ = some (.slice A0_1 l0_1.length c0_1) := (blk_cell BK101.out 1).trans rfl; have hcz21_2 : w20.cell? ⟨gb101, 2, none⟩ = some (.int .i64 a0_2) := (blk_cell BK101.out 2).trans rfl; have hcz21_3 : w20.cell? ⟨gb101, 3, none⟩ = some (.int .i64 a0_3) := (blk_cell BK101.out 3).trans rfl; have hfz21_0 := blk_frozen BK101.out 0; have hfz21_1 := blk_frozen BK101.out 1; have hfz21_2 := blk_frozen BK101.out 2; have hfz21_3 := blk_frozen BK101.out 3) | ((with_reducible refine gate_callee (f := 27) rfl ?_); refine goesL_ (some 47) rfl rfl Try.func27 (by kernel_rfl) rfl #[.agg #[.int .i64 a0_0, .slice A0_1 l0_1.length c0_1, .int .i64 a0_2, .int .i64 a0_3], .slice A1 l1.length c1, .bool true] rfl (by (try simp only [List.map_toArray, List.map_cons, List.map_nil]); first | done | rfl | (simp only [List.length_drop, List.length_take]; rfl)) ?_; (with_reducible refine (mooring_Shape.calls a0_0 _ _ l0_1 a0_2 a0_3 _ _ l1 true t119 t122 t125 _ ?side1 ?side2 ?side3 ?side4 A8.out).mono ?_); (case side1 => repeat (first | exact (Kd.C_below HR0_1.out HB.out) | (with_reducible refine Kd.C_alloc ?_ _) | (with_reducible refine Kd.C_drewN ?_ _) | (with_reducible refine Kd.C_drew ?_))); (case side2 => exact HC0_1.out); (case side3 => repeat (first | exact (Kd.C_below HR1.out HB.out) | (with_reducible refine Kd.C_alloc ?_ _) | (with_reducible refine Kd.C_drewN ?_ _) | (with_reducible refine Kd.C_drew ?_))); (case side4 => exact HC1.out); rintro e w22 ⟨v120, v123, rfl, ho0, ho1, hb⟩; refine ⟨_, rfl, ?_⟩; have n0_ := Aside0.mk (Kd.R_mono (Kd.R_told (Kd.R_told (Kd.R_old (by (with_reducible repeat (first | apply Kd.R_alloc | apply Kd.R_drewN | apply Kd.R_drew)); exact HO106.out) hb) (Kd.R_base ho0)) (Kd.R_base ho1)) (fun _ h_ => h_.1)); have n1_ := Aside0.mk (Kd.R_mono (Kd.R_told (Kd.R_told (Kd.R_old (by (with_reducible repeat (first | apply Kd.R_alloc | apply Kd.R_drewN | apply Kd.R_drew)); exact HO110.out) hb) (Kd.R_base ho0)) (Kd.R_base ho1)) (fun _ h_ => h_.1)); have n2_ := Aside0.mk (Kd.R_mono (Kd.R_told (Kd.R_told (Kd.R_old (by (with_reducible repeat (first | apply Kd.R_alloc | apply Kd.R_drewN | apply Kd.R_drew)); exact HO114.out) hb) (Kd.R_base ho0)) (Kd.R_base ho1)) (fun _ h_ => h_.1)); have n3_ := Aside0.mk (Kd.R_mono (Kd.R_told (Kd.R_told (Kd.R_old (by (with_reducible repeat (first | apply Kd.R_alloc | apply Kd.R_drewN | apply Kd.R_drew)); exact HO117.out) hb) (Kd.R_base ho0)) (Kd.R_base ho1)) (fun _ h_ => h_.1)); have n4_ := Aside0.mk (Kd.R_lower (Kd.R_new' (Kd.R_new' (Kd.R_new' (Kd.R_new' ho0 (Kd.R_lt (by (with_reducible repeat (first | apply Kd.R_alloc | apply Kd.R_drewN | apply Kd.R_drew)); exact HO106.out))) (Kd.R_lt (by (with_reducible repeat (first | apply Kd.R_alloc | apply Kd.R_drewN | apply Kd.R_drew)); exact HO110.out))) (Kd.R_lt (by (with_reducible repeat (first | apply Kd.R_alloc | apply Kd.R_drewN | apply Kd.R_drew)); exact HO114.out))) (Kd.R_lt (by (with_reducible repeat (first | apply Kd.R_alloc | apply Kd.R_drewN | apply Kd.R_drew)); exact HO117.out))) (below_size (by repeat (first | (with_reducible first | exact HB.out | apply below_alloc | apply pw_below_drewN | apply below_drew1 | refine below_set ?_ GE101.out) | exact HB.out)))); have n5_ := Aside0.mk (Kd.R_lower (Kd.R_new' (Kd.R_new' (Kd.R_new' (Kd.R_new' ho1 (Kd.R_lt (by (with_reducible repeat (first | apply Kd.R_alloc | apply Kd.R_drewN | apply Kd.R_drew)); exact HO106.out))) (Kd.R_lt (by (with_reducible repeat (first | apply Kd.R_alloc | apply Kd.R_drewN | apply Kd.R_drew)); exact HO110.out))) (Kd.R_lt (by (with_reducible repeat (first | apply Kd.R_alloc | apply Kd.R_drewN | apply Kd.R_drew)); exact HO114.out))) (Kd.R_lt (by (with_reducible repeat (first | apply Kd.R_alloc | apply Kd.R_drewN | apply Kd.R_drew)); exact HO117.out))) (below_size (by repeat (first | (with_reducible first | exact HB.out | apply below_alloc | apply pw_below_drewN | apply below_drew1 | refine below_set ?_ GE101.out) | exact HB.out)))); have n6_ := Aside0.mk (blk_below (g := gb101) (o := .cells #[.int .i64 a0_0, .slice A0_1 l0_1.length c0_1, .int .i64 a0_2, .int .i64 a0_3] 37 (0, 0)) (by (with_reducible repeat (first | refine blk_drewN ?_ _ | refine blk_drew ?_ | refine blk_alloc ?_ _)); exact BK101.out) hb); have n7_ := Aside0.mk (below_step (by repeat (first | (with_reducible first | exact HB.out | apply below_alloc | apply pw_below_drewN | apply below_drew1 | refine below_set ?_ GE101.out) | exact HB.out)) hb); clear HO106; clear HO110; clear HO114; clear HO117; clear BK101; clear HB; have HO106 := n0_; have HO110 := n1_; have HO114 := n2_; have HO117 := n3_; have HO121 := n4_; have HO124 := n5_; have BK101 := n6_; have HB := n7_; clear n0_ n1_ n2_ n3_ n4_ n5_ n6_ n7_; (try clear hb); (try clear hb2); (try clear hk); (try clear hi); (try clear ho0); (try clear ho1); have hcz23_0 : w22.cell? ⟨gb101, 0, none⟩ = some (.int .i64 a0_0) := (blk_cell BK101.out 0).trans rfl; have hcz23_1 : w22.cell? ⟨gb101, 1, none⟩ = some (.slice A0_1 l0_1.length c0_1) := (blk_cell BK101.out 1).trans rfl; have hcz23_2 : w22.cell? ⟨gb101, 2, none⟩ = some (.int .i64 a0_2) := (blk_cell BK101.out 2).trans rfl; have hcz23_3 : w22.cell? ⟨gb101, 3, none⟩ = some (.int .i64 a0_3) := (blk_cell BK101.out 3).trans rfl; have hfz23_0 := blk_frozen BK101.out 0; have hfz23_1 := blk_frozen BK101.out 1; have hfz23_2 := blk_frozen BK101.out 2; have hfz23_3 := blk_frozen BK101.out 3) | ((with_reducible refine gate_callee (f := 28) rfl ?_); refine goesL_ (some 54) rfl rfl Try.func28 (by kernel_rfl) rfl #[.agg #[.int .i64 a0_0, .slice A0_1 l0_1.length c0_1, .int .i64 a0_2, .int .i64 a0_3], .slice A1 l1.length c1, .bool false] rfl (by (try simp only [List.map_toArray, List.map_cons, List.map_nil]); first | done | rfl | (simp only [List.length_drop, List.length_take]; rfl)) ?_; (with_reducible refine (mooring_Circle.calls a0_0 _ _ l0_1 a0_2 a0_3 _ _ l1 false t126 t127 _ ?side1 ?side2 ?side3 ?side4 A9.out).mono ?_); (case side1 => repeat (first | exact (Kd.C_below HR0_1.out HB.out) | (with_reducible refine Kd.C_alloc ?_ _) | (with_reducible refine Kd.C_drewN ?_ _) | (with_reducible refine Kd.C_drew ?_))); (case side2 => exact HC0_1.out); (case side3 => repeat (first | exact (Kd.C_below HR1.out HB.out) | (with_reducible refine Kd.C_alloc ?_ _) | (with_reducible refine Kd.C_drewN ?_ _) | (with_reducible refine Kd.C_drew ?_))); (case side4 => exact HC1.out); rintro e w24 ⟨rfl, hb⟩; refine ⟨_, rfl, ?_⟩; have n0_ := Aside0.mk (Kd.R_below (by (with_reducible repeat (first | apply Kd.R_alloc | apply Kd.R_drewN | apply Kd.R_drew)); exact HO106.out) hb); have n1_ := Aside0.mk (Kd.R_below (by (with_reducible repeat (first | apply Kd.R_alloc | apply Kd.R_drewN | apply Kd.R_drew)); exact HO110.out) hb); have n2_ := Aside0.mk (Kd.R_below (by (with_reducible repeat (first | apply Kd.R_alloc | apply Kd.R_drewN | apply Kd.R_drew)); exact HO114.out) hb); have n3_ := Aside0.mk (Kd.R_below (by (with_reducible repeat (first | apply Kd.R_alloc | apply Kd.R_drewN | apply Kd.R_drew)); exact HO117.out) hb); have n4_ := Aside0.mk (Kd.R_below (by (with_reducible repeat (first | apply Kd.R_alloc | apply Kd.R_drewN | apply Kd.R_drew)); exact HO121.out) hb); have n5_ := Aside0.mk (Kd.R_below (by (with_reducible repeat (first | apply Kd.R_alloc | apply Kd.R_drewN | apply Kd.R_drew)); exact HO124.out) hb); have n6_ := Aside0.mk (blk_below (g := gb101) (o := .cells #[.int .i64 a0_0, .slice A0_1 l0_1.length c0_1, .int .i64 a0_2, .int .i64 a0_3] 37 (0, 0)) (by (with_reducible repeat (first | refine blk_drewN ?_ _ | refine blk_drew ?_ | refine blk_alloc ?_ _)); exact BK101.out) hb); have n7_ := Aside0.mk (below_step (by repeat (first | (with_reducible first | exact HB.out | apply below_alloc | apply pw_below_drewN | apply below_drew1 | refine below_set ?_ GE101.out) | exact HB.out)) hb); clear HO106; clear HO110; clear HO114; clear HO117; clear HO121; clear HO124; clear BK101; clear HB; have HO106 := n0_; have HO110 := n1_; have HO114 := n2_; have HO117 := n3_; have HO121 := n4_; have HO124 := n5_; have BK101 := n6_; have HB := n7_; clear n0_ n1_ n2_ n3_ n4_ n5_ n6_ n7_; (try clear hb); (try clear hb2); (try clear hk); (try clear hi); have hcz25_0 : w24.cell? ⟨gb101, 0, none⟩ = some (.int .i64 a0_0) := (blk_cell BK101.out 0).trans rfl; have hcz25_1 : w24.cell? ⟨gb101, 1, none⟩ = some (.slice A0_1 l0_1.length c0_1) := (blk_cell BK101.out 1).trans rfl; have hcz25_2 : w24.cell? ⟨gb101, 2, none⟩ = some (.int .i64 a0_2) := (blk_cell BK101.out 2).trans rfl; have hcz25_3 : w24.cell? ⟨gb101, 3, none⟩ = some (.int .i64 a0_3) := (blk_cell BK101.out 3).trans rfl; have hfz25_0 := blk_frozen BK101.out 0; have hfz25_1 := blk_frozen BK101.out 1; have hfz25_2 := blk_frozen BK101.out 2; have hfz25_3 := blk_frozen BK101.out 3) | ((with_reducible refine gate_callee (f := 28) rfl ?_); refine goesL_ (some 60) rfl rfl Try.func28 (by kernel_rfl) rfl #[.agg #[.int .i64 a0_0, .slice A0_1 l0_1.length c0_1, .int .i64 a0_2, .int .i64 a0_3], .slice A1 l1.length c1, .bool true] rfl (by (try simp only [List.map_toArray, List.map_cons, List.map_nil]); first | done | rfl | (simp only [List.length_drop, List.length_take]; rfl)) ?_; (with_reducible refine (mooring_Circle.calls a0_0 _ _ l0_1 a0_2 a0_3 _ _ l1 true t128 t129 _ ?side1 ?side2 ?side3 ?side4 A10.out).mono ?_); (case side1 => repeat (first | exact (Kd.C_below HR0_1.out HB.out) | (with_reducible refine Kd.C_alloc ?_ _) | (with_reducible refine Kd.C_drewN ?_ _) | (with_reducible refine Kd.C_drew ?_))); (case side2 => exact HC0_1.out); (case side3 => repeat (first | exact (Kd.C_below HR1.out HB.out) | (with_reducible refine Kd.C_alloc ?_ _) | (with_reducible refine Kd.C_drewN ?_ _) | (with_reducible refine Kd.C_drew ?_))); (case side4 => exact HC1.out); rintro e w26 ⟨rfl, hb⟩; refine ⟨_, rfl, ?_⟩; have n0_ := Aside0.mk (Kd.R_below (by (with_reducible repeat (first | apply Kd.R_alloc | apply Kd.R_drewN | apply Kd.R_drew)); exact HO106.out) hb); have n1_ := Aside0.mk (Kd.R_below (by (with_reducible repeat (first | apply Kd.R_alloc | apply Kd.R_drewN | apply Kd.R_drew)); exact HO110.out) hb); have n2_ := Aside0.mk (Kd.R_below (by (with_reducible repeat (first | apply Kd.R_alloc | apply Kd.R_drewN | apply Kd.R_drew)); exact HO114.out) hb); have n3_ := Aside0.mk (Kd.R_below (by (with_reducible repeat (first | apply Kd.R_alloc | apply Kd.R_drewN | apply Kd.R_drew)); exact HO117.out) hb); have n4_ := Aside0.mk (Kd.R_below (by (with_reducible repeat (first | apply Kd.R_alloc | apply Kd.R_drewN | apply Kd.R_drew)); exact HO121.out) hb); have n5_ := Aside0.mk (Kd.R_below (by (with_reducible repeat (first | apply Kd.R_alloc | apply Kd.R_drewN | apply Kd.R_drew)); exact HO124.out) hb); have n6_ := Aside0.mk (blk_below (g := gb101) (o := .cells #[.int .i64 a0_0, .slice A0_1 l0_1.length c0_1, .int .i64 a0_2, .int .i64 a0_3] 37 (0, 0)) (by (with_reducible repeat (first | refine blk_drewN ?_ _ | refine blk_drew ?_ | refine blk_alloc ?_ _)); exact BK101.out) hb); have n7_ := Aside0.mk (below_step (by repeat (first | (with_reducible first | exact HB.out | apply below_alloc | apply pw_below_drewN | apply below_drew1 | refine below_set ?_ GE101.out) | exact HB.out)) hb); clear HO106; clear HO110; clear HO114; clear HO117; clear HO121; clear HO124; clear BK101; clear HB; have HO106 := n0_; have HO110 := n1_; have HO114 := n2_; have HO117 := n3_; have HO121 := n4_; have HO124 := n5_; have BK101 := n6_; have HB := n7_; clear n0_ n1_ n2_ n3_ n4_ n5_ n6_ n7_; (try clear hb); (try clear hb2); (try clear hk); (try clear hi)))
    (try simp only [Act.put, List.setIfInBounds_toArray, List.set_cons_zero, List.set_cons_succ])
    go_cut [102] (fun v102 wc => ∃ (kq : Nat) (x102_10 : Bool), v102 = .bool x102_10 ∧ Aside0 (isobathlaw02_MooringFreer.j0 kq t104 t108 x102_10 = some r) ∧ Aside0 (kq ≤ k) ∧ Aside0 (Kd.R k57 57 wc w.heap.size (fun k_ => some k_ ≠ (v109 : Value).ownBlock) v105 t104) ∧ Aside0 (Kd.R k57 57 wc w.heap.size (fun k_ => some k_ ≠ (v105 : Value).ownBlock) v109 t108) ∧ Aside0 (wc.heap[gb101]? = some (.cells #[.int .i64 a0_0, (.slice A0_1 l0_1.length c0_1), .int .i64 a0_2, .int .i64 a0_3] 37 (0, 0))) ∧ Aside0 (Below w.heap.size w wc))
    case first =>
      have H := HC11.out
      clear HC11
      by_cases c27 : (wrap64 ((wrap64 ((wrap64 ((wrap64 ((wrap64 (t107 + t111)) + t118)) + t125)) + t127)) + t129)) = 0
      · rw [if_pos c27] at H
        have c27b0 : ((wrap64 ((wrap64 ((wrap64 ((wrap64 ((wrap64 (t107 + t111)) + t118)) + t125)) + t127)) + t129)) == 0) = true := beq_iff_eq.mpr c27
        have c27b1 : ((wrap64 ((wrap64 ((wrap64 ((wrap64 ((wrap64 (t107 + t111)) + t118)) + t125)) + t127)) + t129)) != 0) = false := bne_eq_false_iff_eq.mpr c27
        clear c27
        (first | rw [c27b0] | (simp only [i64_w, i32_w]; rw [c27b0]) | skip)
        replace H := Option.bind_eq_some_iff.mp H
        obtain ⟨t130, A280, H⟩ := H
        replace H : (if t130 = true then ((isobathlaw02_inside.f k t112 t119).bind fun t131 => (if t131 = true then ((isobathlaw02_inside.f k t115 t122).bind fun t132 => (if t132 = true then (if t126 = t128 then (isobathlaw02_MooringFreer.j0 k t104 t108 ((t104.length : Int) == 0)) else (none)) else (none))) else (none))) else (none)) = some r := H
        have A28 := Aside0.mk A280
        clear A280
        by_cases c29 : t130 = true
        · subst c29
          have H1 : ((isobathlaw02_inside.f k t112 t119).bind fun t131 => (if t131 = true then ((isobathlaw02_inside.f k t115 t122).bind fun t132 => (if t132 = true then (if t126 = t128 then (isobathlaw02_MooringFreer.j0 k t104 t108 ((t104.length : Int) == 0)) else (none)) else (none))) else (none))) = some r := by rw [if_pos rfl] at H; exact H
          clear H
          have H := H1
          clear H1
          replace H := Option.bind_eq_some_iff.mp H
          obtain ⟨t131, A300, H⟩ := H
          replace H : (if t131 = true then ((isobathlaw02_inside.f k t115 t122).bind fun t132 => (if t132 = true then (if t126 = t128 then (isobathlaw02_MooringFreer.j0 k t104 t108 ((t104.length : Int) == 0)) else (none)) else (none))) else (none)) = some r := H
          have A30 := Aside0.mk A300
          clear A300
          by_cases c31 : t131 = true
          · subst c31
            have H1 : ((isobathlaw02_inside.f k t115 t122).bind fun t132 => (if t132 = true then (if t126 = t128 then (isobathlaw02_MooringFreer.j0 k t104 t108 ((t104.length : Int) == 0)) else (none)) else (none))) = some r := by rw [if_pos rfl] at H; exact H
            clear H
            have H := H1
            clear H1
            replace H := Option.bind_eq_some_iff.mp H
            obtain ⟨t132, A320, H⟩ := H
            replace H : (if t132 = true then (if t126 = t128 then (isobathlaw02_MooringFreer.j0 k t104 t108 ((t104.length : Int) == 0)) else (none)) else (none)) = some r := H
            have A32 := Aside0.mk A320
            clear A320
            by_cases c33 : t132 = true
            · subst c33
              have H1 : (if t126 = t128 then (isobathlaw02_MooringFreer.j0 k t104 t108 ((t104.length : Int) == 0)) else (none)) = some r := by rw [if_pos rfl] at H; exact H
              clear H
              have H := H1
              clear H1
              by_cases c34 : t126 = t128
              · rw [if_pos c34] at H
                have c34b0 : (t126 == t128) = true := beq_iff_eq.mpr c34
                have c34b1 : (t126 != t128) = false := bne_eq_false_iff_eq.mpr c34
                clear c34
                have H' := Aside0.mk H
                clear H
                obtain ⟨Ao35, co35, eo35⟩ := Kd.R_slice HO106.out
                subst eo35
                obtain ⟨Ao36, co36, eo36⟩ := Kd.R_slice HO110.out
                subst eo36
                go_wp2_with (first | (go_at_call 29; (with_reducible refine (isobathlaw02_inside.calls k _ _ t104 _ _ t108 true _ ?side1 ?side2 ?side3 ?side4 A28.out).mono ?_); (case side1 => repeat (first | exact (Kd.R_reads' HO106.out).2.2 | (with_reducible refine Kd.C_alloc ?_ _) | (with_reducible refine Kd.C_drewN ?_ _) | (with_reducible refine Kd.C_drew ?_))); (case side2 => exact (Kd.R_reads' HO106.out).2.1); (case side3 => repeat (first | exact (Kd.R_reads' HO110.out).2.2 | (with_reducible refine Kd.C_alloc ?_ _) | (with_reducible refine Kd.C_drewN ?_ _) | (with_reducible refine Kd.C_drew ?_))); (case side4 => exact (Kd.R_reads' HO110.out).2.1); rintro e w' ⟨rfl, ⟨nd, rfl⟩⟩; obtain ⟨Ao37, co37, eo37⟩ := Kd.R_slice HO114.out; subst eo37; obtain ⟨Ao38, co38, eo38⟩ := Kd.R_slice HO121.out; subst eo38) | (go_at_call 29; (with_reducible refine (isobathlaw02_inside.calls k _ _ t112 _ _ t119 true _ ?side1 ?side2 ?side3 ?side4 A30.out).mono ?_); (case side1 => repeat (first | exact (Kd.R_reads' HO114.out).2.2 | (with_reducible refine Kd.C_alloc ?_ _) | (with_reducible refine Kd.C_drewN ?_ _) | (with_reducible refine Kd.C_drew ?_))); (case side2 => exact (Kd.R_reads' HO114.out).2.1); (case side3 => repeat (first | exact (Kd.R_reads' HO121.out).2.2 | (with_reducible refine Kd.C_alloc ?_ _) | (with_reducible refine Kd.C_drewN ?_ _) | (with_reducible refine Kd.C_drew ?_))); (case side4 => exact (Kd.R_reads' HO121.out).2.1); rintro e w' ⟨rfl, ⟨nd, rfl⟩⟩; obtain ⟨Ao39, co39, eo39⟩ := Kd.R_slice HO117.out; subst eo39; obtain ⟨Ao40, co40, eo40⟩ := Kd.R_slice HO124.out; subst eo40) | (go_at_call 29; (with_reducible refine (isobathlaw02_inside.calls k _ _ t115 _ _ t122 true _ ?side1 ?side2 ?side3 ?side4 A32.out).mono ?_); (case side1 => repeat (first | exact (Kd.R_reads' HO117.out).2.2 | (with_reducible refine Kd.C_alloc ?_ _) | (with_reducible refine Kd.C_drewN ?_ _) | (with_reducible refine Kd.C_drew ?_))); (case side2 => exact (Kd.R_reads' HO117.out).2.1); (case side3 => repeat (first | exact (Kd.R_reads' HO124.out).2.2 | (with_reducible refine Kd.C_alloc ?_ _) | (with_reducible refine Kd.C_drewN ?_ _) | (with_reducible refine Kd.C_drew ?_))); (case side4 => exact (Kd.R_reads' HO124.out).2.1); rintro e w' ⟨rfl, ⟨nd, rfl⟩⟩))
                go_meet
                case rel => exact ⟨_, (((t104.length : Int) == 0)), (by first | rfl | (simp; done) | (simp [*]; done)), H', ⟨by first | omega | exact Nat.le_refl _⟩, ⟨by (with_reducible repeat (first | apply Kd.R_alloc | apply Kd.R_drewN | apply Kd.R_drew)); exact Kd.R_mono HO106.out (fun _ hk => hk.1.1.1.1.2)⟩, ⟨by (with_reducible repeat (first | apply Kd.R_alloc | apply Kd.R_drewN | apply Kd.R_drew)); exact Kd.R_mono HO110.out (fun _ hk => hk.1.1.1.1.2)⟩, ⟨by (with_reducible repeat (first | refine blk_drewN ?_ _ | refine blk_drew ?_ | refine blk_alloc ?_ _)); exact BK101.out⟩, ⟨by repeat (first | (with_reducible first | exact HB.out | apply below_alloc | apply pw_below_drewN | apply below_drew1 | refine below_set ?_ GE101.out) | exact HB.out)⟩⟩
              · rw [if_neg c34] at H
                exact absurd H (by simp)
            · replace c33 := Bool.eq_false_iff.mpr c33
              subst c33
              have H1 : (none) = some r := by rw [if_neg (show ¬ (false = true) by decide)] at H; exact H
              clear H
              have H := H1
              clear H1
              exact absurd H (by simp)
          · replace c31 := Bool.eq_false_iff.mpr c31
            subst c31
            have H1 : (none) = some r := by rw [if_neg (show ¬ (false = true) by decide)] at H; exact H
            clear H
            have H := H1
            clear H1
            exact absurd H (by simp)
        · replace c29 := Bool.eq_false_iff.mpr c29
          subst c29
          have H1 : (none) = some r := by rw [if_neg (show ¬ (false = true) by decide)] at H; exact H
          clear H
          have H := H1
          clear H1
          exact absurd H (by simp)
      · rw [if_neg c27] at H
        exact absurd H (by simp)
    case rest =>
      clear HC11
      try clear c1
      try clear c2
      try clear p2
      try clear c3
      try clear c4
      try clear c6
      try clear p6
      try clear c25
      try clear c26
      try clear c27
      try clear c27b0
      try clear c27b1
      try clear c28
      try clear c29
      try clear c31
      try clear c33
      try clear c34
      try clear c34b0
      try clear c34b1
      try clear hcz13_0
      try clear hcz13_1
      try clear hcz13_2
      try clear hcz13_3
      try clear hcz15_0
      try clear hcz15_1
      try clear hcz15_2
      try clear hcz15_3
      try clear hcz17_0
      try clear hcz17_1
      try clear hcz17_2
      try clear hcz17_3
      try clear hcz19_0
      try clear hcz19_1
      try clear hcz19_2
      try clear hcz19_3
      try clear hcz21_0
      try clear hcz21_1
      try clear hcz21_2
      try clear hcz21_3
      try clear hcz23_0
      try clear hcz23_1
      try clear hcz23_2
      try clear hcz23_3
      try clear hcz25_0
      try clear hcz25_1
      try clear hcz25_2
      try clear hcz25_3
      try clear hfz13_0
      try clear hfz13_1
      try clear hfz13_2
      try clear hfz13_3
      try clear hfz15_0
      try clear hfz15_1
      try clear hfz15_2
      try clear hfz15_3
      try clear hfz17_0
      try clear hfz17_1
      try clear hfz17_2
      try clear hfz17_3
      try clear hfz19_0
      try clear hfz19_1
      try clear hfz19_2
      try clear hfz19_3
      try clear hfz21_0
      try clear hfz21_1
      try clear hfz21_2
      try clear hfz21_3
      try clear hfz23_0
      try clear hfz23_1
      try clear hfz23_2
      try clear hfz23_3
      try clear hfz25_0
      try clear hfz25_1
      try clear hfz25_2
      try clear hfz25_3
      obtain ⟨kq, x102_10, rfl, HA, HJ10, HO_5, HO_7, BK101, HB⟩ := hcut
      cases kq with
      | zero => exact absurd HA.out (by simp [isobathlaw02_MooringFreer.j0])
      | succ kj10 =>
        have H := HA.out
        clear HA
        simp only [isobathlaw02_MooringFreer.j0] at H
        by_cases c41 : x102_10 = true
        · subst c41
          have H1 : (none) = some r := by rw [if_pos rfl] at H; exact H
          clear H
          have H := H1
          clear H1
          exact absurd H (by simp)
        · replace c41 := Bool.eq_false_iff.mpr c41
          subst c41
          have H1 : (isobathlaw02_MooringFreer.l0 kj10 t104 t108 0) = some r := by rw [if_neg (show ¬ (false = true) by decide)] at H; exact H
          clear H
          have H := H1
          clear H1
          have H' := Aside0.mk H
          clear H
          go_wp2
          go_loopg [19] kj10 (fun kq v19 w' => ∃ (x19_2 : Int), v19 = .int .i64 x19_2 ∧ Aside0 (isobathlaw02_MooringFreer.l0 kq t104 t108 x19_2 = some r) ∧ Aside0 (kq ≤ kj10) ∧ Aside0 (Kd.R k57 57 w' w.heap.size (fun k_ => some k_ ≠ (v109 : Value).ownBlock) v105 t104) ∧ Aside0 (Kd.R k57 57 w' w.heap.size (fun k_ => some k_ ≠ (v105 : Value).ownBlock) v109 t108) ∧ Aside0 (w'.heap[gb101]? = some (.cells #[.int .i64 a0_0, (.slice A0_1 l0_1.length c0_1), .int .i64 a0_2, .int .i64 a0_3] 37 (0, 0))) ∧ Aside0 (Below w.heap.size w w'))
          case atStart => exact ⟨(0), (by first | rfl | (simp; done) | (simp [*]; done)), H', ⟨Nat.le_refl _⟩, ⟨by (with_reducible repeat (first | apply Kd.R_alloc | apply Kd.R_drewN | apply Kd.R_drew)); exact HO_5.out⟩, ⟨by (with_reducible repeat (first | apply Kd.R_alloc | apply Kd.R_drewN | apply Kd.R_drew)); exact HO_7.out⟩, ⟨by (with_reducible repeat (first | refine blk_drewN ?_ _ | refine blk_drew ?_ | refine blk_alloc ?_ _)); exact BK101.out⟩, ⟨by repeat (first | (with_reducible first | exact HB.out | apply below_alloc | apply pw_below_drewN | apply below_drew1 | refine below_set ?_ GE101.out) | exact HB.out)⟩⟩
          case round =>
            clear H'
            try clear c1
            try clear c2
            try clear p2
            try clear c3
            try clear c4
            try clear c6
            try clear p6
            try clear c25
            try clear c26
            try clear c27
            try clear c27b0
            try clear c27b1
            try clear c28
            try clear c29
            try clear c31
            try clear c33
            try clear c34
            try clear c34b0
            try clear c34b1
            try clear c41
            try clear hcz13_0
            try clear hcz13_1
            try clear hcz13_2
            try clear hcz13_3
            try clear hcz15_0
            try clear hcz15_1
            try clear hcz15_2
            try clear hcz15_3
            try clear hcz17_0
            try clear hcz17_1
            try clear hcz17_2
            try clear hcz17_3
            try clear hcz19_0
            try clear hcz19_1
            try clear hcz19_2
            try clear hcz19_3
            try clear hcz21_0
            try clear hcz21_1
            try clear hcz21_2
            try clear hcz21_3
            try clear hcz23_0
            try clear hcz23_1
            try clear hcz23_2
            try clear hcz23_3
            try clear hcz25_0
            try clear hcz25_1
            try clear hcz25_2
            try clear hcz25_3
            try clear hfz13_0
            try clear hfz13_1
            try clear hfz13_2
            try clear hfz13_3
            try clear hfz15_0
            try clear hfz15_1
            try clear hfz15_2
            try clear hfz15_3
            try clear hfz17_0
            try clear hfz17_1
            try clear hfz17_2
            try clear hfz17_3
            try clear hfz19_0
            try clear hfz19_1
            try clear hfz19_2
            try clear hfz19_3
            try clear hfz21_0
            try clear hfz21_1
            try clear hfz21_2
            try clear hfz21_3
            try clear hfz23_0
            try clear hfz23_1
            try clear hfz23_2
            try clear hfz23_3
            try clear hfz25_0
            try clear hfz25_1
            try clear hfz25_2
            try clear hfz25_3
            try clear p2
            try clear p6
            obtain ⟨x19_2, rfl, HA, HK2, HO_5, HO_7, BK101, HB⟩ := hrel
            cases gk with
            | zero => exact absurd HA.out (by simp [isobathlaw02_MooringFreer.l0])
            | succ k2 =>
              have H := HA.out
              clear HA
              simp only [isobathlaw02_MooringFreer.l0] at H
              by_cases c42 : x19_2 < (t104.length : Int)
              · rw [if_pos c42] at H
                have c42b0 : decide (x19_2 < (t104.length : Int)) = true := decide_eq_true c42
                clear c42
                by_cases c43 : 0 ≤ x19_2
                · rw [if_pos c43] at H
                  have c43b0 : decide (0 ≤ x19_2) = true := decide_eq_true c43
                  clear c43
                  by_cases c44 : x19_2 < (t108.length : Int)
                  · rw [if_pos c44] at H
                    have c44b0 : decide (x19_2 < (t108.length : Int)) = true := decide_eq_true c44
                    clear c44
                    by_cases c45 : ((rd_T57 t104 x19_2).f1) = ((rd_T57 t108 x19_2).f1)
                    · rw [if_pos c45] at H
                      have c45b0 : (((rd_T57 t104 x19_2).f1) == ((rd_T57 t108 x19_2).f1)) = true := beq_iff_eq.mpr c45
                      have c45b1 : (((rd_T57 t104 x19_2).f1) != ((rd_T57 t108 x19_2).f1)) = false := bne_eq_false_iff_eq.mpr c45
                      clear c45
                      have H' := Aside0.mk H
                      clear H
                      obtain ⟨Ao46, co46, eo46⟩ := Kd.R_slice HO_5.out
                      subst eo46
                      try go_wp2
                      have n0_ := Aside0.mk (Kd.R_drew HO_5.out)
                      have n1_ := Aside0.mk (Kd.R_drew HO_7.out)
                      have n2_ := Aside0.mk (blk_drew BK101.out)
                      have n3_ := Aside0.mk (below_drew1 HB.out)
                      clear HO_5
                      clear HO_7
                      clear BK101
                      clear HB
                      have HO_5 := n0_
                      have HO_7 := n1_
                      have BK101 := n2_
                      have HB := n3_
                      clear n0_ n1_ n2_ n3_
                      have p133 : 0 ≤ (x19_2 : Int) := of_decide_eq_true (by first | (with_reducible assumption) | assumption)
                      have q133 : x19_2 < (t104.length : Int) := of_decide_eq_true (by first | (with_reducible assumption) | assumption)
                      obtain ⟨ad133, e133, hx133_0, hx133_1⟩ := at_T57 (Kd.R_reads' HO_5.out).2.2 x19_2 p133 q133
                      cases e133
                      replace p133 := eq_true p133
                      replace q133 := eq_true q133
                      obtain ⟨Ao48, co48, eo48⟩ := Kd.R_slice HO_7.out
                      (first | subst eo48 | (injection eo48 with f1_ f2_ f3_; have f4_ := f1_.symm; have f5_ := f3_.symm; clear f1_ f2_ f3_; subst f4_; subst f5_))
                      have p134 : 0 ≤ (x19_2 : Int) := of_decide_eq_true (by first | (with_reducible assumption) | assumption)
                      have q134 : x19_2 < (t108.length : Int) := of_decide_eq_true (by first | (with_reducible assumption) | assumption)
                      obtain ⟨ad134, e134, hx134_0, hx134_1⟩ := at_T57 (Kd.R_reads' HO_7.out).2.2 x19_2 p134 q134
                      cases e134
                      replace p134 := eq_true p134
                      replace q134 := eq_true q134
                      refine start_ (n := 11) (S := fun w' => w'.cell? (ad133.add ((x19_2).toNat * 2)) = some (.int .i64 ((rd_T57 t104 x19_2).f0)) ∧ w'.cell? ⟨(ad133.add ((x19_2).toNat * 2)).block, (ad133.add ((x19_2).toNat * 2)).off + 1, none⟩ = some (.int .i64 ((rd_T57 t104 x19_2).f1)) ∧ w'.cell? (ad134.add ((x19_2).toNat * 2)) = some (.int .i64 ((rd_T57 t108 x19_2).f0)) ∧ w'.cell? ⟨(ad134.add ((x19_2).toNat * 2)).block, (ad134.add ((x19_2).toNat * 2)).off + 1, none⟩ = some (.int .i64 ((rd_T57 t108 x19_2).f1))) (ds := []) #[false, false, false, false, false, false, false, false, false, false, false] (by kernel_rfl) rfl rfl ⟨hx133_0, hx133_1, hx134_0, hx134_1⟩ (fun hHeld => ?_); refine with_tabW isobathlaw02_MooringFreer.tab14 isobathlaw02_MooringFreer.bits14 (fun HT_ HW_ => ?_)
                      generalize wr.drew = w47 at HO_5 HO_7 BK101 HB hx133_0 hx133_1 hx134_0 hx134_1 hHeld ⊢
                      refine pure_ (i := 0) (N := some 109) (v := ?_) (a' := ?_) #[true, false, false, false, false, false, false, false, false, false, false] rfl rfl (any_of HT_.out (by kernel_rfl)) (fun _ _ _ h => h) (Or.inl ⟨by rfl, ?_⟩) ?_ ?_
                      rotate_left
                      · intro w'
                        go_simp
                        with_reducible rfl
                      rotate_left
                      · simp only [Act.put, List.setIfInBounds_toArray, List.set_cons_zero, List.set_cons_succ, i64_w, i32_w]
                        rfl
                      refine pure_ (i := 1) (N := some 110) (v := ?_) (a' := ?_) #[true, true, false, false, false, false, false, false, false, false, false] rfl rfl (any_of HT_.out (by kernel_rfl)) (fun _ _ _ h => h) (Or.inl ⟨by rfl, ?_⟩) ?_ ?_
                      rotate_left
                      · intro w'
                        go_simp
                        with_reducible rfl
                      rotate_left
                      · simp only [Act.put, List.setIfInBounds_toArray, List.set_cons_zero, List.set_cons_succ, i64_w, i32_w]
                        rfl
                      refine pure_ (i := 2) (N := some 111) (v := ?_) (a' := ?_) #[true, true, true, false, false, false, false, false, false, false, false] rfl rfl (any_of HT_.out (by kernel_rfl)) (fun _ _ _ h => h) (Or.inl ⟨by rfl, ?_⟩) ?_ ?_
                      rotate_left
                      · intro w'
                        go_simp
                        with_reducible rfl
                      rotate_left
                      · simp only [Act.put, List.setIfInBounds_toArray, List.set_cons_zero, List.set_cons_succ, i64_w, i32_w]
                        rfl
                      refine pure_ (i := 3) (N := some 112) (v := ?_) (a' := ?_) #[true, true, true, true, false, false, false, false, false, false, false] rfl rfl (any_of HT_.out (by kernel_rfl)) (fun _ _ _ h => h) (Or.inl ⟨by rfl, ?_⟩) ?_ ?_
                      rotate_left
                      · intro w'
                        go_simp
                        with_reducible rfl
                      rotate_left
                      · simp only [Act.put, List.setIfInBounds_toArray, List.set_cons_zero, List.set_cons_succ, i64_w, i32_w]
                        rfl
                      refine pure_ (i := 5) (N := some 114) (v := ?_) (a' := ?_) #[true, true, true, true, false, true, false, false, false, false, false] rfl rfl (any_of HT_.out (by kernel_rfl)) (fun _ _ _ h => h) (Or.inl ⟨by rfl, ?_⟩) ?_ ?_
                      rotate_left
                      · intro w'
                        go_simp
                        with_reducible rfl
                      rotate_left
                      · simp only [Act.put, List.setIfInBounds_toArray, List.set_cons_zero, List.set_cons_succ, i64_w, i32_w]
                        rfl
                      refine pure_ (i := 6) (N := some 115) (v := ?_) (a' := ?_) #[true, true, true, true, false, true, true, false, false, false, false] rfl rfl (any_of HT_.out (by kernel_rfl)) (fun _ _ _ h => h) (Or.inl ⟨by rfl, ?_⟩) ?_ ?_
                      rotate_left
                      · intro w'
                        go_simp
                        with_reducible rfl
                      rotate_left
                      · simp only [Act.put, List.setIfInBounds_toArray, List.set_cons_zero, List.set_cons_succ, i64_w, i32_w]
                        rfl
                      refine pure_ (i := 7) (N := some 116) (v := ?_) (a' := ?_) #[true, true, true, true, false, true, true, true, false, false, false] rfl rfl (any_of HT_.out (by kernel_rfl)) (fun _ _ _ h => h) (Or.inl ⟨by rfl, ?_⟩) ?_ ?_
                      rotate_left
                      · intro w'
                        go_simp
                        with_reducible rfl
                      rotate_left
                      · simp only [Act.put, List.setIfInBounds_toArray, List.set_cons_zero, List.set_cons_succ, i64_w, i32_w]
                        rfl
                      refine pure_ (i := 8) (N := some 117) (v := ?_) (a' := ?_) #[true, true, true, true, false, true, true, true, true, false, false] rfl rfl (any_of HT_.out (by kernel_rfl)) (fun _ _ _ h => h) (Or.inl ⟨by rfl, ?_⟩) ?_ ?_
                      rotate_left
                      · intro w'
                        go_simp
                        with_reducible rfl
                      rotate_left
                      · simp only [Act.put, List.setIfInBounds_toArray, List.set_cons_zero, List.set_cons_succ, i64_w, i32_w]
                        rfl
                      refine take_ (i := 4) (N := some 113) (v := ?_) (a' := ?_) #[true, true, true, true, true, true, true, true, true, false, false] rfl rfl (take_ofW HT_.out HW_.out (by kernel_rfl)) (fun _ _ _ h => h) (Or.inl ⟨by rfl, ?_⟩) hHeld ?_ ?_
                      rotate_left
                      · rintro w' ⟨s0, s1, s2, s3⟩
                        go_simp
                        with_reducible rfl
                      rotate_left
                      · simp only [Act.put, List.setIfInBounds_toArray, List.set_cons_zero, List.set_cons_succ, i64_w, i32_w]
                        rfl
                      refine take_ (i := 9) (N := some 118) (v := ?_) (a' := ?_) #[true, true, true, true, true, true, true, true, true, true, false] rfl rfl (take_ofW HT_.out HW_.out (by kernel_rfl)) (fun _ _ _ h => h) (Or.inl ⟨by rfl, ?_⟩) hHeld ?_ ?_
                      rotate_left
                      · rintro w' ⟨s0, s1, s2, s3⟩
                        go_simp
                        with_reducible rfl
                      rotate_left
                      · simp only [Act.put, List.setIfInBounds_toArray, List.set_cons_zero, List.set_cons_succ, i64_w, i32_w]
                        rfl
                      refine pure_ (i := 10) (N := some 119) (v := ?_) (a' := ?_) #[true, true, true, true, true, true, true, true, true, true, true] rfl rfl (any_of HT_.out (by kernel_rfl)) (fun _ _ _ h => h) (Or.inl ⟨by rfl, ?_⟩) ?_ ?_
                      rotate_left
                      · intro w'
                        go_simp
                        with_reducible rfl
                      rotate_left
                      · simp only [Act.put, List.setIfInBounds_toArray, List.set_cons_zero, List.set_cons_succ, i64_w, i32_w]
                        rfl
                      refine done_ (done_of HT_.out (by kernel_rfl)) ?_
                      try go_wp2
                      go_roundg k2
                      case measure => have := HJ10.out; have := HK2.out; omega
                      case rel => exact ⟨(wrap64 (x19_2 + 1)), (by first | rfl | (simp; done) | (simp [*]; done)), H', ⟨by have := HJ10.out; have := HK2.out; omega⟩, ⟨by (with_reducible repeat (first | apply Kd.R_alloc | apply Kd.R_drewN | apply Kd.R_drew)); exact HO_5.out⟩, ⟨by (with_reducible repeat (first | apply Kd.R_alloc | apply Kd.R_drewN | apply Kd.R_drew)); exact HO_7.out⟩, ⟨by (with_reducible repeat (first | refine blk_drewN ?_ _ | refine blk_drew ?_ | refine blk_alloc ?_ _)); exact BK101.out⟩, ⟨by repeat (first | (with_reducible first | exact HB.out | apply below_alloc | apply pw_below_drewN | apply below_drew1 | refine below_set ?_ GE101.out) | exact HB.out)⟩⟩
                    · rw [if_neg c45] at H
                      exact absurd H (by simp)
                  · rw [if_neg c44] at H
                    exact absurd H (by simp)
                · rw [if_neg c43] at H
                  exact absurd H (by simp)
              · rw [if_neg c42] at H
                have c42b0 : decide (x19_2 < (t104.length : Int)) = false := decide_eq_false c42
                clear c42
                by_cases c49 : 0 < (t104.length : Int)
                · rw [if_pos c49] at H
                  have c49b0 : decide (0 < (t104.length : Int)) = true := decide_eq_true c49
                  have c49b1 : decide (0 < t104.length) = true := decide_eq_true (by omega)
                  clear c49
                  by_cases c50 : 0 < (t108.length : Int)
                  · rw [if_pos c50] at H
                    have c50b0 : decide (0 < (t108.length : Int)) = true := decide_eq_true c50
                    have c50b1 : decide (0 < t108.length) = true := decide_eq_true (by omega)
                    clear c50
                    by_cases c51 : (((rd_T57 t104 0).f0) == ((rd_T57 t108 0).f0) && (((rd_T57 t104 0).f1) == ((rd_T57 t108 0).f1))) = true
                    · rw [if_pos c51] at H
                      have c51b0 : (((rd_T57 t104 0).f0) == ((rd_T57 t108 0).f0) && (((rd_T57 t104 0).f1) == ((rd_T57 t108 0).f1))) = true := c51
                      (try (have c51b1 : decide (((rd_T57 t104 0).f0) = ((rd_T57 t108 0).f0) && (((rd_T57 t104 0).f1) == ((rd_T57 t108 0).f1))) = true := by simpa using c51))
                      (try (have c51b2 : (((rd_T57 t104 0).f0) == ((rd_T57 t108 0).f0) && (((rd_T57 t104 0).f1) == ((rd_T57 t108 0).f1))) = true := by simpa using c51))
                      clear c51
                      replace H := Option.bind_eq_some_iff.mp H
                      obtain ⟨t137, A520, H⟩ := H
                      replace H : (some t137) = some r := H
                      have A52 := Aside0.mk A520
                      clear A520
                      obtain rfl := Option.some.inj H
                      obtain ⟨Ao53, co53, eo53⟩ := Kd.R_slice HO_5.out
                      subst eo53
                      try go_wp2
                      have n0_ := Aside0.mk (Kd.R_drew HO_5.out)
                      have n1_ := Aside0.mk (Kd.R_drew HO_7.out)
                      have n2_ := Aside0.mk (blk_drew BK101.out)
                      have n3_ := Aside0.mk (below_drew1 HB.out)
                      clear HO_5
                      clear HO_7
                      clear BK101
                      clear HB
                      have HO_5 := n0_
                      have HO_7 := n1_
                      have BK101 := n2_
                      have HB := n3_
                      clear n0_ n1_ n2_ n3_
                      have p135 : 0 ≤ (0 : Int) := (by omega)
                      have q135 : 0 < (t104.length : Int) := of_decide_eq_true (by first | (with_reducible assumption) | assumption)
                      obtain ⟨ad135, e135, hx135_0, hx135_1⟩ := at_T57 (Kd.R_reads' HO_5.out).2.2 0 p135 q135
                      cases e135
                      have qi135 : (0 < t104.length) = True := eq_true (by omega)
                      (try rw [show ((0 : Int)).toNat = 0 from rfl] at hx135_0)
                      (try rw [show 0 * 2 = 0 from rfl] at hx135_0)
                      (try rw [Addr.add_zero'] at hx135_0)
                      (try rw [show ((0 : Int)).toNat = 0 from rfl] at hx135_1)
                      (try rw [show 0 * 2 = 0 from rfl] at hx135_1)
                      (try rw [Addr.add_zero'] at hx135_1)
                      replace p135 := eq_true p135
                      replace q135 := eq_true q135
                      obtain ⟨Ao55, co55, eo55⟩ := Kd.R_slice HO_7.out
                      (first | subst eo55 | (injection eo55 with f1_ f2_ f3_; have f4_ := f1_.symm; have f5_ := f3_.symm; clear f1_ f2_ f3_; subst f4_; subst f5_))
                      have p136 : 0 ≤ (0 : Int) := (by omega)
                      have q136 : 0 < (t108.length : Int) := of_decide_eq_true (by first | (with_reducible assumption) | assumption)
                      obtain ⟨ad136, e136, hx136_0, hx136_1⟩ := at_T57 (Kd.R_reads' HO_7.out).2.2 0 p136 q136
                      cases e136
                      have qi136 : (0 < t108.length) = True := eq_true (by omega)
                      (try rw [show ((0 : Int)).toNat = 0 from rfl] at hx136_0)
                      (try rw [show 0 * 2 = 0 from rfl] at hx136_0)
                      (try rw [Addr.add_zero'] at hx136_0)
                      (try rw [show ((0 : Int)).toNat = 0 from rfl] at hx136_1)
                      (try rw [show 0 * 2 = 0 from rfl] at hx136_1)
                      (try rw [Addr.add_zero'] at hx136_1)
                      replace p136 := eq_true p136
                      replace q136 := eq_true q136
                      refine start_ (n := 11) (S := fun w' => w'.cell? ad135 = some (.int .i64 ((rd_T57 t104 0).f0)) ∧ w'.cell? ⟨ad135.block, ad135.off + 1, none⟩ = some (.int .i64 ((rd_T57 t104 0).f1)) ∧ w'.cell? ad136 = some (.int .i64 ((rd_T57 t108 0).f0)) ∧ w'.cell? ⟨ad136.block, ad136.off + 1, none⟩ = some (.int .i64 ((rd_T57 t108 0).f1))) (ds := []) #[false, false, false, false, false, false, false, false, false, false, false] (by kernel_rfl) rfl rfl ⟨hx135_0, hx135_1, hx136_0, hx136_1⟩ (fun hHeld => ?_); refine with_tabW isobathlaw02_MooringFreer.tab16 isobathlaw02_MooringFreer.bits16 (fun HT_ HW_ => ?_)
                      generalize wr.drew = w54 at HO_5 HO_7 BK101 HB hx135_0 hx135_1 hx136_0 hx136_1 hHeld ⊢
                      refine pure_ (i := 0) (N := some 120) (v := ?_) (a' := ?_) #[true, false, false, false, false, false, false, false, false, false, false] rfl rfl (any_of HT_.out (by kernel_rfl)) (fun _ _ _ h => h) (Or.inl ⟨by rfl, ?_⟩) ?_ ?_
                      rotate_left
                      · intro w'
                        go_simp
                        with_reducible rfl
                      rotate_left
                      · simp only [Act.put, List.setIfInBounds_toArray, List.set_cons_zero, List.set_cons_succ, i64_w, i32_w]
                        rfl
                      refine pure_ (i := 1) (N := some 121) (v := ?_) (a' := ?_) #[true, true, false, false, false, false, false, false, false, false, false] rfl rfl (any_of HT_.out (by kernel_rfl)) (fun _ _ _ h => h) (Or.inl ⟨by rfl, ?_⟩) ?_ ?_
                      rotate_left
                      · intro w'
                        go_simp
                        with_reducible rfl
                      rotate_left
                      · simp only [Act.put, List.setIfInBounds_toArray, List.set_cons_zero, List.set_cons_succ, i64_w, i32_w]
                        rfl
                      refine pure_ (i := 3) (N := some 123) (v := ?_) (a' := ?_) #[true, true, false, true, false, false, false, false, false, false, false] rfl rfl (any_of HT_.out (by kernel_rfl)) (fun _ _ _ h => h) (Or.inl ⟨by rfl, ?_⟩) ?_ ?_
                      rotate_left
                      · intro w'
                        go_simp
                        with_reducible rfl
                      rotate_left
                      · simp only [Act.put, List.setIfInBounds_toArray, List.set_cons_zero, List.set_cons_succ, i64_w, i32_w]
                        rfl
                      refine pure_ (i := 4) (N := some 124) (v := ?_) (a' := ?_) #[true, true, false, true, true, false, false, false, false, false, false] rfl rfl (any_of HT_.out (by kernel_rfl)) (fun _ _ _ h => h) (Or.inl ⟨by rfl, ?_⟩) ?_ ?_
                      rotate_left
                      · intro w'
                        go_simp
                        with_reducible rfl
                      rotate_left
                      · simp only [Act.put, List.setIfInBounds_toArray, List.set_cons_zero, List.set_cons_succ, i64_w, i32_w]
                        rfl
                      refine take_ (i := 2) (N := some 122) (v := ?_) (a' := ?_) #[true, true, true, true, true, false, false, false, false, false, false] rfl rfl (take_ofW HT_.out HW_.out (by kernel_rfl)) (fun _ _ _ h => h) (Or.inl ⟨by rfl, ?_⟩) hHeld ?_ ?_
                      rotate_left
                      · rintro w' ⟨s0, s1, s2, s3⟩
                        go_simp
                        with_reducible rfl
                      rotate_left
                      · simp only [Act.put, List.setIfInBounds_toArray, List.set_cons_zero, List.set_cons_succ, i64_w, i32_w]
                        rfl
                      refine take_ (i := 5) (N := some 125) (v := ?_) (a' := ?_) #[true, true, true, true, true, true, false, false, false, false, false] rfl rfl (take_ofW HT_.out HW_.out (by kernel_rfl)) (fun _ _ _ h => h) (Or.inl ⟨by rfl, ?_⟩) hHeld ?_ ?_
                      rotate_left
                      · rintro w' ⟨s0, s1, s2, s3⟩
                        go_simp
                        with_reducible rfl
                      rotate_left
                      · simp only [Act.put, List.setIfInBounds_toArray, List.set_cons_zero, List.set_cons_succ, i64_w, i32_w]
                        rfl
                      refine pure_ (i := 6) (N := some 126) (v := ?_) (a' := ?_) #[true, true, true, true, true, true, true, false, false, false, false] rfl rfl (any_of HT_.out (by kernel_rfl)) (fun _ _ _ h => h) (Or.inl ⟨by rfl, ?_⟩) ?_ ?_
                      rotate_left
                      · intro w'
                        go_simp
                        with_reducible rfl
                      rotate_left
                      · simp only [Act.put, List.setIfInBounds_toArray, List.set_cons_zero, List.set_cons_succ, i64_w, i32_w]
                        rfl
                      refine pure_ (i := 7) (N := some 127) (v := ?_) (a' := ?_) #[true, true, true, true, true, true, true, true, false, false, false] rfl rfl (any_of HT_.out (by kernel_rfl)) (fun _ _ _ h => h) (Or.inl ⟨by rfl, ?_⟩) ?_ ?_
                      rotate_left
                      · intro w'
                        go_simp
                        with_reducible rfl
                      rotate_left
                      · simp only [Act.put, List.setIfInBounds_toArray, List.set_cons_zero, List.set_cons_succ, i64_w, i32_w]
                        rfl
                      refine one_ (i := 8) (N := some 128) #[true, true, true, true, true, true, true, true, true, false, false] rfl rfl (one_of HT_.out (by kernel_rfl)) (by decide) (fun K hK => ?_)
                      refine goes_ Try.func14 (by kernel_rfl) rfl #[] (by rfl) rfl rfl (by (try simp only [List.map_toArray, List.map_cons, List.map_nil]); first | done | rfl | (simp only [List.length_drop, List.length_take]; rfl)) ?_
                      with_reducible refine (isobathlaw02_fine.calls k2  t137 _ A52.out).mono ?_
                      rintro e w56 ⟨rfl, hb⟩
                      have HS0_ := (hb.cell (World.block_lt_of_cell? _ _ (hHeld.1))).trans (hHeld.1)
                      have HS1_ := (hb.cell (World.block_lt_of_cell? _ _ (hHeld.2.1))).trans (hHeld.2.1)
                      have HS2_ := (hb.cell (World.block_lt_of_cell? _ _ (hHeld.2.2.1))).trans (hHeld.2.2.1)
                      have HS3_ := (hb.cell (World.block_lt_of_cell? _ _ (hHeld.2.2.2))).trans (hHeld.2.2.2)
                      refine ⟨_, rfl, ?_⟩
                      have n0_ := Aside0.mk (Kd.R_below (by (with_reducible repeat (first | apply Kd.R_alloc | apply Kd.R_drewN | apply Kd.R_drew)); exact HO_5.out) hb)
                      have n1_ := Aside0.mk (Kd.R_below (by (with_reducible repeat (first | apply Kd.R_alloc | apply Kd.R_drewN | apply Kd.R_drew)); exact HO_7.out) hb)
                      have n2_ := Aside0.mk (blk_below (g := gb101) (o := .cells #[.int .i64 a0_0, .slice A0_1 l0_1.length c0_1, .int .i64 a0_2, .int .i64 a0_3] 37 (0, 0)) (by (with_reducible repeat (first | refine blk_drewN ?_ _ | refine blk_drew ?_ | refine blk_alloc ?_ _)); exact BK101.out) hb)
                      have n3_ := Aside0.mk (below_step (by repeat (first | (with_reducible first | exact HB.out | apply below_alloc | apply pw_below_drewN | apply below_drew1 | refine below_set ?_ GE101.out) | exact HB.out)) hb)
                      clear HO_5
                      clear HO_7
                      clear BK101
                      clear HB
                      have HO_5 := n0_
                      have HO_7 := n1_
                      have BK101 := n2_
                      have HB := n3_
                      clear n0_ n1_ n2_ n3_
                      (try clear hb)
                      (try clear hb2)
                      (try clear hk)
                      (try clear hi)
                      refine hK.out _ _ ⟨HS0_, HS1_, HS2_, HS3_⟩ (fun hHeld => ?_)
                      clear hK K
                      refine norm_ (a' := ?_) ?_ ?_
                      rotate_left
                      · show Act.put _ (some 128) _ = _
                        simp only [Act.put, List.setIfInBounds_toArray, List.set_cons_zero, List.set_cons_succ, i64_w, i32_w]
                        rfl
                      refine pure_ (i := 9) (N := some 129) (v := ?_) (a' := ?_) #[true, true, true, true, true, true, true, true, true, true, false] rfl rfl (any_of HT_.out (by kernel_rfl)) (fun _ _ _ h => h) (Or.inl ⟨by rfl, ?_⟩) ?_ ?_
                      rotate_left
                      · intro w'
                        go_simp
                        with_reducible rfl
                      rotate_left
                      · simp only [Act.put, List.setIfInBounds_toArray, List.set_cons_zero, List.set_cons_succ, i64_w, i32_w]
                        rfl
                      refine pure_ (i := 10) (N := some 4) (v := ?_) (a' := ?_) #[true, true, true, true, true, true, true, true, true, true, true] rfl rfl (any_of HT_.out (by kernel_rfl)) (fun _ _ _ h => h) (Or.inl ⟨by rfl, ?_⟩) ?_ ?_
                      rotate_left
                      · intro w'
                        go_simp
                        with_reducible rfl
                      rotate_left
                      · simp only [Act.put, List.setIfInBounds_toArray, List.set_cons_zero, List.set_cons_succ, i64_w, i32_w]
                        rfl
                      refine done_ (done_of HT_.out (by kernel_rfl)) ?_
                      try go_wp2
                      go_ret
                      exact ⟨by first | rfl | (simp [errW_none, errW_some] <;> rfl) | (simp [*, errW_none, errW_some] <;> rfl), by repeat (first | (with_reducible first | exact HB.out | apply below_alloc | apply pw_below_drewN | apply below_drew1 | refine below_set ?_ GE101.out) | exact HB.out)⟩
                    · rw [if_neg c51] at H
                      have c51b0 : (((rd_T57 t104 0).f0) == ((rd_T57 t108 0).f0) && (((rd_T57 t104 0).f1) == ((rd_T57 t108 0).f1))) = false := by simpa using c51
                      (try (have c51b1 : decide (((rd_T57 t104 0).f0) = ((rd_T57 t108 0).f0) && (((rd_T57 t104 0).f1) == ((rd_T57 t108 0).f1))) = false := by simpa using c51))
                      (try (have c51b2 : (((rd_T57 t104 0).f0) == ((rd_T57 t108 0).f0) && (((rd_T57 t104 0).f1) == ((rd_T57 t108 0).f1))) = false := by simpa using c51))
                      (try (have c51b3 : ¬ (((rd_T57 t104 0).f0) = ((rd_T57 t108 0).f0) && (((rd_T57 t104 0).f1) == ((rd_T57 t108 0).f1))) := by simpa using c51))
                      clear c51
                      exact absurd H (by simp)
                  · rw [if_neg c50] at H
                    exact absurd H (by simp)
                · rw [if_neg c49] at H
                  exact absurd H (by simp)
  · replace c4 := Bool.eq_false_iff.mpr c4
    subst c4
    have H1 : ((isobathlaw02_fine.f k).bind fun t103 => (some t103)) = some r := by rw [if_neg (show ¬ (false = true) by decide)] at H; exact H
    clear H
    have H := H1
    clear H1
    replace H := Option.bind_eq_some_iff.mp H
    obtain ⟨t103, A570, H⟩ := H
    replace H : (some t103) = some r := H
    have A57 := Aside0.mk A570
    clear A570
    obtain rfl := Option.some.inj H
    go_enter Try.func6, Try.ntmps6
    go_wp2_with (first | ((with_reducible refine gate_dst (N := 2) rfl ?_); (try (refine gate_guard (by rfl) ?_; dsimp only)); refine box_event ?hg (N := 2) ?hd (cs := #[.int .i64 a0_0, .slice A0_1 l0_1.length c0_1, .int .i64 a0_2, .int .i64 a0_3]) (t := 37) ?hr ?_; (case hd => rfl); (case hg => rfl); (case hr => first | (go_simp; done) | (go_simp; rfl)); intro gb101 hg w58 hbox hb; have n0_ := Aside0.mk (below_step (by repeat (first | (with_reducible first | exact HB.out | apply below_alloc | apply pw_below_drewN | apply below_drew1) | exact HB.out)) hb); have n1_ := Aside0.mk (hbox); have n2_ := Aside0.mk ((by rw [hg]; exact (below_size (by repeat (first | (with_reducible first | exact HB.out | apply below_alloc | apply pw_below_drewN | apply below_drew1) | exact HB.out))) : w.heap.size ≤ gb101)); have n3_ := Aside0.mk ((by rw [hg]; exact (below_size (by repeat (first | (with_reducible first | exact HB.out | apply below_alloc | apply pw_below_drewN | apply below_drew1) | exact HB.out))) : w.heap.size ≤ gb101)); clear HB; have HB := n0_; have BK101 := n1_; have GW101 := n2_; have GE101 := n3_; clear n0_ n1_ n2_ n3_; clear hb hbox hg; have hcz59_0 : w58.cell? ⟨gb101, 0, none⟩ = some (.int .i64 a0_0) := (blk_cell BK101.out 0).trans rfl; have hcz59_1 : w58.cell? ⟨gb101, 1, none⟩ = some (.slice A0_1 l0_1.length c0_1) := (blk_cell BK101.out 1).trans rfl; have hcz59_2 : w58.cell? ⟨gb101, 2, none⟩ = some (.int .i64 a0_2) := (blk_cell BK101.out 2).trans rfl; have hcz59_3 : w58.cell? ⟨gb101, 3, none⟩ = some (.int .i64 a0_3) := (blk_cell BK101.out 3).trans rfl; have hfz59_0 := blk_frozen BK101.out 0; have hfz59_1 := blk_frozen BK101.out 1; have hfz59_2 := blk_frozen BK101.out 2; have hfz59_3 := blk_frozen BK101.out 3) | ((with_reducible refine gate_callee (f := 25) rfl ?_); refine goesL_ (some 22) rfl rfl Try.func25 (by kernel_rfl) rfl #[.agg #[.int .i64 a0_0, .slice A0_1 l0_1.length c0_1, .int .i64 a0_2, .int .i64 a0_3], .slice A1 l1.length c1] rfl (by (try simp only [List.map_toArray, List.map_cons, List.map_nil]); first | done | rfl | (simp only [List.length_drop, List.length_take]; rfl)) ?_; (with_reducible refine (isobathlaw02_valid.calls k a0_0 _ _ l0_1 a0_2 a0_3 _ _ l1 false _ ?side1 ?side2 ?side3 ?side4 A3.out).mono ?_); (case side1 => repeat (first | exact (Kd.C_below HR0_1.out HB.out) | (with_reducible refine Kd.C_alloc ?_ _) | (with_reducible refine Kd.C_drewN ?_ _) | (with_reducible refine Kd.C_drew ?_))); (case side2 => exact HC0_1.out); (case side3 => repeat (first | exact (Kd.C_below HR1.out HB.out) | (with_reducible refine Kd.C_alloc ?_ _) | (with_reducible refine Kd.C_drewN ?_ _) | (with_reducible refine Kd.C_drew ?_))); (case side4 => exact HC1.out); rintro e w60 ⟨rfl, hb⟩; refine ⟨_, rfl, ?_⟩; have n0_ := Aside0.mk (blk_below (g := gb101) (o := .cells #[.int .i64 a0_0, .slice A0_1 l0_1.length c0_1, .int .i64 a0_2, .int .i64 a0_3] 37 (0, 0)) (by (with_reducible repeat (first | refine blk_drewN ?_ _ | refine blk_drew ?_ | refine blk_alloc ?_ _)); exact BK101.out) hb); have n1_ := Aside0.mk (below_step (by repeat (first | (with_reducible first | exact HB.out | apply below_alloc | apply pw_below_drewN | apply below_drew1 | refine below_set ?_ GE101.out) | exact HB.out)) hb); clear BK101; clear HB; have BK101 := n0_; have HB := n1_; clear n0_ n1_; (try clear hb); (try clear hb2); (try clear hk); (try clear hi)) | ((with_reducible refine gate_callee (f := 14) rfl ?_); refine goesL_ (some 24) rfl rfl Try.func14 (by kernel_rfl) rfl #[] rfl (by (try simp only [List.map_toArray, List.map_cons, List.map_nil]); first | done | rfl | (simp only [List.length_drop, List.length_take]; rfl)) ?_; (with_reducible refine (isobathlaw02_fine.calls k  t103 _ A57.out).mono ?_); rintro e w61 ⟨rfl, hb⟩; refine ⟨_, rfl, ?_⟩; have n0_ := Aside0.mk (blk_below (g := gb101) (o := .cells #[.int .i64 a0_0, .slice A0_1 l0_1.length c0_1, .int .i64 a0_2, .int .i64 a0_3] 37 (0, 0)) (by (with_reducible repeat (first | refine blk_drewN ?_ _ | refine blk_drew ?_ | refine blk_alloc ?_ _)); exact BK101.out) hb); have n1_ := Aside0.mk (below_step (by repeat (first | (with_reducible first | exact HB.out | apply below_alloc | apply pw_below_drewN | apply below_drew1 | refine below_set ?_ GE101.out) | exact HB.out)) hb); clear BK101; clear HB; have BK101 := n0_; have HB := n1_; clear n0_ n1_; (try clear hb); (try clear hb2); (try clear hk); (try clear hi)))
    go_ret
    exact ⟨by first | rfl | (simp [errW_none, errW_some] <;> rfl) | (simp [*, errW_none, errW_some] <;> rfl), by repeat (first | (with_reducible first | exact HB.out | apply below_alloc | apply pw_below_drewN | apply below_drew1 | refine below_set ?_ GE101.out) | exact HB.out)⟩
end Go.Proofs.Ytebcmhajbjkojaa.P
namespace Go.Proofs.Ytebcmhajbjkojaa.P
open Go.RowKit Go.Proofs.YtebcmhajbjkojaaW.PrintWords Go.Proofs.YtebcmhajbjkojaaW.PrintLast Go.Proofs.YtebcmhajbjkojaaW.PrintMore
attribute [local go_sem] max2_int min2_int max_two min_two max_three min_three max_four min_four   -- for this text's walks alone
set_option linter.unusedVariables false
set_option linter.unusedSimpArgs false
structure Opens {α : Type} (P : Program) (t : TypeId) (d : Kd α) (B : α → Prop) : Prop where
  run : ∀ {H : Type} {enc : TypeId × Value → H} {W : World} {fuel : Nat} {cs : List Value} {x : DataW H × List MemPlace}, DataW.trod enc P W 0 (fun _ => true) true fuel t cs = some x → ∃ a : α, d.K W a cs ∧ B a
theorem Opens.int {P : Program} {t : TypeId} {k : IntKind} (ht : P.underlying t = some (.int k)) : Opens P t (Kd.int k) (fun n => (Lit.int k n).wf = true) :=
  ⟨fun h => by
    obtain ⟨n, rfl, _, hw⟩ := DataW.trod_int ht h
    exact ⟨n, rfl, hw⟩⟩
theorem Opens.bool {P : Program} {t : TypeId} (ht : P.underlying t = some .bool) : Opens P t Kd.bool (fun _ => True) :=
  ⟨fun h => by
    obtain ⟨n, rfl, _⟩ := DataW.trod_bool ht h
    exact ⟨n, rfl, trivial⟩⟩
theorem Opens.slice {α : Type} {P : Program} {t e : TypeId} {d : Kd α} {B : α → Prop} (ht : P.underlying t = some (.slice e)) (hc : P.cellsOf e = d.sz) (he : Opens P e d B) :
    Opens P t (Kd.slice e d) (fun xs => xs.length ≤ 9223372036854775807 ∧ ∀ x ∈ xs, B x) := by
  refine ⟨fun {H enc W fuel cs x} h => ?_⟩
  rcases Deep.open_slice ht h with ⟨rfl, _⟩ | ⟨a, len, cap, m, n, D, Pl, rfl, _, hl, hm, hmm, _, hx⟩
  · exact ⟨[], ⟨none, 0, rfl, Nat.le_refl _, Kd.C_nil _ _⟩, by simp, by simp⟩
  · have hm' : cap ≤ 9223372036854775807 := by unfold maxLen at hm; exact hm
    have hme : m = cap := by simpa using hmm
    have hel : ∀ i, i < len → ∃ y : α, (∃ cs', W.cells? 0 (a.add (i * P.cellsOf e)) (P.cellsOf e) = some cs' ∧ d.K W y cs') ∧ B y := by
      intro i hi
      obtain ⟨cs', h1, h2⟩ := hx i (by omega)
      obtain ⟨y, hy, hB⟩ := he.run h2
      exact ⟨y, ⟨cs', h1, hy⟩, hB⟩
    rcases Nat.eq_zero_or_pos len with h0 | h0
    · subst h0
      exact ⟨[], ⟨some a, cap, rfl, Nat.zero_le _, rfl, Nat.zero_le _, fun hp => absurd hp (Nat.lt_irrefl 0)⟩, by simp, by simp⟩
    · have : Inhabited α := ⟨Classical.choose (hel 0 h0)⟩
      obtain ⟨f, hf⟩ := Deep.choose_lt (p := fun i y => (∃ cs', W.cells? 0 (a.add (i * P.cellsOf e)) (P.cellsOf e) = some cs' ∧ d.K W y cs') ∧ B y) hel
      have hlen : ((List.range len).map f).length = len := by simp
      refine ⟨(List.range len).map f, ⟨some a, cap, by rw [hlen], by rw [hlen]; exact hl, hlen ▸ rfl, by rw [hlen]; omega, fun _ => ⟨a, rfl, ?_⟩⟩, by rw [hlen]; omega, ?_⟩
      · intro j p hj
        have hjl : j < len := by
          have := (List.getElem?_eq_some_iff.1 hj).1
          rwa [hlen] at this
        have hp : p = f j := by
          rw [List.getElem?_map, List.getElem?_range hjl] at hj
          exact (Option.some.inj hj).symm
        subst hp
        obtain ⟨⟨cs', h1, h2⟩, _⟩ := hf j hjl
        obtain ⟨_, h3, h4⟩ := World.cells?_some h1
        rw [hc] at h3 h4
        refine ⟨cs', h3, h2, fun i u hu => ?_⟩
        have hi : i < d.sz := by
          have := (List.getElem?_eq_some_iff.1 hu).1
          omega
        rw [← Deep.add_add]
        exact (h4 i hi).trans hu
      · intro y hy
        obtain ⟨i, hi, rfl⟩ := List.mem_map.1 hy
        exact (hf i (List.mem_range.1 hi)).2
structure OpensF {α : Type} (P : Program) (fs : List Field) (off tot : Nat) (d : Kd α) (B : α → Prop) : Prop where
  run : ∀ {H : Type} {enc : TypeId × Value → H} {W : World} {n : Nat} {cs : List Value}, cs.length = tot → (∀ (i : Nat) (f : Field), fs[i]? = some f → ∃ y, DataW.trod enc P W 0 (fun _ => true) true n f.type ((cs.drop f.offset).take (P.cellsOf f.type)) = some y) → ∃ a : α, d.K W a (cs.drop off) ∧ B a
theorem OpensF.last {α : Type} {P : Program} {f : Field} {off tot : Nat} {d : Kd α} {B : α → Prop} (ho : f.offset = off) (ht : off + P.cellsOf f.type = tot) (h : Opens P f.type d B) : OpensF P [f] off tot d B := by
  refine ⟨fun {H enc W n cs} hl hy => ?_⟩
  obtain ⟨y, hy⟩ := hy 0 f rfl
  obtain ⟨a, ha, hB⟩ := h.run hy
  rw [ho, List.take_of_length_le (by rw [List.length_drop]; omega)] at ha
  exact ⟨a, ha, hB⟩
theorem OpensF.cons {α β : Type} {P : Program} {f : Field} {fs : List Field} {off tot : Nat} {d1 : Kd α} {d2 : Kd β} {B1 : α → Prop} {B2 : β → Prop} (ho : f.offset = off) (hs : P.cellsOf f.type = d1.sz) (h : Opens P f.type d1 B1) (hr : OpensF P fs (off + d1.sz) tot d2 B2) :
    OpensF P (f :: fs) off tot (Kd.pair d1 d2) (fun x => B1 x.1 ∧ B2 x.2) := by
  refine ⟨fun {H enc W n cs} hl hy => ?_⟩
  obtain ⟨y, hy0⟩ := hy 0 f rfl
  obtain ⟨a, ha, hB⟩ := h.run hy0
  obtain ⟨b, hb, hB2⟩ := hr.run hl (fun i g hg => hy (i + 1) g hg)
  rw [ho, hs] at ha
  refine ⟨(a, b), ⟨(cs.drop off).take d1.sz, cs.drop (off + d1.sz), ?_, ha, hb⟩, hB, hB2⟩
  rw [← List.drop_drop, List.take_append_drop]
theorem Opens.struct {α β : Type} {P : Program} {t : TypeId} {fs : Array Field} {d : Kd α} {B : α → Prop} (ht : P.underlying t = some (.struct fs)) (f : β → α) (g : α → β) (hg : ∀ a, f (g a) = a) (hF : OpensF P fs.toList 0 (P.cellsOf t) d B) : Opens P t (Kd.iso d f) (fun x => B (f x)) := by
  refine ⟨fun {H enc W fuel cs x} h => ?_⟩
  obtain ⟨xs, n, _, _, hl, hlen, hf⟩ := DataW.trod_struct ht h
  obtain ⟨a, ha, hB⟩ := hF.run (n := n) hl (fun i fl hfl => by
    have hfl' : fs[i]? = some fl := by simpa using hfl
    have hi : i < fs.size := (Array.getElem?_eq_some_iff.1 hfl').1
    exact ⟨xs[i]'(by omega), (hf i fl hfl').trans (List.getElem?_eq_getElem (by omega))⟩)
  refine ⟨g a, ?_, ?_⟩
  · show d.K W (f (g a)) cs
    rw [hg]
    simpa using ha
  · show B (f (g a))
    rw [hg]
    exact hB
theorem cells_agg {v : Value} {l : List Value} (h : v.cells.toList = l) (hl : 2 ≤ l.length) : v = .agg l.toArray := by
  subst h
  cases v <;> simp [Value.cells] at hl ⊢
end Go.Proofs.Ytebcmhajbjkojaa.P
namespace Go.Proofs.Ytebcmhajbjkojaa.P
open Go.RowKit Go.Proofs.YtebcmhajbjkojaaW.PrintWords Go.Proofs.YtebcmhajbjkojaaW.PrintLast Go.Proofs.YtebcmhajbjkojaaW.PrintMore
namespace mooringFreer
open Go.ChangeShapes Go.WideShapes Go.ChangeAt
set_option linter.unusedVariables false
set_option linter.unusedSimpArgs false
def B46 (x : S46) : Prop := (fun n : Int => (Lit.int .i64 n).wf = true) x.f0 ∧ (fun n : Int => (Lit.int .i64 n).wf = true) x.f1 ∧ (fun n : Int => (Lit.int .i64 n).wf = true) x.f2 ∧ (fun n : Int => (Lit.int .i64 n).wf = true) x.f3
theorem opens46 : Opens Try.prog 46 k46 B46 := Opens.struct (fs := _) Try.underlying46 (fun x : S46 => (x.f0, x.f1, x.f2, x.f3)) (fun t => ⟨t.1, t.2.1, t.2.2.1, t.2.2.2⟩) (fun _ => rfl) (OpensF.cons rfl (by kernel_rfl) (Opens.int Try.underlying2) (OpensF.cons rfl (by kernel_rfl) (Opens.int Try.underlying2) (OpensF.cons rfl (by kernel_rfl) (Opens.int Try.underlying2) (OpensF.last rfl (by kernel_rfl) (Opens.int Try.underlying2)))))
def B37 (x : S37) : Prop := (fun n : Int => (Lit.int .i64 n).wf = true) x.f0 ∧ (fun xs : List S46 => xs.length ≤ 9223372036854775807 ∧ ∀ x ∈ xs, B46 x) x.f1 ∧ (fun n : Int => (Lit.int .i64 n).wf = true) x.f2 ∧ (fun n : Int => (Lit.int .i64 n).wf = true) x.f3
theorem opens37 : Opens Try.prog 37 k37 B37 := Opens.struct (fs := _) Try.underlying37 (fun x : S37 => (x.f0, x.f1, x.f2, x.f3)) (fun t => ⟨t.1, t.2.1, t.2.2.1, t.2.2.2⟩) (fun _ => rfl) (OpensF.cons rfl (by kernel_rfl) (Opens.int Try.underlying2) (OpensF.cons rfl (by kernel_rfl) (Opens.slice Try.underlying35 (by kernel_rfl) opens46) (OpensF.cons rfl (by kernel_rfl) (Opens.int Try.underlying2) (OpensF.last rfl (by kernel_rfl) (Opens.int Try.underlying2)))))
def B57 (x : S57) : Prop := (fun n : Int => (Lit.int .i64 n).wf = true) x.f0 ∧ (fun n : Int => (Lit.int .i64 n).wf = true) x.f1
theorem opens57 : Opens Try.prog 57 k57 B57 := Opens.struct (fs := _) Try.underlying57 (fun x : S57 => (x.f0, x.f1)) (fun t => ⟨t.1, t.2⟩) (fun _ => rfl) (OpensF.cons rfl (by kernel_rfl) (Opens.int Try.underlying2) (OpensF.last rfl (by kernel_rfl) (Opens.int Try.underlying2)))
def Pure : Prop := ∀ (x0 : S37) (x1 : (List S57)), B37 x0 → (fun xs : List S57 => xs.length ≤ 9223372036854775807 ∧ ∀ x ∈ xs, B57 x) x1 → ∃ k, isobathlaw02_MooringFreer.f k x0.f0 x0.f1 x0.f2 x0.f3 x1 = some true
theorem own : ownKnob Try.prog.godebug = none := by kernel_rfl
theorem laidOut : laidOutB Try.prog = true := by kernel_rfl
set_option maxRecDepth 100000 in
theorem lifted (hP : Pure) (os : Os) (started : os.Started) (H : Type) (enc : TypeId × Value → H) :
    ReturnsInHanded {} Try.checked os 6 .any (Rows.mooringFreerSpec.pre6 enc Try.prog Try.f6 Rows.mooringFreerRow.domain false) (Rows.mooringFreerSpec.post enc Try.prog Try.f6 false true false false) := by
  refine returnsInHanded_of_change_sized (C := Try.checked) own started (by kernel_rfl) Try.func6
    (ChangeSpec.witness6 (enc := enc) (C := Try.checked) false ⟨#[], #[.agg #[.int .i64 0, .slice none 0 0, .int .i64 0, .int .i64 0], .slice none 0 0], []⟩ 8 (by kernel_rfl) (by kernel_rfl) (by kernel_rfl) (by kernel_rfl)) ?_
  intro W base args ds gs before hval0 hW hcnd hsz0 _
  have hval : ∀ (j : Nat) t v, Try.f6.params[j]? = some t → args[j]? = some v → Value.okWide Try.prog W .any base t v := hval0
  have hW' := hW
  obtain ⟨p, q, hA0, hV, rfl, hfz, hnd⟩ := hW
  have hA : DataW.TrodAll enc Try.prog W 0 (fun _ => true) true Try.f6.params.toList args.toList ds p := hA0
  rw [Try.params6] at hA hval
  obtain ⟨v0, vs0, d0, ds0, p0, q0, hargs, rfl, rfl, h0, r0⟩ := trodAll_cons hA
  obtain ⟨v1, vs1, d1, ds1, p1, q1, rfl, rfl, rfl, h1, r1⟩ := trodAll_cons r0
  obtain ⟨rfl, rfl, rfl⟩ := trodAll_nil r1
  obtain rfl : args = #[v0, v1] := by cases args; simp_all
  obtain ⟨rfl, rfl⟩ := trodVars_none hV
  have k0 := h0
  have lt0 : ∀ x ∈ p0, x.block < W.heap.size := by obtain ⟨m, hm⟩ := k0; exact DataW.trod_lt m _ _ _ hm
  obtain ⟨m0, hm0⟩ := h0
  obtain ⟨x0, hk0, w0⟩ := Opens.run opens37 hm0
  obtain ⟨A0_1, c0_1, hcs0, hc0_1, hr0_1⟩ := k37_open hk0
  obtain rfl := cells_agg hcs0 (by simp)
  have k1 := h1
  have lt1 : ∀ x ∈ p1, x.block < W.heap.size := by obtain ⟨m, hm⟩ := k1; exact DataW.trod_lt m _ _ _ hm
  obtain ⟨m1, hm1⟩ := h1
  obtain ⟨x1, hk1, w1⟩ := Opens.run (Opens.slice Try.underlying48 (by kernel_rfl) opens57) hm1
  obtain ⟨a1, len1, cap1, rfl⟩ := okWide_slice Try.underlying48 (hval 1 48 v1 rfl rfl)
  obtain ⟨A1, c1, hcs1, hc1, hr1⟩ := hk1
  simp [Value.cells] at hcs1
  obtain ⟨rfl, rfl, rfl⟩ := hcs1
  clear hA0 hval0 hsz0
  obtain ⟨k, hf⟩ := hP x0 x1 w0 w1
  refine (isobathlaw02_MooringFreer.calls (k := k) (a0_0 := x0.f0) (A0_1 := A0_1) (c0_1 := c0_1) (l0_1 := x0.f1) (a0_2 := x0.f2) (a0_3 := x0.f3) (A1 := a1) (c1 := cap1) (l1 := x1) (r := true) (w := W) (hr0_1 := hr0_1) (hc0_1 := hc0_1) (hr1 := hr1) (hc1 := hc1) (h := hf)).mono fun e W' ⟨he, hd⟩ => ?_
  have bel : Below W.heap.size W W' := by first | exact hd | (obtain ⟨m, rfl⟩ := hd; exact pw_below_drewN (Below.refl _ _) m)
  subst he
  exact ⟨_, rfl, _, _, _, [], _, [], hW', trodAll_mk1 (shut_bool Try.underlying4 _), (trodAll_cons_mk (Below.trod laidOut (by kernel_rfl) (of_decide_eq_true (by kernel_rfl)) k0 bel lt0) (trodAll_cons_mk (Below.trod laidOut (by kernel_rfl) (of_decide_eq_true (by kernel_rfl)) k1 bel lt1) trodAll_mk0)), rfl, bel.frame _, fun h => by cases h⟩
theorem over (hP : Pure) : Rows.mooringFreerRow.holds Try.pinned (OpenSpec.ofChange Rows.mooringFreerSpec) :=
  OpenClaim.holds_of_wide 6 Try.f6 rfl rfl rfl rfl rfl rfl rfl ⟨rfl, rfl, rfl, rfl, rfl⟩ rfl rfl rfl rfl rfl (by kernel_rfl) Try.func6 (by kernel_rfl)
    (of_decide_eq_true (by kernel_rfl)) (by unfold Func.isWrapper; first | (rw [if_pos (by decide +kernel)]; kernel_rfl) | (rw [if_neg (by decide +kernel)]; exact ⟨rfl, rfl⟩))
    (fun os started H enc _ => lifted hP os started H enc)
theorem proved (hP : Pure) : Rows.MooringFreerSaid := over hP
end mooringFreer
end Go.Proofs.Ytebcmhajbjkojaa.P
namespace Go.Proofs.Ytebcmhajbjkojaa.P
open Go.RowKit Go.Proofs.YtebcmhajbjkojaaW.PrintWords Go.Proofs.YtebcmhajbjkojaaW.PrintLast Go.Proofs.YtebcmhajbjkojaaW.PrintMore
attribute [local go_sem] max2_int min2_int max_two min_two max_three min_three max_four min_four   -- for this text's walks alone
set_option linter.unusedVariables false
set_option linter.unusedSimpArgs false
theorem Law2.fine60 : isobathlaw02_fine.f 60 = some true := by kernel_rfl
theorem Law2.fine {k : Nat} (hk : 60 ≤ k) : isobathlaw02_fine.f k = some true := LeO.up (fun k => isobathlaw02_fine.mono k) hk Law2.fine60
end Go.Proofs.Ytebcmhajbjkojaa.P
namespace Go.Proofs.Ytebcmhajbjkojaa.P
open Go.RowKit Go.Proofs.YtebcmhajbjkojaaW.PrintWords Go.Proofs.YtebcmhajbjkojaaW.PrintLast Go.Proofs.YtebcmhajbjkojaaW.PrintMore
attribute [local go_sem] max2_int min2_int max_two min_two max_three min_three max_four min_four   -- for this text's walks alone
set_option linter.unusedVariables false
set_option linter.unusedSimpArgs false
def mooring_Forces.f (d : Int) (els : List S46) (an fr : Int) (cs : List S57) : Option (List S57 × Int) := if Moor.err d els an fr cs false = 0 then some (Moor.on els cs, 0) else some ([], Moor.err d els an fr cs false)
end Go.Proofs.Ytebcmhajbjkojaa.P
namespace Go.Proofs.Ytebcmhajbjkojaa.P
open Go.RowKit Go.Proofs.YtebcmhajbjkojaaW.PrintWords Go.Proofs.YtebcmhajbjkojaaW.PrintLast Go.Proofs.YtebcmhajbjkojaaW.PrintMore
attribute [local go_sem] max2_int min2_int max_two min_two max_three min_three max_four min_four   -- for this text's walks alone
set_option linter.unusedVariables false
set_option linter.unusedSimpArgs false
def KnockRel (w : World) (gm gt : Nat) (A : Option Addr) (c : Nat) (d an fr : Int) (els : List S46) (P : World → Prop) (kq : Nat) (v10 v27 : Value) (w' : World) : Prop :=
  ∃ j : Nat, kq + j = els.length ∧ v10 = .int .i64 (Moor.long (els.take j)) ∧ v27 = .int .i64 (j : Int) ∧ w'.heap[gt]? = some (.cells #[.int .i64 0, .int .i64 0] 57 (0, 0)) ∧ P w' ∧ Below w.heap.size w w'
theorem KnockRel.next {w w' : World} {gm gt : Nat} {A : Option Addr} {c : Nat} {d an fr : Int} {els : List S46} {P : World → Prop} {kq j : Nat} {s i : Int} (hj : kq + (j + 1) = els.length) (h1 : s = Moor.long (els.take (j + 1))) (h2 : ((j + 1 : Nat) : Int) = i) (h3 : w'.heap[gt]? = some (.cells #[.int .i64 0, .int .i64 0] 57 (0, 0))) (h4 : P w') (hb : Below w.heap.size w w') : KnockRel w gm gt A c d an fr els P kq (.int .i64 s) (.int .i64 i) w' := by
  subst h1; subst h2
  exact ⟨j + 1, hj, rfl, rfl, h3, h4, hb⟩
end Go.Proofs.Ytebcmhajbjkojaa.P
namespace Go.Proofs.Ytebcmhajbjkojaa.P
open Go.RowKit Go.Proofs.YtebcmhajbjkojaaW.PrintWords Go.Proofs.YtebcmhajbjkojaaW.PrintLast Go.Proofs.YtebcmhajbjkojaaW.PrintMore
attribute [local go_sem] max2_int min2_int max_two min_two max_three min_three max_four min_four   -- for this text's walks alone
set_option linter.unusedVariables false
set_option linter.unusedSimpArgs false
def Lifts.T1 : Bool × List (List Nat × List Nat) := (true, [([], []), ([], []), ([1], [1]), ([2], [2]), ([3, 3], [3]), ([0, 4], [0, 4]), ([5], [5]), ([6], [6]), ([6], [6]), ([7, 5, 0, 1, 2, 3, 4, 5, 6, 7], [7]), ([8, 9, 0, 1, 2, 3, 4, 5, 6, 7, 8, 9], [8])])
def Lifts.B1 : List Nat := [0, 0, 2, 6, 14, 31, 63, 127, 127, 255, 1023]
theorem Lifts.tab1 : rtab .any (opsOf Try.f24 1) = Lifts.T1 := by kernel_rfl
theorem Lifts.bits1 : waitsOk Lifts.T1.2 Lifts.B1 = true := by kernel_rfl
end Go.Proofs.Ytebcmhajbjkojaa.P
namespace Go.Proofs.Ytebcmhajbjkojaa.P
open Go.RowKit Go.Proofs.YtebcmhajbjkojaaW.PrintWords Go.Proofs.YtebcmhajbjkojaaW.PrintLast Go.Proofs.YtebcmhajbjkojaaW.PrintMore
attribute [local go_sem] max2_int min2_int max_two min_two max_three min_three max_four min_four   -- for this text's walks alone
set_option linter.unusedVariables false
set_option linter.unusedSimpArgs false
theorem Law2.long (d : Int) (els : List S46) (an fr : Int) (cs : List S57) : isobathlaw02_long.f d els an fr cs = some (decide (60 < els.length ∨ 60 < cs.length)) := by
  unfold isobathlaw02_long.f
  by_cases h : 60 < els.length
  · rw [if_pos (by omega), decide_eq_true (by omega)]
  · rw [if_neg (by omega)]
    by_cases h2 : 60 < cs.length
    · rw [decide_eq_true (by omega), decide_eq_true (by omega)]
    · rw [decide_eq_false (by omega), decide_eq_false (by omega)]
end Go.Proofs.Ytebcmhajbjkojaa.P
namespace Go.Proofs.Ytebcmhajbjkojaa.P
open Go.RowKit Go.Proofs.YtebcmhajbjkojaaW.PrintWords Go.Proofs.YtebcmhajbjkojaaW.PrintLast Go.Proofs.YtebcmhajbjkojaaW.PrintMore
attribute [local go_sem] max2_int min2_int max_two min_two max_three min_three max_four min_four   -- for this text's walks alone
set_option linter.unusedVariables false
set_option linter.unusedSimpArgs false
theorem Moor.rootUp_le {n s : Int} (h0 : 0 ≤ n) (hn : n < 1152921504606846976) (hs : 0 ≤ s) (h : n ≤ s * s) : Moor.rootUp n ≤ s := by
  obtain ⟨r0, r1, r2⟩ := Moor.root_is h0 hn
  unfold Moor.rootUp
  by_cases c : Moor.root n * Moor.root n < n
  · rw [if_pos c]
    have := lt_of_sq (a := Moor.root n) (b := s) hs (by omega)
    omega
  · rw [if_neg c]
    exact le_of_sq hs (by omega)
theorem Moor.le_root {n s : Int} (h0 : 0 ≤ n) (hn : n < 1152921504606846976) (h : s * s ≤ n) : s ≤ Moor.root n := by
  obtain ⟨r0, r1, r2⟩ := Moor.root_is h0 hn
  have := lt_of_sq (a := s) (b := Moor.root n + 1) (by omega) (by omega)
  omega
theorem Moor.root_mono {n m : Int} (h0 : 0 ≤ n) (h : n ≤ m) (hm : m < 1152921504606846976) : Moor.root n ≤ Moor.root m := by
  obtain ⟨r0, r1, r2⟩ := Moor.root_is h0 (Int.lt_of_le_of_lt h hm)
  exact Moor.le_root (Int.le_trans h0 h) hm (Int.le_trans r1 h)
theorem Moor.rootUp_nonneg {n : Int} (h0 : 0 ≤ n) (hn : n < 1152921504606846976) : 0 ≤ Moor.rootUp n := by
  obtain ⟨r0, r1, r2⟩ := Moor.root_is h0 hn
  have := Moor.rootUp_is h0 hn
  omega
theorem Moor.rootUp_mono {n m : Int} (h0 : 0 ≤ n) (h : n ≤ m) (hm : m < 1152921504606846976) : Moor.rootUp n ≤ Moor.rootUp m := by
  have := Moor.rootUp_is (Int.le_trans h0 h) hm
  exact Moor.rootUp_le h0 (Int.lt_of_le_of_lt h hm) (Moor.rootUp_nonneg (Int.le_trans h0 h) hm) (by omega)
theorem Moor.rootUp_step {x y v : Int} (h0 : 0 ≤ x) (h : x ≤ y) (hy : y * y + v * v < 1152921504606846976) (hv : 0 ≤ v * v) : Moor.rootUp (y * y + v * v) ≤ Moor.rootUp (x * x + v * v) + (y - x) := by
  have hxx := sq_le_sq h0 h
  have hx0 := sq_le_sq (a := 0) (Int.le_refl 0) h0
  have hb : 0 ≤ x * x + v * v := by omega
  have u := Moor.rootUp_is hb (by omega)
  have u0 := Moor.rootUp_nonneg hb (by omega)
  have hxr : x ≤ Moor.rootUp (x * x + v * v) := le_of_sq u0 (by omega)
  apply Moor.rootUp_le (by omega) hy (by omega)
  generalize Moor.rootUp (x * x + v * v) = R at *
  obtain ⟨d, rfl⟩ : ∃ d, y = x + d := ⟨y - x, by omega⟩
  have h1 : x * d ≤ R * d := Int.mul_le_mul_of_nonneg_right hxr (by omega)
  have e1 : (x + d) * (x + d) = x * x + 2 * (x * d) + d * d := by grind
  have e2 : (R + (x + d - x)) * (R + (x + d - x)) = R * R + 2 * (R * d) + d * d := by grind
  omega
theorem Moor.ediv_le {a b c : Int} (hb : 0 < b) (h : a ≤ c * b) : a / b ≤ c := by
  have := (Int.ediv_lt_iff_lt_mul (a := a) (b := c + 1) hb).2 (by
    have : (c + 1) * b = c * b + b := by grind
    omega)
  omega
theorem Moor.cdiv_le {a b c : Int} (hb : 0 < b) (h : a ≤ c * b) : (a + b - 1) / b ≤ c := by
  have := (Int.ediv_lt_iff_lt_mul (a := a + b - 1) (b := c + 1) hb).2 (by
    have : (c + 1) * b = c * b + b := by grind
    omega)
  omega
theorem Moor.le_cdiv {a b : Int} (hb : 0 < b) : a ≤ (a + b - 1) / b * b := by
  have h1 := Int.emod_add_mul_ediv (a + b - 1) b
  have h2 := Int.emod_lt_of_pos (a + b - 1) hb
  have h3 : b * ((a + b - 1) / b) = (a + b - 1) / b * b := Int.mul_comm _ _
  omega
theorem Moor.ediv_mul_le {a b : Int} (hb : 0 < b) : a / b * b ≤ a := Int.ediv_mul_le a (by omega)
theorem Moor.offs_lo {l x y v : Int} (hl : 0 ≤ l) (h0 : 0 ≤ x) (h : x ≤ y) (hv : 1 ≤ v) (hy : y * y + v * v < 1152921504606846976) : l * x / Moor.rootUp (x * x + v * v) ≤ l * y / Moor.rootUp (y * y + v * v) := by
  have hvv := sq_le_sq (a := 1) (b := v) (by omega) hv
  have hxx := sq_le_sq h0 h
  have hx0 := sq_le_sq (a := 0) (Int.le_refl 0) h0
  have hs := Moor.rootUp_step h0 h hy (by omega)
  have a1 := Moor.rootUp_is (n := x * x + v * v) (by omega) (by omega)
  have a2 := Moor.rootUp_is (n := y * y + v * v) (by omega) (by omega)
  have b1 := Moor.root_pos (n := x * x + v * v) (by omega) (by omega)
  have b2 := Moor.root_pos (n := y * y + v * v) (by omega) (by omega)
  have hxr : x ≤ Moor.rootUp (x * x + v * v) := le_of_sq (by omega) (by omega)
  generalize Moor.rootUp (x * x + v * v) = R at *
  generalize Moor.rootUp (y * y + v * v) = Q at *
  have q1 := Moor.ediv_mul_le (a := l * x) (b := R) (by omega)
  have q2 : l * x / R ≤ l := Moor.ediv_le (by omega) (Int.mul_le_mul_of_nonneg_left hxr hl)
  have q0 : 0 ≤ l * x / R := Int.ediv_nonneg (Int.mul_nonneg hl h0) (by omega)
  refine (Int.le_ediv_iff_mul_le (by omega)).2 ?_
  generalize l * x / R = q at *
  have s1 : q * Q ≤ q * (R + (y - x)) := Int.mul_le_mul_of_nonneg_left hs q0
  have s2 : q * (y - x) ≤ l * (y - x) := Int.mul_le_mul_of_nonneg_right q2 (by omega)
  have s3 : q * (R + (y - x)) = q * R + q * (y - x) := Int.mul_add _ _ _
  have s4 : l * (y - x) = l * y - l * x := Int.mul_sub _ _ _
  omega
theorem Moor.root_step {x y v : Int} (h0 : 0 ≤ x) (h : x ≤ y) (hy : y * y + v * v < 1152921504606846976) (hv : 0 ≤ v * v) : Moor.root (y * y + v * v) ≤ Moor.root (x * x + v * v) + (y - x) := by
  have hxx := sq_le_sq h0 h
  have hx0 := sq_le_sq (a := 0) (Int.le_refl 0) h0
  obtain ⟨r0, r1, r2⟩ := Moor.root_is (n := y * y + v * v) (by omega) hy
  have hyr : y ≤ Moor.root (y * y + v * v) := Moor.le_root (by omega) hy (by omega)
  have : Moor.root (y * y + v * v) - (y - x) ≤ Moor.root (x * x + v * v) := by
    apply Moor.le_root (by omega) (by omega)
    generalize Moor.root (y * y + v * v) = r at *
    obtain ⟨d, rfl⟩ : ∃ d, y = x + d := ⟨y - x, by omega⟩
    have h1 : (x + d) * d ≤ r * d := Int.mul_le_mul_of_nonneg_right hyr (by omega)
    have e1 : (r - (x + d - x)) * (r - (x + d - x)) = r * r - 2 * (r * d) + d * d := by grind
    have e2 : (x + d) * (x + d) = x * x + 2 * ((x + d) * d) - d * d := by grind
    omega
  omega
theorem Moor.offs_hi {l x y v : Int} (hl : 0 ≤ l) (h0 : 0 ≤ x) (h : x ≤ y) (hv : 1 ≤ v) (hy : y * y + v * v < 1152921504606846976) : min l ((l * x + Moor.root (x * x + v * v) - 1) / Moor.root (x * x + v * v)) ≤ min l ((l * y + Moor.root (y * y + v * v) - 1) / Moor.root (y * y + v * v)) := by
  have hvv := sq_le_sq (a := 1) (b := v) (by omega) hv
  have hxx := sq_le_sq h0 h
  have hx0 := sq_le_sq (a := 0) (Int.le_refl 0) h0
  have hs := Moor.root_step h0 h hy (by omega)
  have b1 := Moor.root_pos (n := x * x + v * v) (by omega) (by omega)
  have b2 := Moor.root_pos (n := y * y + v * v) (by omega) (by omega)
  generalize Moor.root (x * x + v * v) = R at *
  generalize Moor.root (y * y + v * v) = Q at *
  have c := Moor.le_cdiv (a := l * y) (b := Q) (by omega)
  have c0 : 0 ≤ (l * y + Q - 1) / Q := Int.ediv_nonneg (by have := Int.mul_nonneg hl (show 0 ≤ y by omega); omega) (by omega)
  generalize hq : (l * y + Q - 1) / Q = q at *
  by_cases hql : l ≤ q
  · omega
  · have : (l * x + R - 1) / R ≤ q := by
      apply Moor.cdiv_le (by omega)
      have s1 : q * Q ≤ q * (R + (y - x)) := Int.mul_le_mul_of_nonneg_left hs c0
      have s2 : q * (y - x) ≤ l * (y - x) := Int.mul_le_mul_of_nonneg_right (by omega) (by omega)
      have s3 : q * (R + (y - x)) = q * R + q * (y - x) := Int.mul_add _ _ _
      have s4 : l * (y - x) = l * y - l * x := Int.mul_sub _ _ _
      omega
    omega
def Moor.Part (p q : S57) : Prop := q.f0 ≤ p.f0 ∧ p.f0 ≤ p.f1 ∧ p.f1 ≤ q.f1
theorem Moor.sq_part {p q : S57} {v : Int} (hp : Moor.okB p v) (hq : Moor.okB q v) (h : Moor.Part p q) : Moor.sqL q v ≤ Moor.sqL p v ∧ Moor.sqH p v ≤ Moor.sqH q v := by
  have a1 := sq_le_sq hq.1 h.1
  have a2 := sq_le_sq (Int.le_trans hp.1 hp.2.1) h.2.2
  unfold Moor.sqL Moor.sqH
  omega
theorem Moor.offs_part {p q : S57} {l v : Int} (hl : 0 ≤ l) (hp : Moor.okB p v) (hq : Moor.okB q v) (h : Moor.Part p q) : Moor.Part (Moor.offs l p v) (Moor.offs l q v) := by
  have r1 := Moor.sq_range hp
  have r2 := Moor.sq_range hq
  have hh := h.2
  have b := hp
  have b' := hq
  unfold Moor.okB at b b'
  have l1 := Moor.offs_lo (l := l) (x := q.f0) (y := p.f0) (v := v) hl (by omega) h.1 (by omega) (by unfold Moor.sqL at r1; omega)
  have l2 := Moor.offs_hi (l := l) (x := p.f1) (y := q.f1) (v := v) hl (by omega) h.2.2 (by omega) (by unfold Moor.sqH at r2; omega)
  have l3 := Moor.offs_lo (l := l) (x := p.f0) (y := p.f1) (v := v) hl (by omega) (by omega) (by omega) (by unfold Moor.sqH at r1; omega)
  refine ⟨l1, ?_, l2⟩
  unfold Moor.offs
  simp only
  have u := Moor.rootUp_is (n := Moor.sqH p v) (by omega) (by omega)
  have w := Moor.root_pos (n := Moor.sqH p v) (by omega) (by omega)
  have w0 := Moor.rootUp_nonneg (n := Moor.sqL p v) (by omega) (by omega)
  have u0 := Moor.rootUp_is (n := Moor.sqL p v) (by omega) (by omega)
  have w1 := Moor.root_pos (n := Moor.sqL p v) (by omega) (by omega)
  have vv := Moor.sq_bound hp
  have x0 : p.f0 ≤ Moor.rootUp (Moor.sqL p v) := le_of_sq w0 (by unfold Moor.sqL at u0 ⊢; omega)
  have e1 : l * p.f0 / Moor.rootUp (Moor.sqL p v) ≤ l := Moor.ediv_le (by omega) (Int.mul_le_mul_of_nonneg_left x0 hl)
  have c := Moor.le_cdiv (a := l * p.f1) (b := Moor.root (Moor.sqH p v)) (by omega)
  have c0 : 0 ≤ (l * p.f1 + Moor.root (Moor.sqH p v) - 1) / Moor.root (Moor.sqH p v) := Int.ediv_nonneg (by have := Int.mul_nonneg hl (show 0 ≤ p.f1 by omega); omega) (by omega)
  have e2 : l * p.f1 / Moor.rootUp (Moor.sqH p v) ≤ (l * p.f1 + Moor.root (Moor.sqH p v) - 1) / Moor.root (Moor.sqH p v) := Moor.ediv_le (by omega) (Int.le_trans c (Int.mul_le_mul_of_nonneg_left u.1 c0))
  have e3 : l * p.f0 / Moor.rootUp (Moor.sqL p v) ≤ l * p.f1 / Moor.rootUp (Moor.sqH p v) := l3
  omega
theorem Moor.rise_part {p q : S57} {l v : Int} (hl : 0 ≤ l) (hp : Moor.okB p v) (hq : Moor.okB q v) (h : Moor.Part p q) : Moor.Part (Moor.rise l p v) (Moor.rise l q v) := by
  have s := Moor.sq_part hp hq h
  have r1 := Moor.sq_range hp
  have r2 := Moor.sq_range hq
  have b := hp
  unfold Moor.okB at b
  have m1 := Moor.rootUp_mono (n := Moor.sqH p v) (m := Moor.sqH q v) (by omega) s.2 (by omega)
  have m2 := Moor.root_mono (n := Moor.sqL q v) (m := Moor.sqL p v) (by omega) s.1 (by omega)
  have m3 := Moor.root_mono (n := Moor.sqL p v) (m := Moor.sqH p v) (by omega) (by omega) (by omega)
  have u1 := Moor.rootUp_is (n := Moor.sqH p v) (by omega) (by omega)
  have w1 := Moor.root_pos (n := Moor.sqH p v) (by omega) (by omega)
  have w2 := Moor.root_pos (n := Moor.sqL q v) (by omega) (by omega)
  have w3 := Moor.root_pos (n := Moor.sqL p v) (by omega) (by omega)
  have vv := Moor.sq_bound hp
  have hlv : 0 ≤ l * v := Int.mul_nonneg hl (by omega)
  unfold Moor.Part Moor.rise
  simp only
  refine ⟨?_, ?_, ?_⟩
  · have a := Moor.ediv_mul_le (a := l * v) (b := Moor.rootUp (Moor.sqH q v)) (by omega)
    have a0 : 0 ≤ l * v / Moor.rootUp (Moor.sqH q v) := Int.ediv_nonneg hlv (by omega)
    exact (Int.le_ediv_iff_mul_le (by omega)).2 (Int.le_trans (Int.mul_le_mul_of_nonneg_left m1 a0) a)
  · have x0 : v ≤ Moor.rootUp (Moor.sqH p v) := le_of_sq (by omega) (by unfold Moor.sqH at u1 ⊢; omega)
    have e1 : l * v / Moor.rootUp (Moor.sqH p v) ≤ l := Moor.ediv_le (by omega) (Int.mul_le_mul_of_nonneg_left x0 hl)
    have c := Moor.le_cdiv (a := l * v) (b := Moor.root (Moor.sqL p v)) (by omega)
    have c0 : 0 ≤ (l * v + Moor.root (Moor.sqL p v) - 1) / Moor.root (Moor.sqL p v) := Int.ediv_nonneg (by omega) (by omega)
    have e2 : l * v / Moor.rootUp (Moor.sqH p v) ≤ (l * v + Moor.root (Moor.sqL p v) - 1) / Moor.root (Moor.sqL p v) := Moor.ediv_le (by omega) (Int.le_trans c (Int.mul_le_mul_of_nonneg_left (by omega) c0))
    omega
  · have c := Moor.le_cdiv (a := l * v) (b := Moor.root (Moor.sqL q v)) (by omega)
    have c0 : 0 ≤ (l * v + Moor.root (Moor.sqL q v) - 1) / Moor.root (Moor.sqL q v) := Int.ediv_nonneg (by omega) (by omega)
    have e2 : (l * v + Moor.root (Moor.sqL p v) - 1) / Moor.root (Moor.sqL p v) ≤ (l * v + Moor.root (Moor.sqL q v) - 1) / Moor.root (Moor.sqL q v) := Moor.cdiv_le (by omega) (Int.le_trans c (Int.mul_le_mul_of_nonneg_left m2 c0))
    omega
end Go.Proofs.Ytebcmhajbjkojaa.P
namespace Go.Proofs.Ytebcmhajbjkojaa.P
open Go.RowKit Go.Proofs.YtebcmhajbjkojaaW.PrintWords Go.Proofs.YtebcmhajbjkojaaW.PrintLast Go.Proofs.YtebcmhajbjkojaaW.PrintMore
attribute [local go_sem] max2_int min2_int max_two min_two max_three min_three max_four min_four   -- for this text's walks alone
set_option linter.unusedVariables false
set_option linter.unusedSimpArgs false
theorem Moor.within (x lo hi : Int) : isobathref02_within.f x lo hi = some (decide (lo ≤ x) && decide (x ≤ hi)) := by
  unfold isobathref02_within.f
  by_cases h : lo ≤ x
  · rw [if_pos h, decide_eq_true h, Bool.true_and]
  · rw [if_neg h, decide_eq_false h, Bool.false_and]
theorem Moor.refCheck_l0 {d an fr : Int} {els : List S46} (hn : els.length ≤ 9223372036854775807) (n : Nat) : ∀ (k i : Nat), i + n = els.length → n < k →
    isobathref02_Check.l0 k (i : Int) d els an fr = some (if (els.drop i).all Moor.elB = true then 0 else 2) := by
  induction n with
  | zero =>
    intro k i hi hk
    obtain ⟨k, rfl⟩ : ∃ m, k = m + 1 := ⟨k - 1, by omega⟩
    simp only [isobathref02_Check.l0]
    rw [if_neg (by omega), List.drop_of_length_le (by omega)]
    rfl
  | succ n ih =>
    intro k i hi hk
    obtain ⟨k, rfl⟩ : ∃ m, k = m + 1 := ⟨k - 1, by omega⟩
    have hlt : i < els.length := by omega
    simp only [isobathref02_Check.l0]
    rw [if_pos (by omega), if_pos (by omega), wrap_succ hlt hn, ih k (i + 1) (by omega) (by omega), Moor.rdE hlt, drop_cons hlt, List.all_cons]
    simp only [Moor.within, Option.bind_some]
    generalize els[i] = e
    have hE : Moor.elB e = ((decide (0 ≤ e.f0) && decide (e.f0 ≤ 1048576)) && ((decide (-1048576 ≤ e.f1) && decide (e.f1 ≤ 1048576)) && ((decide (0 ≤ e.f2) && decide (e.f2 ≤ 65536)) && (decide (1 ≤ e.f3) && decide (e.f3 ≤ 16777216))))) := by
      unfold Moor.elB
      simp only [Bool.and_assoc]
    rw [hE]
    generalize (decide (0 ≤ e.f0) && decide (e.f0 ≤ 1048576)) = b0
    generalize (decide (-1048576 ≤ e.f1) && decide (e.f1 ≤ 1048576)) = b1
    generalize (decide (0 ≤ e.f2) && decide (e.f2 ≤ 65536)) = b2
    generalize (decide (1 ≤ e.f3) && decide (e.f3 ≤ 16777216)) = b3
    cases b0 <;> cases b1 <;> cases b2 <;> cases b3 <;> simp
theorem Moor.refCheck {d : Int} {els : List S46} {an fr : Int} (hn : els.length ≤ 9223372036854775807) {k : Nat} (hk : 44 ≤ k) : isobathref02_Check.f k d els an fr = some (Moor.chk d els an fr) := by
  obtain ⟨k, rfl⟩ : ∃ m, k = m + 1 := ⟨k - 1, by omega⟩
  unfold isobathref02_Check.f Moor.chk
  by_cases h0 : 40 < els.length
  · rw [if_pos (by omega), if_pos h0]
  rw [if_neg (by omega), if_neg h0]
  have hj : ∀ b, isobathref02_Check.j0 (k + 1) b d els an fr = some (if b = true then 2 else if els.all Moor.elB = true then 0 else 2) := by
    intro b
    simp only [isobathref02_Check.j0]
    cases b with
    | true => rfl
    | false =>
      have h := Moor.refCheck_l0 (d := d) (an := an) (fr := fr) hn els.length k 0 (by omega) (by omega)
      rw [List.drop_zero] at h
      simpa using h
  simp only [Moor.within, Option.bind_some]
  by_cases h1 : els.length = 0
  · rw [if_pos (by omega), hj, if_pos rfl, if_pos (by omega)]
  rw [if_neg (by omega)]
  by_cases h2 : 1 ≤ d ∧ d ≤ 1048576
  · rw [if_pos (by simpa using h2)]
    by_cases h3 : 0 ≤ an ∧ an ≤ 1048576
    · rw [if_pos (by simpa using h3)]
      by_cases h4 : 0 ≤ fr ∧ fr ≤ 1000
      · have e : (decide (0 ≤ fr) && decide (fr ≤ 1000)) = true := by simpa using h4
        rw [e, hj, if_neg (show ¬ ((!true) = true) by decide), if_neg (show ¬ (els.length = 0 ∨ d < 1 ∨ 1048576 < d ∨ an < 0 ∨ 1048576 < an ∨ fr < 0 ∨ 1000 < fr) by omega)]
      · have e : (decide (0 ≤ fr) && decide (fr ≤ 1000)) = false := by
          cases h : (decide (0 ≤ fr) && decide (fr ≤ 1000)) with
          | false => rfl
          | true => exact absurd (by simpa using h) h4
        rw [e, hj, if_pos (show (!false) = true by decide), if_pos (show els.length = 0 ∨ d < 1 ∨ 1048576 < d ∨ an < 0 ∨ 1048576 < an ∨ fr < 0 ∨ 1000 < fr by omega)]
    · rw [if_neg (by simpa using h3), hj, if_pos rfl, if_pos (show els.length = 0 ∨ d < 1 ∨ 1048576 < d ∨ an < 0 ∨ 1048576 < an ∨ fr < 0 ∨ 1000 < fr by omega)]
  · rw [if_neg (by simpa using h2), hj, if_pos rfl, if_pos (show els.length = 0 ∨ d < 1 ∨ 1048576 < d ∨ an < 0 ∨ 1048576 < an ∨ fr < 0 ∨ 1000 < fr by omega)]
theorem Moor.refCurrents_l0 {cs : List S57} (hn : cs.length ≤ 9223372036854775807) (n : Nat) : ∀ (k i : Nat), i + n = cs.length → n < k → isobathref02_currents.l0 k cs (i : Int) = some (if (cs.drop i).all Moor.curB = true then 0 else 2) := by
  induction n with
  | zero =>
    intro k i hi hk
    obtain ⟨k, rfl⟩ : ∃ m, k = m + 1 := ⟨k - 1, by omega⟩
    simp only [isobathref02_currents.l0]
    rw [if_neg (by omega), List.drop_of_length_le (by omega)]
    rfl
  | succ n ih =>
    intro k i hi hk
    obtain ⟨k, rfl⟩ : ∃ m, k = m + 1 := ⟨k - 1, by omega⟩
    have hlt : i < cs.length := by omega
    simp only [isobathref02_currents.l0]
    rw [if_pos (by omega), if_pos (by omega), wrap_succ hlt hn, ih k (i + 1) (by omega) (by omega), Moor.rdS hlt, drop_cons hlt, List.all_cons]
    generalize cs[i] = s
    unfold Moor.curB
    by_cases h0 : s.f0 > s.f1
    · rw [if_pos h0, if_neg (by simp; omega)]
    rw [if_neg h0]
    by_cases h1 : s.f0 < 0
    · rw [if_pos h1, if_neg (by simp; omega)]
    rw [if_neg h1]
    by_cases h2 : s.f1 > 3000
    · rw [if_pos h2, if_neg (by simp; omega)]
    rw [if_neg h2]
    have : (decide (s.f0 ≤ s.f1) && (decide (0 ≤ s.f0) && decide (s.f1 ≤ 3000))) = true := by simp; omega
    rw [this, Bool.true_and]
theorem Moor.err_chk {d an fr : Int} {els : List S46} {cs : List S57} {stand : Bool} (h : Moor.chk d els an fr ≠ 0) : Moor.err d els an fr cs stand = Moor.chk d els an fr := by
  unfold Moor.err
  rw [if_pos h]
theorem Moor.err_len {d an fr : Int} {els : List S46} {cs : List S57} {stand : Bool} (h : Moor.chk d els an fr = 0) (h2 : cs.length ≠ els.length) : Moor.err d els an fr cs stand = 17 := by
  unfold Moor.err
  rw [if_neg (fun e => e h), if_pos h2]
theorem Moor.err_both {d an fr : Int} {els : List S46} {cs : List S57} {stand : Bool} (h : Moor.chk d els an fr = 0) (h2 : cs.length = els.length) : Moor.err d els an fr cs stand = Moor.err2 els cs stand := by
  unfold Moor.err
  rw [if_neg (fun e => e h), if_neg (fun e => e h2)]
theorem Moor.refCurrents {d : Int} {els : List S46} {an fr : Int} {cs : List S57} (hn : els.length ≤ 9223372036854775807) {k : Nat} (hk : 44 ≤ k) : isobathref02_currents.f k d els an fr cs = some (Moor.err d els an fr cs false) := by
  unfold isobathref02_currents.f
  rw [Moor.refCheck hn hk, Option.bind_some]
  by_cases h : Moor.chk d els an fr = 0
  · rw [if_pos h]
    obtain ⟨h40, _⟩ := Moor.chk_ok h
    by_cases h2 : cs.length = els.length
    · rw [if_pos (show (cs.length : Int) = (els.length : Int) by omega), Moor.err_both h h2]
      have h3 := Moor.refCurrents_l0 (cs := cs) (by omega) cs.length k 0 (by omega) (by omega)
      rw [List.drop_zero] at h3
      unfold Moor.err2
      rw [show ((0 : Nat) : Int) = 0 from rfl] at h3
      rw [h3]
      by_cases h4 : cs.all Moor.curB = true
      · rw [if_pos h4, if_pos h4, if_neg (by simp)]
      · rw [if_neg h4, if_neg h4]
    · rw [if_neg (show ¬ (cs.length : Int) = (els.length : Int) by omega), Moor.err_len h h2]
  · rw [if_neg h, Moor.err_chk h]
theorem Moor.refDown {a b : Int} (h : 0 ≤ a) (h1 : a ≤ 9223372036854775807) (hb : 1 ≤ b) : isobathref02_Down.f a b = some (a / b) := by
  have h2 : a / b ≤ a := Int.ediv_le_self _ h
  have h3 : 0 ≤ a / b := Int.ediv_nonneg h (by omega)
  unfold isobathref02_Down.f
  rw [if_neg (by omega), tdiv_pos h, wrap_id (by omega) (by omega)]
theorem Moor.refUp {a b : Int} (h : 0 ≤ a) (h1 : a ≤ 1152921504606846976) (hb : 1 ≤ b) (h2 : b ≤ 1152921504606846976) : isobathref02_Up.f a b = some ((a + b - 1) / b) := by
  have h4 : (a + b - 1) / b ≤ a + b - 1 := Int.ediv_le_self _ (by omega)
  have h3 : 0 ≤ (a + b - 1) / b := Int.ediv_nonneg (by omega) (by omega)
  unfold isobathref02_Up.f
  rw [if_neg (by omega), wrap_id (n := a + b) (by omega) (by omega), wrap_id (n := a + b - 1) (by omega) (by omega), tdiv_pos (by omega), wrap_id (by omega) (by omega)]
theorem Moor.refForces_l0 {d an fr : Int} {els : List S46} {cs : List S57} (h40 : els.length ≤ 40) (hel : ∀ e ∈ els, Moor.elB e = true) (hl : cs.length = els.length) (hc : cs.all Moor.curB = true) (n : Nat) : ∀ (k i : Nat), i + n = els.length → n < k →
    isobathref02_forces.l0 k cs (Moor.on (els.take i) (cs.take i)) (i : Int) d els an fr = some (Moor.on els cs) := by
  induction n with
  | zero =>
    intro k i hi hk
    obtain ⟨k, rfl⟩ : ∃ m, k = m + 1 := ⟨k - 1, by omega⟩
    simp only [isobathref02_forces.l0]
    rw [if_neg (by omega), List.take_of_length_le (by omega), List.take_of_length_le (by omega)]
  | succ n ih =>
    intro k i hi hk
    obtain ⟨k, rfl⟩ : ∃ m, k = m + 1 := ⟨k - 1, by omega⟩
    have h1 : i < els.length := by omega
    have h2 : i < cs.length := by omega
    have ih' := ih k (i + 1) (by omega) (by omega)
    rw [Moor.on_take h1 h2] at ih'
    have he := Moor.elB_iff.1 (hel _ (List.getElem_mem h1))
    have hs := List.all_eq_true.1 hc _ (List.getElem_mem h2)
    unfold Moor.curB at hs
    simp at hs
    have hsm := Moor.on_small (els := els) (cs := cs) (i := i) h40
    simp only [isobathref02_forces.l0]
    rw [if_pos (by omega), if_pos (by omega), if_pos (by omega), Moor.rdE h1, Moor.rdS h2]
    have p0 := Moor.prod_bound (a := els[i].f2) (b := cs[i].f0) (by omega) (by omega) (by omega) (by omega)
    have p1 := Moor.prod_bound (a := els[i].f2) (b := cs[i].f1) (by omega) (by omega) (by omega) (by omega)
    rw [wrap_id (n := els[i].f2 * cs[i].f0) (by omega) (by omega), wrap_id (n := els[i].f2 * cs[i].f0 * cs[i].f0) (by omega) (by omega), Moor.refDown (by omega) (by omega) (by omega), Option.bind_some, wrap_id (n := els[i].f2 * cs[i].f1) (by omega) (by omega), wrap_id (n := els[i].f2 * cs[i].f1 * cs[i].f1) (by omega) (by omega), Moor.refUp (by omega) (by omega) (by omega) (by omega), Option.bind_some, if_pos (by omega), wrap_succ h1 (by omega)]
    have e : (⟨els[i].f2 * cs[i].f0 * cs[i].f0 / 1000000, (els[i].f2 * cs[i].f1 * cs[i].f1 + 1000000 - 1) / 1000000⟩ : S57) = Moor.force els[i] cs[i] := by
      unfold Moor.force
      rw [show els[i].f2 * cs[i].f1 * cs[i].f1 + 1000000 - 1 = els[i].f2 * cs[i].f1 * cs[i].f1 + 999999 by omega]
    rw [e]
    exact ih'
theorem Moor.refForces {d an fr : Int} {els : List S46} {cs : List S57} (h : Moor.Ok d els an fr cs) {k : Nat} (hk : 44 ≤ k) : isobathref02_forces.f k d els an fr cs = some (Moor.on els cs) := by
  have := Moor.refForces_l0 (d := d) (an := an) (fr := fr) h.n40 h.elok h.len h.cur els.length k 0 (by omega) (by have := h.n40; omega)
  exact this
theorem Moor.refLifts_l0 {d an fr : Int} {els : List S46} (h40 : els.length ≤ 40) (hel : ∀ e ∈ els, Moor.elB e = true) (n : Nat) : ∀ (k i : Nat), i + n = els.length → n < k →
    isobathref02_lifts.l0 k (Moor.lifts (els.take i)) (Moor.sumL (els.take i)) (i : Int) d els an fr = some (Moor.lifts els) := by
  induction n with
  | zero =>
    intro k i hi hk
    obtain ⟨k, rfl⟩ : ∃ m, k = m + 1 := ⟨k - 1, by omega⟩
    simp only [isobathref02_lifts.l0]
    rw [if_neg (by omega), List.take_of_length_le (by omega)]
  | succ n ih =>
    intro k i hi hk
    obtain ⟨k, rfl⟩ : ∃ m, k = m + 1 := ⟨k - 1, by omega⟩
    have h1 : i < els.length := by omega
    have ih' := ih k (i + 1) (by omega) (by omega)
    rw [Moor.lifts_take h1, Moor.sumL_take h1] at ih'
    have he := Moor.elB_iff.1 (hel _ (List.getElem_mem h1))
    have hb := Moor.sumL_take_bound hel h40 i
    have hsm := Moor.lifts_small (els := els) (i := i) h40
    simp only [isobathref02_lifts.l0]
    rw [if_pos (by omega), if_pos (by omega), if_pos (by omega), Moor.rdE h1, wrap_id (n := Moor.sumL (els.take i) + els[i].f1) (by omega) (by omega), wrap_succ h1 (by omega)]
    exact ih'
theorem Moor.refLifts {d an fr : Int} {els : List S46} (h40 : els.length ≤ 40) (hel : ∀ e ∈ els, Moor.elB e = true) {k : Nat} (hk : 44 ≤ k) : isobathref02_lifts.f k d els an fr = some (Moor.lifts els) :=
  Moor.refLifts_l0 (d := d) (an := an) (fr := fr) h40 hel els.length k 0 (by omega) (by omega)
theorem Moor.refStands_l0 {xs : List Int} (hn : xs.length ≤ 40) (n : Nat) : ∀ (k i : Nat), i + n = xs.length → n < k → isobathref02_Stands.l0 k xs (i : Int) = some ((xs.drop i).all (fun x => decide (1 ≤ x))) := by
  induction n with
  | zero =>
    intro k i hi hk
    obtain ⟨k, rfl⟩ : ∃ m, k = m + 1 := ⟨k - 1, by omega⟩
    simp only [isobathref02_Stands.l0]
    rw [if_neg (by omega), List.drop_of_length_le (by omega)]
    rfl
  | succ n ih =>
    intro k i hi hk
    obtain ⟨k, rfl⟩ : ∃ m, k = m + 1 := ⟨k - 1, by omega⟩
    have h1 : i < xs.length := by omega
    simp only [isobathref02_Stands.l0]
    rw [if_pos (by omega), if_pos (by omega), rd_nat h1, drop_cons h1, List.all_cons]
    by_cases c : xs[i] < 1
    · rw [if_pos c, decide_eq_false (by omega), Bool.false_and]
    · rw [if_neg c, decide_eq_true (by omega), Bool.true_and, wrap_succ h1 (by omega)]
      exact ih k (i + 1) (by omega) (by omega)
theorem Moor.refStands {d an fr : Int} {els : List S46} (h40 : els.length ≤ 40) (hel : ∀ e ∈ els, Moor.elB e = true) {k : Nat} (hk : 44 ≤ k) : isobathref02_Stands.f k d els an fr = some (Moor.stands els) := by
  unfold isobathref02_Stands.f
  rw [Moor.refLifts h40 hel hk, Option.bind_some]
  have h := Moor.refStands_l0 (xs := Moor.lifts els) (by rw [Moor.lifts_length]; exact h40) (Moor.lifts els).length k 0 (by omega) (by rw [Moor.lifts_length]; omega)
  rw [List.drop_zero] at h
  exact h
end Go.Proofs.Ytebcmhajbjkojaa.P
namespace Go.Proofs.Ytebcmhajbjkojaa.P
open Go.RowKit Go.Proofs.YtebcmhajbjkojaaW.PrintWords Go.Proofs.YtebcmhajbjkojaaW.PrintLast Go.Proofs.YtebcmhajbjkojaaW.PrintMore
attribute [local go_sem] max2_int min2_int max_two min_two max_three min_three max_four min_four   -- for this text's walks alone
set_option linter.unusedVariables false
set_option linter.unusedSimpArgs false
mutual
def isobathref02_pulls.l0 : Nat → Bool → List (S57) → List (S57) → Int → Int → Int → Option ((List (S57)))
  | 0, _, _, _, _, _, _ => none
  | k + 1, x2, x7, x8, x9, x10, x11 => if x11 < (x7.length : Int) then (if 0 ≤ x11 then (if x2 = true then (isobathref02_pulls.l1 k x2 x7 x8 (wrap64 (x9 + ((rd_T57 x7 x11).f0))) (wrap64 (x10 + ((rd_T57 x7 x11).f1))) x11 0 0 (wrap64 (x10 + ((rd_T57 x7 x11).f1)))) else (if x8.length < 8796093022208 then (isobathref02_pulls.l0 k x2 x7 (x8 ++ [(⟨wrap64 (x9 + ((rd_T57 x7 x11).f0)), wrap64 (x10 + ((rd_T57 x7 x11).f1))⟩ : S57)]) (wrap64 (x9 + ((rd_T57 x7 x11).f0))) (wrap64 (x10 + ((rd_T57 x7 x11).f1))) (wrap64 (x11 + 1))) else (none))) else (none)) else (some x8)
def isobathref02_pulls.l1 : Nat → Bool → List (S57) → List (S57) → Int → Int → Int → Int → Int → Int → Option ((List (S57)))
  | 0, _, _, _, _, _, _, _, _, _ => none
  | k + 1, x2, x7, x8, x9, x10, x11, x13, x108000, x108001 => if x13 ≤ x11 then (if 0 ≤ x13 then (if x13 < (x7.length : Int) then (isobathref02_pulls.l1 k x2 x7 x8 x9 x10 x11 (wrap64 (x13 + 1)) (mx x108000 (wrap64 (((rd_T57 x7 x13).f0) - (wrap64 (x10 - ((rd_T57 x7 x13).f1)))))) x108001) else (none)) else (none)) else (if x8.length < 8796093022208 then (isobathref02_pulls.l0 k x2 x7 (x8 ++ [(⟨x108000, x108001⟩ : S57)]) x9 x10 (wrap64 (x11 + 1))) else (none))
end
end Go.Proofs.Ytebcmhajbjkojaa.P
namespace Go.Proofs.Ytebcmhajbjkojaa.P
open Go.RowKit Go.Proofs.YtebcmhajbjkojaaW.PrintWords Go.Proofs.YtebcmhajbjkojaaW.PrintLast Go.Proofs.YtebcmhajbjkojaaW.PrintMore
attribute [local go_sem] max2_int min2_int max_two min_two max_three min_three max_four min_four   -- for this text's walks alone
set_option linter.unusedVariables false
set_option linter.unusedSimpArgs false
theorem Moor.list_at {val : Nat → S57} {n : Nat} {i : Nat} (hi : i < n) : rd_T57 (Moor.list val n) (i : Int) = val i := by
  have h : i < (Moor.list val n).length := by rw [Moor.list_length]; exact hi
  rw [Moor.rdS h]
  simp [Moor.list]
theorem Moor.refForcesF {d an fr : Int} {els : List S46} {cs : List S57} (hn : els.length ≤ 9223372036854775807) {k : Nat} (hk : 2200 ≤ k) : isobathref02_Forces.f k d els an fr cs = mooring_Forces.f d els an fr cs := by
  unfold isobathref02_Forces.f mooring_Forces.f
  rw [Moor.refCurrents hn (by omega), Option.bind_some]
  by_cases he : Moor.err d els an fr cs false = 0
  · rw [if_pos he, if_pos he, Moor.refForces (Moor.err_ok he).1 (by omega), Option.bind_some]
  · rw [if_neg he, if_neg he]
end Go.Proofs.Ytebcmhajbjkojaa.P
namespace Go.Proofs.Ytebcmhajbjkojaa.P
open Go.RowKit Go.Proofs.YtebcmhajbjkojaaW.PrintWords Go.Proofs.YtebcmhajbjkojaaW.PrintLast Go.Proofs.YtebcmhajbjkojaaW.PrintMore
attribute [local go_sem] max2_int min2_int max_two min_two max_three min_three max_four min_four   -- for this text's walks alone
set_option linter.unusedVariables false
set_option linter.unusedSimpArgs false
theorem Moor.Ok.err0 {d an fr : Int} {els : List S46} {cs : List S57} (h : Moor.Ok d els an fr cs) (hs : Moor.stands els = true) (stand : Bool) : Moor.err d els an fr cs stand = 0 := by
  rw [Moor.err_both h.chk h.len]
  unfold Moor.err2
  rw [if_pos h.cur, hs, if_neg (by simp)]
theorem Law2.valid (d : Int) {els : List S46} (an fr : Int) (cs : List S57) (hn : els.length ≤ 9223372036854775807) {k : Nat} (hk : 2200 ≤ k) : ∃ b, isobathlaw02_valid.f k d els an fr cs = some b ∧ (b = true → els.length ≤ 60 ∧ cs.length ≤ 60 ∧ Moor.Ok d els an fr cs ∧ Moor.stands els = true) := by
  unfold isobathlaw02_valid.f
  rw [Moor.refForcesF hn hk, Law2.long]
  unfold mooring_Forces.f
  by_cases he : Moor.err d els an fr cs false = 0
  · rw [if_pos he]
    obtain ⟨ho, _⟩ := Moor.err_ok he
    simp only [Option.bind_some]
    by_cases h : 60 < els.length ∨ 60 < cs.length
    · rw [decide_eq_true h, if_pos rfl]
      exact ⟨_, rfl, by simp⟩
    · rw [decide_eq_false h, if_neg (by decide), if_pos trivial, Moor.refStands ho.n40 ho.elok (by omega), Option.bind_some]
      exact ⟨_, rfl, fun hb => ⟨by omega, by omega, ho, hb⟩⟩
  · rw [if_neg he]
    simp only [Option.bind_some]
    by_cases h : 60 < els.length ∨ 60 < cs.length
    · rw [decide_eq_true h, if_pos rfl]
      exact ⟨_, rfl, by simp⟩
    · rw [decide_eq_false h, if_neg (by decide), if_neg he]
      exact ⟨_, rfl, by simp⟩
theorem Law2.inside_l0 {xs ys : List S57} (hn : xs.length ≤ 60) (hl : xs.length = ys.length) (h : ∀ i : Nat, i < xs.length → Moor.Part (rd_T57 xs (i : Int)) (rd_T57 ys (i : Int))) (n : Nat) : ∀ (k i : Nat), i + n = xs.length → n < k → isobathlaw02_inside.l0 k xs ys (i : Int) = some true := by
  induction n with
  | zero =>
    intro k i hi hk
    obtain ⟨k, rfl⟩ : ∃ m, k = m + 1 := ⟨k - 1, by omega⟩
    simp only [isobathlaw02_inside.l0]
    rw [if_neg (by omega)]
  | succ n ih =>
    intro k i hi hk
    obtain ⟨k, rfl⟩ : ∃ m, k = m + 1 := ⟨k - 1, by omega⟩
    have hlt : i < xs.length := by omega
    obtain ⟨h1, h2, h3⟩ := h i hlt
    simp only [isobathlaw02_inside.l0]
    rw [if_pos (by omega), if_pos (by omega), if_pos (by omega), if_neg (by omega), if_neg (by omega), if_neg (by omega), wrap_succ hlt (by omega)]
    exact ih k (i + 1) (by omega) (by omega)
theorem Law2.inside {xs ys : List S57} (hn : xs.length ≤ 60) (hl : xs.length = ys.length) (h : ∀ i : Nat, i < xs.length → Moor.Part (rd_T57 xs (i : Int)) (rd_T57 ys (i : Int))) {k : Nat} (hk : 61 ≤ k) : isobathlaw02_inside.f k xs ys = some true := by
  unfold isobathlaw02_inside.f
  rw [if_pos (by omega)]
  exact Law2.inside_l0 hn hl h xs.length k 0 (by omega) (by omega)
theorem Moor.pullsFrom_free {on : List S57} (h : ∀ x ∈ on, Moor.onB x) : ∀ (lo hi m : Int) (i : Nat) (p q : S57), 0 ≤ lo → lo ≤ hi → m ≤ lo + hi → (Moor.pullsFrom false lo hi m on)[i]? = some p → (Moor.pullsFrom true lo hi m on)[i]? = some q → Moor.Part p q ∧ q.f1 = p.f1 ∧ (i = 0 → hi = 0 → m = 0 → q.f0 = p.f0) := by
  induction on with
  | nil => intro lo hi m i p q _ _ _ hp; simp [Moor.pullsFrom] at hp
  | cons x xs ih =>
    intro lo hi m i p q h0 h1 h2 hp hq
    have hx := h x List.mem_cons_self
    unfold Moor.onB at hx
    cases i with
    | zero =>
      simp [Moor.pullsFrom] at hp hq
      subst hp hq
      unfold Moor.Part
      simp only
      refine ⟨⟨by omega, by omega, by omega⟩, trivial, fun _ h3 h4 => by omega⟩
    | succ i =>
      simp only [Moor.pullsFrom, List.getElem?_cons_succ] at hp hq
      obtain ⟨a1, a2, _⟩ := ih (fun y hy => h y (List.mem_cons_of_mem _ hy)) _ _ _ i p q (by omega) (by omega) (by omega) hp hq
      exact ⟨a1, a2, fun h => by cases h⟩
theorem Moor.shi_list_congr {val val' : Nat → S57} (n : Nat) (h : ∀ i, i < n → (val i).f1 = (val' i).f1) : Moor.shi (Moor.list val n) = Moor.shi (Moor.list val' n) := by
  induction n with
  | zero => rfl
  | succ n ih => rw [Moor.list_succ, Moor.list_succ, Moor.shi_app, Moor.shi_app, ih (fun i hi => h i (by omega)), Moor.shi, Moor.shi, h n (by omega), Moor.shi, Moor.shi]
theorem Law2.freer_l0 {xs ys : List S57} (hn : xs.length ≤ 60) (hl : xs.length = ys.length) (h0 : 0 < xs.length) (hz : rd_T57 xs 0 = rd_T57 ys 0) (h : ∀ i : Nat, i < xs.length → (rd_T57 xs (i : Int)).f1 = (rd_T57 ys (i : Int)).f1) (n : Nat) : ∀ (k i : Nat), i + n = xs.length → n + 100 < k → isobathlaw02_MooringFreer.l0 k xs ys (i : Int) = some true := by
  induction n with
  | zero =>
    intro k i hi hk
    obtain ⟨k, rfl⟩ : ∃ m, k = m + 1 := ⟨k - 1, by omega⟩
    simp only [isobathlaw02_MooringFreer.l0]
    rw [if_neg (by omega), if_pos (by omega), if_pos (by omega), hz]
    simp only [beq_self_eq_true, Bool.and_self, if_true]
    rw [Law2.fine (by omega), Option.bind_some]
  | succ n ih =>
    intro k i hi hk
    obtain ⟨k, rfl⟩ : ∃ m, k = m + 1 := ⟨k - 1, by omega⟩
    have hlt : i < xs.length := by omega
    simp only [isobathlaw02_MooringFreer.l0]
    rw [if_pos (by omega), if_pos (by omega), if_pos (by omega), if_pos (h i hlt), wrap_succ hlt (by omega)]
    exact ih k (i + 1) (by omega) (by omega)
theorem S57.ext' {a b : S57} (h0 : a.f0 = b.f0) (h1 : a.f1 = b.f1) : a = b := by
  cases a; cases b; simp only at h0 h1; rw [h0, h1]
theorem Law2.freer (d : Int) {els : List S46} (an fr : Int) (cs : List S57) (hn : els.length ≤ 9223372036854775807) : isobathlaw02_MooringFreer.f 3000 d els an fr cs = some true := by
  obtain ⟨b, hb, hv⟩ := Law2.valid d an fr cs hn (k := 3000) (by omega)
  unfold isobathlaw02_MooringFreer.f
  rw [hb, Option.bind_some]
  cases b with
  | false => rw [if_neg (by decide), Law2.fine (by omega), Option.bind_some]
  | true =>
    rw [if_pos rfl]
    obtain ⟨h60, -, ho, hs⟩ := hv rfl
    have e0 := ho.err0 hs false
    have e1 := ho.err0 hs true
    have hl0 := ho.pulllen false
    have hl1 := ho.pulllen true
    have hon := Moor.on_onB ho.elok ho.cur
    have hpos := (Moor.chk_ok ho.chk).2.1
    have rel : ∀ i : Nat, i < els.length → Moor.Part (rd_T57 (Moor.pulls false (Moor.on els cs)) (i : Int)) (rd_T57 (Moor.pulls true (Moor.on els cs)) (i : Int)) ∧ (rd_T57 (Moor.pulls true (Moor.on els cs)) (i : Int)).f1 = (rd_T57 (Moor.pulls false (Moor.on els cs)) (i : Int)).f1 ∧ (i = 0 → (rd_T57 (Moor.pulls true (Moor.on els cs)) (i : Int)).f0 = (rd_T57 (Moor.pulls false (Moor.on els cs)) (i : Int)).f0) := by
      intro i hi
      obtain ⟨-, p0, -⟩ := ho.at hs false hi
      obtain ⟨-, p1, -⟩ := ho.at hs true hi
      obtain ⟨a, b, c⟩ := Moor.pullsFrom_free hon 0 0 0 i _ _ (by omega) (by omega) (by omega) p0 p1
      exact ⟨a, b, fun h => c h rfl rfl⟩
    unfold mooring_Pulls.f mooring_Shape.f mooring_Circle.f
    simp only [e0, e1, if_true, Option.bind_some]
    rw [if_pos (by decide +kernel)]
    rw [Law2.inside (by omega) (by omega) (fun i hi => (rel i (by omega)).1) (by omega), Option.bind_some, if_pos rfl]
    rw [Law2.inside (by rw [Moor.list_length]; omega) (by rw [Moor.list_length, Moor.list_length]) (fun i hi => by
      rw [Moor.list_length] at hi
      rw [Moor.list_at hi, Moor.list_at hi]
      obtain ⟨-, -, -, p4, p5, -⟩ := ho.at hs false hi
      obtain ⟨-, -, -, q4, -, -⟩ := ho.at hs true hi
      exact Moor.offs_part p5 p4 q4 (rel i hi).1) (by omega), Option.bind_some, if_pos rfl]
    rw [Law2.inside (by rw [Moor.list_length]; omega) (by rw [Moor.list_length, Moor.list_length]) (fun i hi => by
      rw [Moor.list_length] at hi
      rw [Moor.list_at hi, Moor.list_at hi]
      obtain ⟨-, -, -, p4, p5, -⟩ := ho.at hs false hi
      obtain ⟨-, -, -, q4, -, -⟩ := ho.at hs true hi
      exact Moor.rise_part p5 p4 q4 (rel i hi).1) (by omega), Option.bind_some, if_pos rfl]
    rw [if_pos (Moor.shi_list_congr _ (fun i hi => by
      unfold Moor.offsAt Moor.offs Moor.sqH
      rw [(rel i hi).2.1]))]
    simp only [isobathlaw02_MooringFreer.j0]
    rw [if_neg (by rw [beq_iff_eq]; omega)]
    obtain ⟨-, r1, r2⟩ := rel 0 hpos
    exact Law2.freer_l0 (by omega) (by omega) (by omega) (S57.ext' (r2 rfl).symm r1.symm) (fun i hi => (rel i (by omega)).2.1.symm) (Moor.pulls false (Moor.on els cs)).length 2999 0 (by omega) (by omega)
theorem mooringFreer_holds : Rows.MooringFreerSaid := mooringFreer.proved fun m cs hm _ => ⟨3000, Law2.freer m.f0 m.f2 m.f3 cs hm.2.1.1⟩
#print axioms mooringFreer_holds
end Go.Proofs.Ytebcmhajbjkojaa.P
