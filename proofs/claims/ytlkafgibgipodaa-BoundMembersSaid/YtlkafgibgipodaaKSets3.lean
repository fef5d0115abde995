/- Sets of layer 1, walked and in closed form. Part 4 of 4. -/
-- Put together by wip/tools/shake.py, a program of this work: out of the words that the kit's print tool (print.sh) writes for a claim and what wip/tools/xprint.py prints, those that this claim reaches, and this work's own texts.
import Derived.Deep.Slices
import Derived.OpenShut
import Derived.Test.YtlkafgibgipodaaKSets2
namespace Go.Proofs.Ytlkafgibgipodaa.P
open Go.RowKit Go.Proofs.YtlkafgibgipodaaW.PrintWords Go.Proofs.YtlkafgibgipodaaW.PrintLast Go.Proofs.YtlkafgibgipodaaW.PrintMore
attribute [local go_sem] max2_int min2_int max_two min_two max_three min_three max_four min_four   -- for this text's walks alone
set_option linter.unusedVariables false
set_option linter.unusedSimpArgs false
def bound_Outside.l0 : Nat → List (S32) → Int → List (S32) → Int → Int → Int → Int → Option ((List (S32)) × Int)
 | 0, _, _, _, _, _, _, _ => none
 | k + 1, x8, x9, x27, x28, x29, x102000, x102001 => if x29 < x28 then (if 0 ≤ x29 then (if x29 < (x27.length : Int) then ((bound_meet.f x102000 x102001 x9 (wrap64 (((rd_T32 x27 x29).f0) - 1))).bind fun bt109 => (if bt109.2.2 = true then (if x8.length < 8796093022208 then (bound_Outside.l0 k (x8 ++ [(⟨bt109.1, bt109.2.1⟩ : S32)]) (mx x9 (wrap64 (((rd_T32 x27 x29).f1) + 1))) x27 x28 (wrap64 (x29 + 1)) x102000 x102001) else (none)) else (bound_Outside.l0 k x8 (mx x9 (wrap64 (((rd_T32 x27 x29).f1) + 1))) x27 x28 (wrap64 (x29 + 1)) x102000 x102001))) else (none)) else (none)) else (if x9 ≤ x102001 then (if x8.length < 8796093022208 then ((bound_few.f (x8 ++ [(⟨x9, x102001⟩ : S32)])).bind fun bt119 => (some (bt119.1, bt119.2))) else (none)) else ((bound_few.f x8).bind fun bt123 => (some (bt123.1, bt123.2))))
def bound_Outside.f (k : Nat) (l0 : List (S32)) (a1_0 : Int) (a1_1 : Int) : Option ((List (S32)) × Int) := (bound_CheckSet.f k l0).bind fun t102 => (if t102 = 0 then ((bound_check.f k (([(⟨a1_0, a1_1⟩ : S32)] : List (S32)))).bind fun t106 => (if t106 = 0 then (bound_Outside.l0 k ([] : List (S32)) a1_0 l0 (l0.length : Int) 0 a1_0 a1_1) else (some (([] : List (S32)), t106)))) else (some (([] : List (S32)), t102)))
theorem bound_Outside.mono_l : ∀ k, (∀ y0 y1 y2 y3 y4 y5 y6, LeO (bound_Outside.l0 k y0 y1 y2 y3 y4 y5 y6) (bound_Outside.l0 (k + 1) y0 y1 y2 y3 y4 y5 y6))
 | 0 => fun _ _ _ _ _ _ _ r h => by simp [bound_Outside.l0] at h
 | k + 1 => by
  have ih0 := bound_Outside.mono_l k
  intro y0 y1 y2 y3 y4 y5 y6
  unfold bound_Outside.l0
  repeat' first
  | (with_reducible exact ih0 _ _ _ _ _ _ _)
  | (with_reducible exact bound_CheckSet.mono _ _)
  | (with_reducible exact bound_check.mono _ _)
  | (with_reducible exact LeO.refl _)
  | (with_reducible exact LeO.none _)
  | (with_reducible refine LeO.ite ?_ ?_)
  | (with_reducible refine LeO.bind ?_ (fun _ => ?_))
  | exact ih0 _ _ _ _ _ _ _
  | exact bound_CheckSet.mono _ _
  | exact bound_check.mono _ _
  | exact LeO.none _
  | refine LeO.ite ?_ ?_
  | refine LeO.bind ?_ (fun _ => ?_)
theorem bound_Outside.mono : ∀ a0 a1 a2 k, LeO (bound_Outside.f k a0 a1 a2) (bound_Outside.f (k + 1) a0 a1 a2) := by
 intro a0 a1 a2 k
 have ih0 := bound_Outside.mono_l k
 unfold bound_Outside.f
 repeat' first
   | (with_reducible exact ih0 _ _ _ _ _ _ _)
   | (with_reducible exact bound_CheckSet.mono _ _)
   | (with_reducible exact bound_check.mono _ _)
   | (with_reducible exact LeO.refl _)
   | (with_reducible exact LeO.none _)
   | (with_reducible refine LeO.ite ?_ ?_)
   | (with_reducible refine LeO.bind ?_ (fun _ => ?_))
   | exact ih0 _ _ _ _ _ _ _
   | exact bound_CheckSet.mono _ _
   | exact bound_check.mono _ _
   | exact LeO.none _
   | refine LeO.ite ?_ ?_
   | refine LeO.bind ?_ (fun _ => ?_)
set_option maxHeartbeats 8000000 in
set_option maxRecDepth 100000 in
theorem bound_Outside.calls (k : Nat) (A0 : Option Addr) (c0 : Nat) (l0 : List (S32)) (a1_0 : Int) (a1_1 : Int) (r1 : List (S32)) (r2 : Int) (w : World) (hr0 : Kd.C k32 w A0 l0.length l0) (hc0 : l0.length ≤ c0) (h : bound_Outside.f k l0 a1_0 a1_1 = some (r1, r2)) :
  Calls Try.prog 43 #[.slice A0 l0.length c0, .agg #[.int .i64 a1_0, .int .i64 a1_1]] w fun e w' => ∃ v0_ : Value, e = .returned (.tuple #[v0_, .int .i64 r2]) ∧ Kd.R k32 32 w' w.heap.size (fun _ => True) v0_ r1 ∧ Below w.heap.size w w' := by
 have hu32 := Try.underlying32
 have HR0 := zam hr0
 have HC0 := zam hc0
 clear hr0 hc0
 have HB := zam (Below.refl w.heap.size w)
 have H : ((bound_CheckSet.f k l0).bind fun t102 => (if t102 = 0 then ((bound_check.f k (([(⟨a1_0, a1_1⟩ : S32)] : List (S32)))).bind fun t106 => (if t106 = 0 then (bound_Outside.l0 k ([] : List (S32)) a1_0 l0 (l0.length : Int) 0 a1_0 a1_1) else (some (([] : List (S32)), t106)))) else (some (([] : List (S32)), t102)))) = some (r1, r2) := h
 clear h
 replace H := Option.bind_eq_some_iff.mp H
 obtain ⟨t102, A30, H⟩ := H
 replace H : (if t102 = 0 then ((bound_check.f k (([(⟨a1_0, a1_1⟩ : S32)] : List (S32)))).bind fun t106 => (if t106 = 0 then (bound_Outside.l0 k ([] : List (S32)) a1_0 l0 (l0.length : Int) 0 a1_0 a1_1) else (some (([] : List (S32)), t106)))) else (some (([] : List (S32)), t102))) = some (r1, r2) := H
 have A3 := zam A30
 clear A30
 by_cases c4 : t102 = 0
 ·rw [if_pos c4] at H
  have c4b0 : (t102 == 0) = true := beq_iff_eq.mpr c4
  have c4b1 : (t102 != 0) = false := bne_eq_false_iff_eq.mpr c4
  clear c4
  obtain ⟨y103, hy103⟩ : ∃ y_ : List (S32), y_ = (([(⟨a1_0, a1_1⟩ : S32)] : List (S32))) := ⟨_, rfl⟩
  replace H : ((bound_check.f k y103).bind fun t106 => (if t106 = 0 then (bound_Outside.l0 k ([] : List (S32)) a1_0 l0 (l0.length : Int) 0 a1_0 a1_1) else (some (([] : List (S32)), t106)))) = some (r1, r2) := by first | (rw [hy103]; with_reducible exact H) | (have H2_ := (Option.bind_some _ _).symm.trans H; rw [hy103]; with_reducible exact H2_) | (have H2_ := (Option.bind_some _ _).symm.trans H; with_reducible exact H2_) | with_reducible exact H | (rw [hy103]; exact H) | exact H
  have Ny103 := zam hy103
  clear hy103
  replace H := Option.bind_eq_some_iff.mp H
  obtain ⟨t106, A50, H⟩ := H
  replace H : (if t106 = 0 then (bound_Outside.l0 k ([] : List (S32)) a1_0 l0 (l0.length : Int) 0 a1_0 a1_1) else (some (([] : List (S32)), t106))) = some (r1, r2) := H
  have A5 := zam A50
  clear A50
  by_cases c6 : t106 = 0
  ·rw [if_pos c6] at H
   have c6b0 : (t106 == 0) = true := beq_iff_eq.mpr c6
   have c6b1 : (t106 != 0) = false := bne_eq_false_iff_eq.mpr c6
   clear c6
   have H' := zam H
   clear H
   go_enter Try.func43, Try.ntmps43
   go_wp2_with (first | ((with_reducible refine zgd (N := 3) rfl ?_); refine box_event ?hg (N := 3) ?hd (cs := #[.int .i64 a1_0, .int .i64 a1_1]) (t := 32) ?hr ?_; (case hd => rfl); (case hg => rfl); (case hr => first | (go_simp; done) | (go_simp; rfl)); intro gb101 hg w7 hbox hb; have n0_ := zam (zbt (by repeat (first | (with_reducible first | exact HB.out | apply zba | apply zbn | apply zb1) | exact HB.out)) hb); have n1_ := zam (hbox); have n2_ := zam ((by rw [hg]; exact (zbz (by repeat (first | (with_reducible first | exact HB.out | apply zba | apply zbn | apply zb1) | exact HB.out))) : w.heap.size ≤ gb101)); have n3_ := zam ((by rw [hg]; exact (zbz (by repeat (first | (with_reducible first | exact HB.out | apply zba | apply zbn | apply zb1) | exact HB.out))) : w.heap.size ≤ gb101)); clear HB; have HB := n0_; have BK101 := n1_; have GW101 := n2_; have GE101 := n3_; clear n0_ n1_ n2_ n3_; clear hb hbox hg) | ((with_reducible refine zgc (f := 44) rfl ?_); refine goesL_ (some 15) rfl rfl Try.func44 (by kernel_rfl) rfl #[.slice A0 l0.length c0] rfl (by (try simp only [zmt, List.map_cons, List.map_nil]); first | done | rfl | (simp only [zld, zlt]; rfl)) ?_; (with_reducible refine (bound_CheckSet.calls k _ _ l0 t102 _ ?side1 ?side2 A3.out).mono ?_); (case side1 => repeat (first | exact (Kd.C_below HR0.out HB.out) | (with_reducible refine Kd.C_alloc ?_ _) | (with_reducible refine Kd.C_drewN ?_ _) | (with_reducible refine Kd.C_drew ?_))); (case side2 => exact HC0.out); rintro e w8 ⟨rfl, hb⟩; refine ⟨_, rfl, ?_⟩; have n0_ := zam (zkb (g := gb101) (o := .cells #[.int .i64 a1_0, .int .i64 a1_1] 32 (0, 0)) (by (with_reducible repeat (first | refine zkn ?_ _ | refine zkd ?_ | refine zka ?_ _)); exact BK101.out) hb); have n1_ := zam (zbt (by repeat (first | (with_reducible first | exact HB.out | apply zba | apply zbn | apply zb1 | refine zbs ?_ GE101.out) | exact HB.out)) hb); clear BK101; clear HB; have BK101 := n0_; have HB := n1_; clear n0_ n1_; (try clear hb); (try clear hb2); (try clear hk); (try clear hi); have hcz9_0 : w8.cell? ⟨gb101, 0, none⟩ = some (.int .i64 a1_0) := (zkc BK101.out 0).trans rfl; have hcz9_1 : w8.cell? ⟨gb101, 1, none⟩ = some (.int .i64 a1_1) := (zkc BK101.out 1).trans rfl; have hfz9_0 := zkz BK101.out 0; have hfz9_1 := zkz BK101.out 1) | ((with_reducible refine zgd (N := 20) rfl ?_); refine Kd.R_lit k32 _ 32 ?hg (N := 20) ?hd (xs := ([(⟨a1_0, a1_1⟩ : S32)] : List (S32))) (inner := [.int .i64 a1_0, .int .i64 a1_1]) (ok := fun _ => True) (okp := fun _ => True) ?hr ?hp (fun _ hk => hk) trivial (Below.refl _ _) (Nat.le_refl _) (by simp) ?_; (case hd => rfl); (case hg => rfl); (case hr => first | (go_simp; done) | (go_simp; rfl)); (case hp => exact (Reps.c2 (show Kd.M k32 _ _ _ (⟨a1_0, a1_1⟩ : S32) [.int .i64 a1_0, .int .i64 a1_1] from (k32_mkM _ _ _ (⟨a1_0, a1_1⟩ : S32) )) (Reps.none _ _))); intro v104 w10 ho11 hb hg_ hnew_; clear hg_ hnew_; (first | rw [← Ny103.out] at ho11 | (simp only [Int.reduceToNat] at ho11; rw [← Ny103.out] at ho11)); have n0_ := zam (Kd.R_lower (Kd.R_newB ho11 (g := gb101) (o := .cells #[.int .i64 a1_0, .int .i64 a1_1] 32 (0, 0)) (by (with_reducible repeat (first | refine zkn ?_ _ | refine zkd ?_ | refine zka ?_ _)); exact BK101.out)) (zbz (by repeat (first | (with_reducible first | exact HB.out | apply zba | apply zbn | apply zb1 | refine zbs ?_ GE101.out) | exact HB.out)))); have n1_ := zam (zkb (g := gb101) (o := .cells #[.int .i64 a1_0, .int .i64 a1_1] 32 (0, 0)) (by (with_reducible repeat (first | refine zkn ?_ _ | refine zkd ?_ | refine zka ?_ _)); exact BK101.out) hb); have n2_ := zam (zbt (by repeat (first | (with_reducible first | exact HB.out | apply zba | apply zbn | apply zb1 | refine zbs ?_ GE101.out) | exact HB.out)) hb); clear BK101; clear HB; have HO105 := n0_; have BK101 := n1_; have HB := n2_; clear n0_ n1_ n2_; clear hb ho11; obtain ⟨Ao12, co12, eo12⟩ := Kd.R_slice HO105.out; subst eo12) | ((with_reducible refine zgc (f := 80) rfl ?_); refine goesL_ (some 21) rfl rfl Try.func80 (by kernel_rfl) rfl #[.slice Ao12 y103.length co12] rfl (by (try simp only [zmt, List.map_cons, List.map_nil]); first | done | rfl | (simp only [zld, zlt]; rfl)) ?_; (with_reducible refine (bound_check.calls k _ _ y103 t106 _ ?side1 ?side2 A5.out).mono ?_); (case side1 => repeat (first | exact (Kd.R_reads' HO105.out).2.2 | (with_reducible refine Kd.C_alloc ?_ _) | (with_reducible refine Kd.C_drewN ?_ _) | (with_reducible refine Kd.C_drew ?_))); (case side2 => exact (Kd.R_reads' HO105.out).2.1); rintro e w13 ⟨rfl, hb⟩; refine ⟨_, rfl, ?_⟩; have n0_ := zam (Kd.R_below (by (with_reducible repeat (first | apply zRa | apply zRn | apply zRd)); exact HO105.out) hb); have n1_ := zam (zkb (g := gb101) (o := .cells #[.int .i64 a1_0, .int .i64 a1_1] 32 (0, 0)) (by (with_reducible repeat (first | refine zkn ?_ _ | refine zkd ?_ | refine zka ?_ _)); exact BK101.out) hb); have n2_ := zam (zbt (by repeat (first | (with_reducible first | exact HB.out | apply zba | apply zbn | apply zb1 | refine zbs ?_ GE101.out) | exact HB.out)) hb); clear HO105; clear BK101; clear HB; have HO105 := n0_; have BK101 := n1_; have HB := n2_; clear n0_ n1_ n2_; (try clear hb); (try clear hb2); (try clear hk); (try clear hi); have hcz14_0 : w13.cell? ⟨gb101, 0, none⟩ = some (.int .i64 a1_0) := (zkc BK101.out 0).trans rfl; have hcz14_1 : w13.cell? ⟨gb101, 1, none⟩ = some (.int .i64 a1_1) := (zkc BK101.out 1).trans rfl; have hfz14_0 := zkz BK101.out 0; have hfz14_1 := zkz BK101.out 1))
   go_loopg [8, 9, 29] k (fun kq v8 v9 v29 w' => ∃ (x8_1 : List (S32)) (x9_1 : Int) (x29_1 : Int), v9 = .int .i64 x9_1 ∧ v29 = .int .i64 x29_1 ∧ Aside0 (bound_Outside.l0 kq x8_1 x9_1 l0 (l0.length : Int) x29_1 a1_0 a1_1 = some (r1, r2)) ∧ Aside0 (kq ≤ k) ∧ Aside0 (Kd.R k32 32 w' w.heap.size (fun k_ => k_ ≠ gb101) v8 x8_1) ∧ Aside0 (w'.heap[gb101]? = some (.cells #[.int .i64 a1_0, .int .i64 a1_1] 32 (0, 0))) ∧ Aside0 (Below w.heap.size w w'))
   case atStart => exact ⟨(([] : List (S32))), (a1_0), (0), (by first | rfl | (simp; done) | (simp [*]; done)), (by first | rfl | (simp; done) | (simp [*]; done)), H', ⟨Nat.le_refl _⟩, ⟨by first | exact Kd.R_nil _ _ _ _ _ | exact Kd.N_nil _ _ _ _ _ | exact Kd.V_nil _ _ _ _ _ | exact Kd.Q_nil _ _ _ _ _ | exact Kd.S_nil _ _ _ _ _⟩, ⟨by (with_reducible repeat (first | refine zkn ?_ _ | refine zkd ?_ | refine zka ?_ _)); exact BK101.out⟩, ⟨by repeat (first | (with_reducible first | exact HB.out | apply zba | apply zbn | apply zb1 | refine zbs ?_ GE101.out) | exact HB.out)⟩⟩
   case round =>
    clear H'
    try clear c2
    try clear p2
    try clear c4
    try clear c4b0
    try clear c4b1
    try clear c6
    try clear c6b0
    try clear c6b1
    try clear c8
    try clear hcz14_0
    try clear hcz14_1
    try clear hcz9_0
    try clear hcz9_1
    try clear hfz14_0
    try clear hfz14_1
    try clear hfz9_0
    try clear hfz9_1
    obtain ⟨x8_1, x9_1, x29_1, rfl, rfl, HA, HK1, HO_8, BK101, HB⟩ := hrel
    cases gk with
    | zero => exact absurd HA.out (by simp [bound_Outside.l0])
    | succ k1 =>
     have H := HA.out
     clear HA
     simp only [bound_Outside.l0] at H
     by_cases c15 : x29_1 < (l0.length : Int)
     ·rw [if_pos c15] at H
      have c15b0 : decide (x29_1 < (l0.length : Int)) = true := zdt c15
      clear c15
      by_cases c16 : 0 ≤ x29_1
      ·rw [if_pos c16] at H
       have c16b0 : decide (0 ≤ x29_1) = true := zdt c16
       clear c16
       by_cases c17 : x29_1 < (l0.length : Int)
       ·rw [if_pos c17] at H
        have c17b0 : decide (x29_1 < (l0.length : Int)) = true := zdt c17
        clear c17
        replace H := Option.bind_eq_some_iff.mp H
        obtain ⟨⟨t109, t110, t111⟩, A180, H⟩ := H
        replace H : (if t111 = true then (if x8_1.length < 8796093022208 then (bound_Outside.l0 k1 (x8_1 ++ [(⟨t109, t110⟩ : S32)]) (mx x9_1 (wrap64 (((rd_T32 l0 x29_1).f1) + 1))) l0 (l0.length : Int) (wrap64 (x29_1 + 1)) a1_0 a1_1) else (none)) else (bound_Outside.l0 k1 x8_1 (mx x9_1 (wrap64 (((rd_T32 l0 x29_1).f1) + 1))) l0 (l0.length : Int) (wrap64 (x29_1 + 1)) a1_0 a1_1)) = some (r1, r2) := H
        have A18 := zam A180
        clear A180
        by_cases c19 : t111 = true
        ·subst c19
         have H1 : (if x8_1.length < 8796093022208 then (bound_Outside.l0 k1 (x8_1 ++ [(⟨t109, t110⟩ : S32)]) (mx x9_1 (wrap64 (((rd_T32 l0 x29_1).f1) + 1))) l0 (l0.length : Int) (wrap64 (x29_1 + 1)) a1_0 a1_1) else (none)) = some (r1, r2) := by rw [if_pos rfl] at H; exact H
         clear H
         have H := H1
         clear H1
         by_cases c20 : x8_1.length < 8796093022208
         ·rw [if_pos c20] at H
          have LMc20 := zam c20
          clear c20
          obtain ⟨y113, hy113⟩ : ∃ y_ : List (S32), y_ = (x8_1 ++ [(⟨t109, t110⟩ : S32)]) := ⟨_, rfl⟩
          replace H : (bound_Outside.l0 k1 y113 (mx x9_1 (wrap64 (((rd_T32 l0 x29_1).f1) + 1))) l0 (l0.length : Int) (wrap64 (x29_1 + 1)) a1_0 a1_1) = some (r1, r2) := by first | (rw [hy113]; with_reducible exact H) | (have H2_ := (Option.bind_some _ _).symm.trans H; rw [hy113]; with_reducible exact H2_) | (have H2_ := (Option.bind_some _ _).symm.trans H; with_reducible exact H2_) | with_reducible exact H | (rw [hy113]; exact H) | exact H
          have Ny113 := zam hy113
          clear hy113
          obtain ⟨ji21, hji21⟩ : ∃ j_ : Int, (mx x9_1 (wrap64 (((rd_T32 l0 x29_1).f1) + 1))) = j_ := ⟨_, rfl⟩
          replace H : (bound_Outside.l0 k1 y113 ji21 l0 (l0.length : Int) (wrap64 (x29_1 + 1)) a1_0 a1_1) = some (r1, r2) := by first | (rw [hji21] at H; exact H) | (simp only [hji21] at H ⊢; exact H)
          (try rw [hji21] at A18)
          have hji21_ : (if x9_1 < (wrap64 (((rd_T32 l0 x29_1).f1) + 1)) then (wrap64 (((rd_T32 l0 x29_1).f1) + 1)) else x9_1) = ji21 := hji21
          have H' := zam H
          clear H
          have p107 : 0 ≤ (x29_1 : Int) := zod (by first | (with_reducible assumption) | assumption)
          have q107 : x29_1 < (l0.length : Int) := zod (by first | (with_reducible assumption) | assumption)
          obtain ⟨ad107, e107, hx107_0, hx107_1⟩ := at_T32 HR0.out x29_1 p107 q107
          cases e107
          replace hx107_0 := (HB.out.cell (zwb w _ hx107_0)).trans hx107_0
          replace hx107_1 := (HB.out.cell (zwb w _ hx107_1)).trans hx107_1
          replace p107 := eq_true p107
          replace q107 := eq_true q107
          go_wp2_with (first | ((with_reducible refine zgd (N := 11) rfl ?_); refine box_event ?hg (N := 11) ?hd (cs := #[.int .i64 0, .int .i64 0]) (t := 32) ?hr ?_; (case hd => rfl); (case hg => rfl); (case hr => first | (go_simp; done) | (go_simp; rfl)); intro gb108 hg w22 hbox hb; have n0_ := zam (Kd.R_below (Kd.R_elderB (by (with_reducible repeat (first | apply zRa | apply zRn | apply zRd)); exact HO_8.out) gb108 (Nat.le_of_eq hg.symm)) hb); have n1_ := zam (zkb (g := gb101) (o := .cells #[.int .i64 a1_0, .int .i64 a1_1] 32 (0, 0)) (by (with_reducible repeat (first | refine zkn ?_ _ | refine zkd ?_ | refine zka ?_ _)); exact BK101.out) hb); have n2_ := zam (zbt (by repeat (first | (with_reducible first | exact HB.out | apply zba | apply zbn | apply zb1 | refine zbs ?_ GE101.out) | exact HB.out)) hb); have n3_ := zam (hbox); have n4_ := zam ((by rw [hg]; exact (zbz (by repeat (first | (with_reducible first | exact HB.out | apply zba | apply zbn | apply zb1 | refine zbs ?_ GE101.out) | exact HB.out))) : w.heap.size ≤ gb108)); have n5_ := zam ((by rw [hg]; exact (zbz (by repeat (first | (with_reducible first | exact HB.out | apply zba | apply zbn | apply zb1 | refine zbs ?_ GE101.out) | exact HB.out))) : w.heap.size ≤ gb108)); have n6_ := zam ((by rw [hg]; exact Nat.ne_of_lt (blk_lt (g := gb101) (o := .cells #[.int .i64 a1_0, .int .i64 a1_1] 32 (0, 0)) (by (with_reducible repeat (first | refine zkn ?_ _ | refine zkd ?_ | refine zka ?_ _)); exact BK101.out)) : gb101 ≠ gb108)); have n7_ := zam ((by rw [hg]; exact Nat.ne_of_gt (blk_lt (g := gb101) (o := .cells #[.int .i64 a1_0, .int .i64 a1_1] 32 (0, 0)) (by (with_reducible repeat (first | refine zkn ?_ _ | refine zkd ?_ | refine zka ?_ _)); exact BK101.out)) : gb108 ≠ gb101)); clear HO_8; clear BK101; clear HB; have HO_8 := n0_; have BK101 := n1_; have HB := n2_; have BK108 := n3_; have GW108 := n4_; have GE108 := n5_; have NB101_108 := n6_; have NB108_101 := n7_; clear n0_ n1_ n2_ n3_ n4_ n5_ n6_ n7_; clear hb hbox hg; have hnb23 := NB108_101.out; have hnc23 := NB101_108.out; have hcz24_0 : w22.cell? ⟨gb108, 0, none⟩ = some (.int .i64 0) := (zkc BK108.out 0).trans rfl; have hcz24_1 : w22.cell? ⟨gb108, 1, none⟩ = some (.int .i64 0) := (zkc BK108.out 1).trans rfl; have hfz24_0 := zkz BK108.out 0; have hfz24_1 := zkz BK108.out 1; have hcz25_0 : w22.cell? ⟨gb101, 0, none⟩ = some (.int .i64 a1_0) := (zkc BK101.out 0).trans rfl; have hcz25_1 : w22.cell? ⟨gb101, 1, none⟩ = some (.int .i64 a1_1) := (zkc BK101.out 1).trans rfl; have hfz25_0 := zkz BK101.out 0; have hfz25_1 := zkz BK101.out 1) | ((with_reducible refine zgc (f := 81) rfl ?_); refine goesL_ (some 40) rfl rfl Try.func81 (by kernel_rfl) rfl #[.agg #[.int .i64 a1_0, .int .i64 a1_1], .agg #[.int .i64 x9_1, .int .i64 (wrap64 (((rd_T32 l0 x29_1).f0) - 1))]] rfl (by (try simp only [zmt, List.map_cons, List.map_nil]); first | done | rfl | (simp only [zld, zlt]; rfl)) ?_; (with_reducible refine (bound_meet.calls a1_0 a1_1 x9_1 (wrap64 (((rd_T32 l0 x29_1).f0) - 1)) t109 t110 true _ A18.out).mono ?_); rintro e w26 ⟨rfl, hb⟩; refine ⟨_, rfl, ?_⟩; have n0_ := zam (Kd.R_below (by (with_reducible repeat (first | apply zRa | apply zRn | apply zRd)); exact (Kd.R_mono (Kd.R_far (p := ⟨gb108, 1, none⟩) (Kd.R_far (p := ⟨gb108, 0, none⟩) (Kd.R_mono HO_8.out (fun k_ hk => (⟨hk, hk.2⟩ : _ ∧ k_ ≠ gb108))) (fun _ hk => hk.2) (.int .i64 ((rd_T32 l0 x29_1).f0))) (fun _ hk => hk.2) (.int .i64 ((rd_T32 l0 x29_1).f1))) (fun _ h_ => h_.1))) hb); have n1_ := zam (zkb (g := gb101) (o := .cells #[.int .i64 a1_0, .int .i64 a1_1] 32 (0, 0)) (by (with_reducible repeat (first | refine zkn ?_ _ | refine zkd ?_ | refine zka ?_ _)); refine blk_far ?_ NB101_108.out _; (with_reducible repeat (first | refine zkn ?_ _ | refine zkd ?_ | refine zka ?_ _)); refine blk_far ?_ NB101_108.out _; (with_reducible repeat (first | refine zkn ?_ _ | refine zkd ?_ | refine zka ?_ _)); exact BK101.out) hb); have n2_ := zam (zkb (g := gb108) (o := .cells #[.int .i64 ((rd_T32 l0 x29_1).f0), .int .i64 ((rd_T32 l0 x29_1).f1)] 32 (0, 0)) (by (with_reducible repeat (first | refine zkn ?_ _ | refine zkd ?_ | refine zka ?_ _)); refine blk_put (cs := #[.int .i64 ((rd_T32 l0 x29_1).f0), .int .i64 0]) ?_ 1 _ rfl; (with_reducible repeat (first | refine zkn ?_ _ | refine zkd ?_ | refine zka ?_ _)); refine blk_put (cs := #[.int .i64 0, .int .i64 0]) ?_ 0 _ rfl; (with_reducible repeat (first | refine zkn ?_ _ | refine zkd ?_ | refine zka ?_ _)); exact BK108.out) hb); have n3_ := zam (zbt (by repeat (first | (with_reducible first | exact HB.out | apply zba | apply zbn | apply zb1 | refine zbs ?_ GE101.out | refine zbs ?_ GE108.out) | exact HB.out)) hb); clear HO_8; clear BK101; clear BK108; clear HB; have HO_8 := n0_; have BK101 := n1_; have BK108 := n2_; have HB := n3_; clear n0_ n1_ n2_ n3_; (try clear hb); (try clear hb2); (try clear hk); (try clear hi)) | ((with_reducible refine zgd (N := 12) rfl ?_); refine box_event ?hg (N := 12) ?hd (cs := #[.int .i64 0, .int .i64 0]) (t := 32) ?hr ?_; (case hd => rfl); (case hg => rfl); (case hr => first | (go_simp; done) | (go_simp; rfl)); intro gb112 hg w27 hbox hb; have n0_ := zam (Kd.R_below (Kd.R_elderB (by (with_reducible repeat (first | apply zRa | apply zRn | apply zRd)); exact HO_8.out) gb112 (Nat.le_of_eq hg.symm)) hb); have n1_ := zam (zkb (g := gb101) (o := .cells #[.int .i64 a1_0, .int .i64 a1_1] 32 (0, 0)) (by (with_reducible repeat (first | refine zkn ?_ _ | refine zkd ?_ | refine zka ?_ _)); exact BK101.out) hb); have n2_ := zam (zkb (g := gb108) (o := .cells #[.int .i64 ((rd_T32 l0 x29_1).f0), .int .i64 ((rd_T32 l0 x29_1).f1)] 32 (0, 0)) (by (with_reducible repeat (first | refine zkn ?_ _ | refine zkd ?_ | refine zka ?_ _)); exact BK108.out) hb); have n3_ := zam (zbt (by repeat (first | (with_reducible first | exact HB.out | apply zba | apply zbn | apply zb1 | refine zbs ?_ GE101.out | refine zbs ?_ GE108.out) | exact HB.out)) hb); have n4_ := zam (hbox); have n5_ := zam ((by rw [hg]; exact (zbz (by repeat (first | (with_reducible first | exact HB.out | apply zba | apply zbn | apply zb1 | refine zbs ?_ GE101.out | refine zbs ?_ GE108.out) | exact HB.out))) : w.heap.size ≤ gb112)); have n6_ := zam ((by rw [hg]; exact (zbz (by repeat (first | (with_reducible first | exact HB.out | apply zba | apply zbn | apply zb1 | refine zbs ?_ GE101.out | refine zbs ?_ GE108.out) | exact HB.out))) : w.heap.size ≤ gb112)); have n7_ := zam ((by rw [hg]; exact Nat.ne_of_lt (blk_lt (g := gb101) (o := .cells #[.int .i64 a1_0, .int .i64 a1_1] 32 (0, 0)) (by (with_reducible repeat (first | refine zkn ?_ _ | refine zkd ?_ | refine zka ?_ _)); exact BK101.out)) : gb101 ≠ gb112)); have n8_ := zam ((by rw [hg]; exact Nat.ne_of_gt (blk_lt (g := gb101) (o := .cells #[.int .i64 a1_0, .int .i64 a1_1] 32 (0, 0)) (by (with_reducible repeat (first | refine zkn ?_ _ | refine zkd ?_ | refine zka ?_ _)); exact BK101.out)) : gb112 ≠ gb101)); have n9_ := zam ((by rw [hg]; exact Nat.ne_of_lt (blk_lt (g := gb108) (o := .cells #[.int .i64 ((rd_T32 l0 x29_1).f0), .int .i64 ((rd_T32 l0 x29_1).f1)] 32 (0, 0)) (by (with_reducible repeat (first | refine zkn ?_ _ | refine zkd ?_ | refine zka ?_ _)); exact BK108.out)) : gb108 ≠ gb112)); have n10_ := zam ((by rw [hg]; exact Nat.ne_of_gt (blk_lt (g := gb108) (o := .cells #[.int .i64 ((rd_T32 l0 x29_1).f0), .int .i64 ((rd_T32 l0 x29_1).f1)] 32 (0, 0)) (by (with_reducible repeat (first | refine zkn ?_ _ | refine zkd ?_ | refine zka ?_ _)); exact BK108.out)) : gb112 ≠ gb108)); clear HO_8; clear BK101; clear BK108; clear HB; have HO_8 := n0_; have BK101 := n1_; have BK108 := n2_; have HB := n3_; have BK112 := n4_; have GW112 := n5_; have GE112 := n6_; have NB101_112 := n7_; have NB112_101 := n8_; have NB108_112 := n9_; have NB112_108 := n10_; clear n0_ n1_ n2_ n3_ n4_ n5_ n6_ n7_ n8_ n9_ n10_; clear hb hbox hg; have hnb28 := NB112_101.out; have hnc28 := NB101_112.out; have hnb29 := NB112_108.out; have hnc29 := NB108_112.out; have hcz30_0 : w27.cell? ⟨gb112, 0, none⟩ = some (.int .i64 0) := (zkc BK112.out 0).trans rfl; have hcz30_1 : w27.cell? ⟨gb112, 1, none⟩ = some (.int .i64 0) := (zkc BK112.out 1).trans rfl; have hfz30_0 := zkz BK112.out 0; have hfz30_1 := zkz BK112.out 1) | ((with_reducible refine gate_builtin (b := .append) (xs := #[.tmp 44, .tmp 46]) rfl ?_); at_builtin; refine Kd.R_append k32 (w0 := w) w.heap.size rfl (.tmp 44) (.tmp 46) 44 32 (.agg #[(.int .i64 0), (.int .i64 0)]) 16 rfl Try.underlying44 info32 rfl (by decide) (by omega) u8 x8_1 (⟨t109, t110⟩ : S32) [.int .i64 t109, .int .i64 t110] (fun k_ => k_ ≠ gb101 ∧ k_ ≠ gb108 ∧ k_ ≠ gb112) (fun _ => False) rfl (by first | (go_simp; done) | (go_simp; rfl)) ?aP (fun _ hk => hk.elim) ?aF ?aO ?aB ?aS ?aL ?_; (case aP => exact k32_mkM _ _ _ (⟨t109, t110⟩ : S32)); (case aB => exact (by repeat (first | (with_reducible first | exact HB.out | apply zba | apply zbn | apply zb1 | refine zbs ?_ GE101.out | refine zbs ?_ GE108.out | refine zbs ?_ GE112.out) | exact HB.out))); (case aF => exact (fun k_ hk => ⟨Kd.freshB (g := gb101) (o := .cells #[.int .i64 a1_0, .int .i64 a1_1] 32 (0, 0)) (by (with_reducible repeat (first | refine zkn ?_ _ | refine zkd ?_ | refine zka ?_ _)); refine blk_far ?_ NB101_112.out _; (with_reducible repeat (first | refine zkn ?_ _ | refine zkd ?_ | refine zka ?_ _)); refine blk_far ?_ NB101_112.out _; (with_reducible repeat (first | refine zkn ?_ _ | refine zkd ?_ | refine zka ?_ _)); exact BK101.out) k_ hk, Kd.freshB (g := gb108) (o := .cells #[.int .i64 ((rd_T32 l0 x29_1).f0), .int .i64 ((rd_T32 l0 x29_1).f1)] 32 (0, 0)) (by (with_reducible repeat (first | refine zkn ?_ _ | refine zkd ?_ | refine zka ?_ _)); refine blk_far ?_ NB108_112.out _; (with_reducible repeat (first | refine zkn ?_ _ | refine zkd ?_ | refine zka ?_ _)); refine blk_far ?_ NB108_112.out _; (with_reducible repeat (first | refine zkn ?_ _ | refine zkd ?_ | refine zka ?_ _)); exact BK108.out) k_ hk, Kd.freshB (g := gb112) (o := .cells #[.int .i64 t109, .int .i64 t110] 32 (0, 0)) (by (with_reducible repeat (first | refine zkn ?_ _ | refine zkd ?_ | refine zka ?_ _)); refine blk_put (cs := #[.int .i64 t109, .int .i64 0]) ?_ 1 _ rfl; (with_reducible repeat (first | refine zkn ?_ _ | refine zkd ?_ | refine zka ?_ _)); refine blk_put (cs := #[.int .i64 0, .int .i64 0]) ?_ 0 _ rfl; (with_reducible repeat (first | refine zkn ?_ _ | refine zkd ?_ | refine zka ?_ _)); exact BK112.out) k_ hk⟩)); (case aO => exact (by (with_reducible repeat (first | apply zRa | apply zRn | apply zRd)); exact Kd.R_mono (Kd.R_far (p := ⟨gb112, 1, none⟩) (Kd.R_far (p := ⟨gb112, 0, none⟩) (Kd.R_mono HO_8.out (fun k_ hk => (⟨hk, hk.2⟩ : _ ∧ k_ ≠ gb112))) (fun _ hk => hk.2) (.int .i64 t109)) (fun _ hk => hk.2) (.int .i64 t110)) (fun _ hk => ⟨hk.1.1.1, ⟨hk.1.1.2, hk.1.2⟩⟩))); (case aS => exact (zbz (by repeat (first | (with_reducible first | exact HB.out | apply zba | apply zbn | apply zb1 | refine zbs ?_ GE101.out | refine zbs ?_ GE108.out | refine zbs ?_ GE112.out) | exact HB.out)))); (case aL => have := LMc20.out; omega); intro v114 w31 ho hb hg hat; rw [← Ny113.out] at ho; have n0_ := zam (blk_grown (g := gb101) (o := .cells #[.int .i64 a1_0, .int .i64 a1_1] 32 (0, 0)) (by (with_reducible repeat (first | refine zkn ?_ _ | refine zkd ?_ | refine zka ?_ _)); refine blk_far ?_ NB101_112.out _; (with_reducible repeat (first | refine zkn ?_ _ | refine zkd ?_ | refine zka ?_ _)); refine blk_far ?_ NB101_112.out _; (with_reducible repeat (first | refine zkn ?_ _ | refine zkd ?_ | refine zka ?_ _)); exact BK101.out) hg (Kd.R_away HO_8.out (fun _ hk => hk.1.1))); have n1_ := zam (blk_grown (g := gb108) (o := .cells #[.int .i64 ((rd_T32 l0 x29_1).f0), .int .i64 ((rd_T32 l0 x29_1).f1)] 32 (0, 0)) (by (with_reducible repeat (first | refine zkn ?_ _ | refine zkd ?_ | refine zka ?_ _)); refine blk_far ?_ NB108_112.out _; (with_reducible repeat (first | refine zkn ?_ _ | refine zkd ?_ | refine zka ?_ _)); refine blk_far ?_ NB108_112.out _; (with_reducible repeat (first | refine zkn ?_ _ | refine zkd ?_ | refine zka ?_ _)); exact BK108.out) hg (Kd.R_away HO_8.out (fun _ hk => hk.1.2))); have n2_ := zam (blk_grown (g := gb112) (o := .cells #[.int .i64 t109, .int .i64 t110] 32 (0, 0)) (by (with_reducible repeat (first | refine zkn ?_ _ | refine zkd ?_ | refine zka ?_ _)); refine blk_put (cs := #[.int .i64 t109, .int .i64 0]) ?_ 1 _ rfl; (with_reducible repeat (first | refine zkn ?_ _ | refine zkd ?_ | refine zka ?_ _)); refine blk_put (cs := #[.int .i64 0, .int .i64 0]) ?_ 0 _ rfl; (with_reducible repeat (first | refine zkn ?_ _ | refine zkd ?_ | refine zka ?_ _)); exact BK112.out) hg (Kd.R_away HO_8.out (fun _ hk => hk.2))); have n3_ := zam (hb); have n4_ := zam (ho); clear BK101; clear BK108; clear BK112; clear HB; clear HO_8; have BK101 := n0_; have BK108 := n1_; have BK112 := n2_; have HB := n3_; have HO115 := n4_; clear n0_ n1_ n2_ n3_ n4_; clear ho hb hg hat; have hcz32_0 : w31.cell? ⟨gb108, 0, none⟩ = some (.int .i64 ((rd_T32 l0 x29_1).f0)) := (zkc BK108.out 0).trans rfl; have hcz32_1 : w31.cell? ⟨gb108, 1, none⟩ = some (.int .i64 ((rd_T32 l0 x29_1).f1)) := (zkc BK108.out 1).trans rfl; have hfz32_0 := zkz BK108.out 0; have hfz32_1 := zkz BK108.out 1))
          go_roundg k1
          case measure => have := HK1.out; omega
          case rel => exact ⟨(y113), (ji21), (wrap64 (x29_1 + 1)), (by first | rfl | (simp; done) | (simp only [← hji21] <;> (first | rfl | simp)) | (simp [*]; done)), (by first | rfl | (simp; done) | (simp [*]; done)), H', ⟨by have := HK1.out; omega⟩, ⟨by (with_reducible repeat (first | apply zRa | apply zRn | apply zRd)); exact Kd.R_mono HO115.out (fun _ hk => hk.1)⟩, ⟨by (with_reducible repeat (first | refine zkn ?_ _ | refine zkd ?_ | refine zka ?_ _)); exact BK101.out⟩, ⟨by repeat (first | (with_reducible first | exact HB.out | apply zba | apply zbn | apply zb1 | refine zbs ?_ GE101.out | refine zbs ?_ GE108.out | refine zbs ?_ GE112.out) | exact HB.out)⟩⟩
         rw [if_neg c20] at H
         exact absurd H (by simp)
        replace c19 := Bool.eq_false_iff.mpr c19
        subst c19
        have H1 : (bound_Outside.l0 k1 x8_1 (mx x9_1 (wrap64 (((rd_T32 l0 x29_1).f1) + 1))) l0 (l0.length : Int) (wrap64 (x29_1 + 1)) a1_0 a1_1) = some (r1, r2) := by rw [if_neg (show ¬ (false = true) by decide)] at H; exact H
        clear H
        have H := H1
        clear H1
        obtain ⟨ji33, hji33⟩ : ∃ j_ : Int, (mx x9_1 (wrap64 (((rd_T32 l0 x29_1).f1) + 1))) = j_ := ⟨_, rfl⟩
        replace H : (bound_Outside.l0 k1 x8_1 ji33 l0 (l0.length : Int) (wrap64 (x29_1 + 1)) a1_0 a1_1) = some (r1, r2) := by first | (rw [hji33] at H; exact H) | (simp only [hji33] at H ⊢; exact H)
        (try rw [hji33] at A18)
        have hji33_ : (if x9_1 < (wrap64 (((rd_T32 l0 x29_1).f1) + 1)) then (wrap64 (((rd_T32 l0 x29_1).f1) + 1)) else x9_1) = ji33 := hji33
        have H' := zam H
        clear H
        have p107 : 0 ≤ (x29_1 : Int) := zod (by first | (with_reducible assumption) | assumption)
        have q107 : x29_1 < (l0.length : Int) := zod (by first | (with_reducible assumption) | assumption)
        obtain ⟨ad107, e107, hx107_0, hx107_1⟩ := at_T32 HR0.out x29_1 p107 q107
        cases e107
        replace hx107_0 := (HB.out.cell (zwb w _ hx107_0)).trans hx107_0
        replace hx107_1 := (HB.out.cell (zwb w _ hx107_1)).trans hx107_1
        replace p107 := eq_true p107
        replace q107 := eq_true q107
        go_wp2_with (first | ((with_reducible refine zgd (N := 11) rfl ?_); refine box_event ?hg (N := 11) ?hd (cs := #[.int .i64 0, .int .i64 0]) (t := 32) ?hr ?_; (case hd => rfl); (case hg => rfl); (case hr => first | (go_simp; done) | (go_simp; rfl)); intro gb108 hg w34 hbox hb; have n0_ := zam (Kd.R_below (Kd.R_elderB (by (with_reducible repeat (first | apply zRa | apply zRn | apply zRd)); exact HO_8.out) gb108 (Nat.le_of_eq hg.symm)) hb); have n1_ := zam (zkb (g := gb101) (o := .cells #[.int .i64 a1_0, .int .i64 a1_1] 32 (0, 0)) (by (with_reducible repeat (first | refine zkn ?_ _ | refine zkd ?_ | refine zka ?_ _)); exact BK101.out) hb); have n2_ := zam (zbt (by repeat (first | (with_reducible first | exact HB.out | apply zba | apply zbn | apply zb1 | refine zbs ?_ GE101.out) | exact HB.out)) hb); have n3_ := zam (hbox); have n4_ := zam ((by rw [hg]; exact (zbz (by repeat (first | (with_reducible first | exact HB.out | apply zba | apply zbn | apply zb1 | refine zbs ?_ GE101.out) | exact HB.out))) : w.heap.size ≤ gb108)); have n5_ := zam ((by rw [hg]; exact (zbz (by repeat (first | (with_reducible first | exact HB.out | apply zba | apply zbn | apply zb1 | refine zbs ?_ GE101.out) | exact HB.out))) : w.heap.size ≤ gb108)); have n6_ := zam ((by rw [hg]; exact Nat.ne_of_lt (blk_lt (g := gb101) (o := .cells #[.int .i64 a1_0, .int .i64 a1_1] 32 (0, 0)) (by (with_reducible repeat (first | refine zkn ?_ _ | refine zkd ?_ | refine zka ?_ _)); exact BK101.out)) : gb101 ≠ gb108)); have n7_ := zam ((by rw [hg]; exact Nat.ne_of_gt (blk_lt (g := gb101) (o := .cells #[.int .i64 a1_0, .int .i64 a1_1] 32 (0, 0)) (by (with_reducible repeat (first | refine zkn ?_ _ | refine zkd ?_ | refine zka ?_ _)); exact BK101.out)) : gb108 ≠ gb101)); clear HO_8; clear BK101; clear HB; have HO_8 := n0_; have BK101 := n1_; have HB := n2_; have BK108 := n3_; have GW108 := n4_; have GE108 := n5_; have NB101_108 := n6_; have NB108_101 := n7_; clear n0_ n1_ n2_ n3_ n4_ n5_ n6_ n7_; clear hb hbox hg; have hnb35 := NB108_101.out; have hnc35 := NB101_108.out; have hcz36_0 : w34.cell? ⟨gb108, 0, none⟩ = some (.int .i64 0) := (zkc BK108.out 0).trans rfl; have hcz36_1 : w34.cell? ⟨gb108, 1, none⟩ = some (.int .i64 0) := (zkc BK108.out 1).trans rfl; have hfz36_0 := zkz BK108.out 0; have hfz36_1 := zkz BK108.out 1; have hcz37_0 : w34.cell? ⟨gb101, 0, none⟩ = some (.int .i64 a1_0) := (zkc BK101.out 0).trans rfl; have hcz37_1 : w34.cell? ⟨gb101, 1, none⟩ = some (.int .i64 a1_1) := (zkc BK101.out 1).trans rfl; have hfz37_0 := zkz BK101.out 0; have hfz37_1 := zkz BK101.out 1) | ((with_reducible refine zgc (f := 81) rfl ?_); refine goesL_ (some 40) rfl rfl Try.func81 (by kernel_rfl) rfl #[.agg #[.int .i64 a1_0, .int .i64 a1_1], .agg #[.int .i64 x9_1, .int .i64 (wrap64 (((rd_T32 l0 x29_1).f0) - 1))]] rfl (by (try simp only [zmt, List.map_cons, List.map_nil]); first | done | rfl | (simp only [zld, zlt]; rfl)) ?_; (with_reducible refine (bound_meet.calls a1_0 a1_1 x9_1 (wrap64 (((rd_T32 l0 x29_1).f0) - 1)) t109 t110 false _ A18.out).mono ?_); rintro e w38 ⟨rfl, hb⟩; refine ⟨_, rfl, ?_⟩; have n0_ := zam (Kd.R_below (by (with_reducible repeat (first | apply zRa | apply zRn | apply zRd)); exact (Kd.R_mono (Kd.R_far (p := ⟨gb108, 1, none⟩) (Kd.R_far (p := ⟨gb108, 0, none⟩) (Kd.R_mono HO_8.out (fun k_ hk => (⟨hk, hk.2⟩ : _ ∧ k_ ≠ gb108))) (fun _ hk => hk.2) (.int .i64 ((rd_T32 l0 x29_1).f0))) (fun _ hk => hk.2) (.int .i64 ((rd_T32 l0 x29_1).f1))) (fun _ h_ => h_.1))) hb); have n1_ := zam (zkb (g := gb101) (o := .cells #[.int .i64 a1_0, .int .i64 a1_1] 32 (0, 0)) (by (with_reducible repeat (first | refine zkn ?_ _ | refine zkd ?_ | refine zka ?_ _)); refine blk_far ?_ NB101_108.out _; (with_reducible repeat (first | refine zkn ?_ _ | refine zkd ?_ | refine zka ?_ _)); refine blk_far ?_ NB101_108.out _; (with_reducible repeat (first | refine zkn ?_ _ | refine zkd ?_ | refine zka ?_ _)); exact BK101.out) hb); have n2_ := zam (zkb (g := gb108) (o := .cells #[.int .i64 ((rd_T32 l0 x29_1).f0), .int .i64 ((rd_T32 l0 x29_1).f1)] 32 (0, 0)) (by (with_reducible repeat (first | refine zkn ?_ _ | refine zkd ?_ | refine zka ?_ _)); refine blk_put (cs := #[.int .i64 ((rd_T32 l0 x29_1).f0), .int .i64 0]) ?_ 1 _ rfl; (with_reducible repeat (first | refine zkn ?_ _ | refine zkd ?_ | refine zka ?_ _)); refine blk_put (cs := #[.int .i64 0, .int .i64 0]) ?_ 0 _ rfl; (with_reducible repeat (first | refine zkn ?_ _ | refine zkd ?_ | refine zka ?_ _)); exact BK108.out) hb); have n3_ := zam (zbt (by repeat (first | (with_reducible first | exact HB.out | apply zba | apply zbn | apply zb1 | refine zbs ?_ GE101.out | refine zbs ?_ GE108.out) | exact HB.out)) hb); clear HO_8; clear BK101; clear BK108; clear HB; have HO_8 := n0_; have BK101 := n1_; have BK108 := n2_; have HB := n3_; clear n0_ n1_ n2_ n3_; (try clear hb); (try clear hb2); (try clear hk); (try clear hi)) | ((with_reducible refine zgd (N := 12) rfl ?_); refine box_event ?hg (N := 12) ?hd (cs := #[.int .i64 0, .int .i64 0]) (t := 32) ?hr ?_; (case hd => rfl); (case hg => rfl); (case hr => first | (go_simp; done) | (go_simp; rfl)); intro gb112 hg w39 hbox hb; have n0_ := zam (Kd.R_below (Kd.R_elderB (by (with_reducible repeat (first | apply zRa | apply zRn | apply zRd)); exact HO_8.out) gb112 (Nat.le_of_eq hg.symm)) hb); have n1_ := zam (zkb (g := gb101) (o := .cells #[.int .i64 a1_0, .int .i64 a1_1] 32 (0, 0)) (by (with_reducible repeat (first | refine zkn ?_ _ | refine zkd ?_ | refine zka ?_ _)); exact BK101.out) hb); have n2_ := zam (zkb (g := gb108) (o := .cells #[.int .i64 ((rd_T32 l0 x29_1).f0), .int .i64 ((rd_T32 l0 x29_1).f1)] 32 (0, 0)) (by (with_reducible repeat (first | refine zkn ?_ _ | refine zkd ?_ | refine zka ?_ _)); exact BK108.out) hb); have n3_ := zam (zbt (by repeat (first | (with_reducible first | exact HB.out | apply zba | apply zbn | apply zb1 | refine zbs ?_ GE101.out | refine zbs ?_ GE108.out) | exact HB.out)) hb); have n4_ := zam (hbox); have n5_ := zam ((by rw [hg]; exact (zbz (by repeat (first | (with_reducible first | exact HB.out | apply zba | apply zbn | apply zb1 | refine zbs ?_ GE101.out | refine zbs ?_ GE108.out) | exact HB.out))) : w.heap.size ≤ gb112)); have n6_ := zam ((by rw [hg]; exact (zbz (by repeat (first | (with_reducible first | exact HB.out | apply zba | apply zbn | apply zb1 | refine zbs ?_ GE101.out | refine zbs ?_ GE108.out) | exact HB.out))) : w.heap.size ≤ gb112)); have n7_ := zam ((by rw [hg]; exact Nat.ne_of_lt (blk_lt (g := gb101) (o := .cells #[.int .i64 a1_0, .int .i64 a1_1] 32 (0, 0)) (by (with_reducible repeat (first | refine zkn ?_ _ | refine zkd ?_ | refine zka ?_ _)); exact BK101.out)) : gb101 ≠ gb112)); have n8_ := zam ((by rw [hg]; exact Nat.ne_of_gt (blk_lt (g := gb101) (o := .cells #[.int .i64 a1_0, .int .i64 a1_1] 32 (0, 0)) (by (with_reducible repeat (first | refine zkn ?_ _ | refine zkd ?_ | refine zka ?_ _)); exact BK101.out)) : gb112 ≠ gb101)); have n9_ := zam ((by rw [hg]; exact Nat.ne_of_lt (blk_lt (g := gb108) (o := .cells #[.int .i64 ((rd_T32 l0 x29_1).f0), .int .i64 ((rd_T32 l0 x29_1).f1)] 32 (0, 0)) (by (with_reducible repeat (first | refine zkn ?_ _ | refine zkd ?_ | refine zka ?_ _)); exact BK108.out)) : gb108 ≠ gb112)); have n10_ := zam ((by rw [hg]; exact Nat.ne_of_gt (blk_lt (g := gb108) (o := .cells #[.int .i64 ((rd_T32 l0 x29_1).f0), .int .i64 ((rd_T32 l0 x29_1).f1)] 32 (0, 0)) (by (with_reducible repeat (first | refine zkn ?_ _ | refine zkd ?_ | refine zka ?_ _)); exact BK108.out)) : gb112 ≠ gb108)); clear HO_8; clear BK101; clear BK108; clear HB; have HO_8 := n0_; have BK101 := n1_; have BK108 := n2_; have HB := n3_; have BK112 := n4_; have GW112 := n5_; have GE112 := n6_; have NB101_112 := n7_; have NB112_101 := n8_; have NB108_112 := n9_; have NB112_108 := n10_; clear n0_ n1_ n2_ n3_ n4_ n5_ n6_ n7_ n8_ n9_ n10_; clear hb hbox hg; have hnb40 := NB112_101.out; have hnc40 := NB101_112.out; have hnb41 := NB112_108.out; have hnc41 := NB108_112.out; have hcz42_0 : w39.cell? ⟨gb112, 0, none⟩ = some (.int .i64 0) := (zkc BK112.out 0).trans rfl; have hcz42_1 : w39.cell? ⟨gb112, 1, none⟩ = some (.int .i64 0) := (zkc BK112.out 1).trans rfl; have hfz42_0 := zkz BK112.out 0; have hfz42_1 := zkz BK112.out 1; have hcz43_0 : w39.cell? ⟨gb108, 0, none⟩ = some (.int .i64 ((rd_T32 l0 x29_1).f0)) := (zkc BK108.out 0).trans rfl; have hcz43_1 : w39.cell? ⟨gb108, 1, none⟩ = some (.int .i64 ((rd_T32 l0 x29_1).f1)) := (zkc BK108.out 1).trans rfl; have hfz43_0 := zkz BK108.out 0; have hfz43_1 := zkz BK108.out 1))
        go_roundg k1
        case measure => have := HK1.out; omega
        case rel => exact ⟨(x8_1), (ji33), (wrap64 (x29_1 + 1)), (by first | rfl | (simp; done) | (simp only [← hji33] <;> (first | rfl | simp)) | (simp [*]; done)), (by first | rfl | (simp; done) | (simp [*]; done)), H', ⟨by have := HK1.out; omega⟩, ⟨by (with_reducible repeat (first | apply zRa | apply zRn | apply zRd)); exact Kd.R_mono (Kd.R_far (p := ⟨gb112, 1, none⟩) (Kd.R_far (p := ⟨gb112, 0, none⟩) (Kd.R_mono HO_8.out (fun k_ hk => (⟨hk, hk.2⟩ : _ ∧ k_ ≠ gb112))) (fun _ hk => hk.2) (.int .i64 t109)) (fun _ hk => hk.2) (.int .i64 t110)) (fun _ hk => hk.1.1.1)⟩, ⟨by (with_reducible repeat (first | refine zkn ?_ _ | refine zkd ?_ | refine zka ?_ _)); refine blk_far ?_ NB101_112.out _; (with_reducible repeat (first | refine zkn ?_ _ | refine zkd ?_ | refine zka ?_ _)); refine blk_far ?_ NB101_112.out _; (with_reducible repeat (first | refine zkn ?_ _ | refine zkd ?_ | refine zka ?_ _)); exact BK101.out⟩, ⟨by repeat (first | (with_reducible first | exact HB.out | apply zba | apply zbn | apply zb1 | refine zbs ?_ GE101.out | refine zbs ?_ GE108.out | refine zbs ?_ GE112.out) | exact HB.out)⟩⟩
       rw [if_neg c17] at H
       exact absurd H (by simp)
      rw [if_neg c16] at H
      exact absurd H (by simp)
     rw [if_neg c15] at H
     have c15b0 : decide (x29_1 < (l0.length : Int)) = false := zdf c15
     clear c15
     by_cases c44 : x9_1 ≤ a1_1
     ·rw [if_pos c44] at H
      have c44b0 : decide (x9_1 ≤ a1_1) = true := zdt c44
      clear c44
      by_cases c45 : x8_1.length < 8796093022208
      ·rw [if_pos c45] at H
       have LMc45 := zam c45
       clear c45
       obtain ⟨y116, hy116⟩ : ∃ y_ : List (S32), y_ = (x8_1 ++ [(⟨x9_1, a1_1⟩ : S32)]) := ⟨_, rfl⟩
       replace H : ((bound_few.f y116).bind fun bt119 => (some (bt119.1, bt119.2))) = some (r1, r2) := by first | (rw [hy116]; with_reducible exact H) | (have H2_ := (Option.bind_some _ _).symm.trans H; rw [hy116]; with_reducible exact H2_) | (have H2_ := (Option.bind_some _ _).symm.trans H; with_reducible exact H2_) | with_reducible exact H | (rw [hy116]; exact H) | exact H
       have Ny116 := zam hy116
       clear hy116
       replace H := Option.bind_eq_some_iff.mp H
       obtain ⟨⟨t119, t122⟩, A460, H⟩ := H
       replace H : (some (t119, t122)) = some (r1, r2) := H
       have A46 := zam A460
       clear A460
       simp only [Option.some.injEq, Prod.mk.injEq] at H
       obtain ⟨rfl, rfl⟩ := H
       have hcz47_0 : wr.cell? ⟨gb101, 0, none⟩ = some (.int .i64 a1_0) := (zkc BK101.out 0).trans rfl
       have hcz47_1 : wr.cell? ⟨gb101, 1, none⟩ = some (.int .i64 a1_1) := (zkc BK101.out 1).trans rfl
       have hfz47_0 := zkz BK101.out 0
       have hfz47_1 := zkz BK101.out 1
       go_wp2_with (first | ((with_reducible refine gate_builtin (b := .append) (xs := #[.tmp 58, .tmp 63]) rfl ?_); at_builtin; refine Kd.R_append k32 (w0 := w) w.heap.size rfl (.tmp 58) (.tmp 63) 44 32 (.agg #[(.int .i64 0), (.int .i64 0)]) 16 rfl Try.underlying44 info32 rfl (by decide) (by omega) u8 x8_1 (⟨x9_1, a1_1⟩ : S32) [.int .i64 x9_1, .int .i64 a1_1] (fun k_ => k_ ≠ gb101) (fun _ => False) rfl rfl ?aP (fun _ hk => hk.elim) ?aF ?aO ?aB ?aS ?aL ?_; (case aP => exact k32_mkM _ _ _ (⟨x9_1, a1_1⟩ : S32)); (case aB => exact (by repeat (first | (with_reducible first | exact HB.out | apply zba | apply zbn | apply zb1 | refine zbs ?_ GE101.out) | exact HB.out))); (case aF => exact (fun k_ hk => Kd.freshB (g := gb101) (o := .cells #[.int .i64 a1_0, .int .i64 a1_1] 32 (0, 0)) (by (with_reducible repeat (first | refine zkn ?_ _ | refine zkd ?_ | refine zka ?_ _)); exact BK101.out) k_ hk)); (case aO => exact (by (with_reducible repeat (first | apply zRa | apply zRn | apply zRd)); exact HO_8.out)); (case aS => exact (zbz (by repeat (first | (with_reducible first | exact HB.out | apply zba | apply zbn | apply zb1 | refine zbs ?_ GE101.out) | exact HB.out)))); (case aL => have := LMc45.out; omega); intro v117 w48 ho hb hg hat; rw [← Ny116.out] at ho; have n0_ := zam (blk_grown (g := gb101) (o := .cells #[.int .i64 a1_0, .int .i64 a1_1] 32 (0, 0)) (by (with_reducible repeat (first | refine zkn ?_ _ | refine zkd ?_ | refine zka ?_ _)); exact BK101.out) hg (Kd.R_away HO_8.out (fun _ hk => hk))); have n1_ := zam (hb); have n2_ := zam (ho); clear BK101; clear HB; clear HO_8; have BK101 := n0_; have HB := n1_; have HO118 := n2_; clear n0_ n1_ n2_; clear ho hb hg hat; obtain ⟨Ao49, co49, eo49⟩ := Kd.R_slice HO118.out; subst eo49) | ((with_reducible refine zgc (f := 89) rfl ?_); refine goesL_ (some 66) rfl rfl Try.func89 (by kernel_rfl) rfl #[.slice Ao49 y116.length co49] rfl (by (try simp only [zmt, List.map_cons, List.map_nil]); first | done | rfl | (simp only [zld, zlt]; rfl)) ?_; (with_reducible refine (bound_few.calls (fun k_ => some k_ = (.slice Ao49 y116.length co49 : Value).ownBlock) (.slice Ao49 y116.length co49) y116 t119 t122 w _ ?side1 ?side2 A46.out).mono ?_); (case side1 => repeat (first | (with_reducible first | exact HB.out | apply zba | apply zbn | apply zb1 | refine zbs ?_ GE101.out) | exact HB.out)); (case side2 => exact Kd.R_tight rfl HO118.out); rintro e w50 ⟨v120, rfl, ho0, hb, hkp⟩; refine ⟨_, rfl, ?_⟩; have n0_ := zam (blk_kept (by (with_reducible repeat (first | refine zkn ?_ _ | refine zkd ?_ | refine zka ?_ _)); exact BK101.out) hkp (fun hs_ => (fun e_ => (Kd.R_away HO118.out (fun _ hk => hk)) e_) hs_)); have n1_ := zam (Kd.R_mono (ok' := fun k_ => k_ ≠ gb101) ho0 (fun k_ hk_ => Or.elim hk_ (fun hs_ => fun e_ => (Kd.R_away HO118.out (fun _ hk => hk)) (by rw [← e_]; exact hs_)) (fun hn_ => (Kd.freshB (g := gb101) (o := .cells #[.int .i64 a1_0, .int .i64 a1_1] 32 (0, 0)) (by (with_reducible repeat (first | refine zkn ?_ _ | refine zkd ?_ | refine zka ?_ _)); exact BK101.out) k_ hn_)))); have n2_ := zam (hb); clear BK101; clear HB; clear HO118; have BK101 := n0_; have HO121 := n1_; have HB := n2_; clear n0_ n1_ n2_; (try clear hb); (try clear hkp); (try clear ho0)))
       go_ret2
       exact ⟨_, by first | rfl | (simp [errW_none, errW_some] <;> rfl) | (simp [*, errW_none, errW_some] <;> rfl), by (with_reducible repeat (first | apply zRa | apply zRn | apply zRd)); exact Kd.R_mono HO121.out (fun _ hk => trivial), by repeat (first | (with_reducible first | exact HB.out | apply zba | apply zbn | apply zb1 | refine zbs ?_ GE101.out) | exact HB.out)⟩
      rw [if_neg c45] at H
      exact absurd H (by simp)
     rw [if_neg c44] at H
     have c44b0 : decide (x9_1 ≤ a1_1) = false := zdf c44
     clear c44
     replace H := Option.bind_eq_some_iff.mp H
     obtain ⟨⟨t123, t126⟩, A510, H⟩ := H
     replace H : (some (t123, t126)) = some (r1, r2) := H
     have A51 := zam A510
     clear A510
     simp only [Option.some.injEq, Prod.mk.injEq] at H
     obtain ⟨rfl, rfl⟩ := H
     have hcz52_0 : wr.cell? ⟨gb101, 0, none⟩ = some (.int .i64 a1_0) := (zkc BK101.out 0).trans rfl
     have hcz52_1 : wr.cell? ⟨gb101, 1, none⟩ = some (.int .i64 a1_1) := (zkc BK101.out 1).trans rfl
     have hfz52_0 := zkz BK101.out 0
     have hfz52_1 := zkz BK101.out 1
     obtain ⟨Ao53, co53, eo53⟩ := Kd.R_slice HO_8.out
     subst eo53
     go_wp2_with (first | ((with_reducible refine zgc (f := 89) rfl ?_); refine goesL_ (some 66) rfl rfl Try.func89 (by kernel_rfl) rfl #[.slice Ao53 x8_1.length co53] rfl (by (try simp only [zmt, List.map_cons, List.map_nil]); first | done | rfl | (simp only [zld, zlt]; rfl)) ?_; (with_reducible refine (bound_few.calls (fun k_ => some k_ = (.slice Ao53 x8_1.length co53 : Value).ownBlock) (.slice Ao53 x8_1.length co53) x8_1 t123 t126 w _ ?side1 ?side2 A51.out).mono ?_); (case side1 => repeat (first | (with_reducible first | exact HB.out | apply zba | apply zbn | apply zb1 | refine zbs ?_ GE101.out) | exact HB.out)); (case side2 => exact Kd.R_tight rfl HO_8.out); rintro e w54 ⟨v124, rfl, ho0, hb, hkp⟩; refine ⟨_, rfl, ?_⟩; have n0_ := zam (blk_kept (by (with_reducible repeat (first | refine zkn ?_ _ | refine zkd ?_ | refine zka ?_ _)); exact BK101.out) hkp (fun hs_ => (fun e_ => (Kd.R_away HO_8.out (fun _ hk => hk)) e_) hs_)); have n1_ := zam (Kd.R_mono (ok' := fun k_ => k_ ≠ gb101) ho0 (fun k_ hk_ => Or.elim hk_ (fun hs_ => fun e_ => (Kd.R_away HO_8.out (fun _ hk => hk)) (by rw [← e_]; exact hs_)) (fun hn_ => (Kd.freshB (g := gb101) (o := .cells #[.int .i64 a1_0, .int .i64 a1_1] 32 (0, 0)) (by (with_reducible repeat (first | refine zkn ?_ _ | refine zkd ?_ | refine zka ?_ _)); exact BK101.out) k_ hn_)))); have n2_ := zam (hb); clear BK101; clear HB; clear HO_8; have BK101 := n0_; have HO125 := n1_; have HB := n2_; clear n0_ n1_ n2_; (try clear hb); (try clear hkp); (try clear ho0)))
     go_ret2
     exact ⟨_, by first | rfl | (simp [errW_none, errW_some] <;> rfl) | (simp [*, errW_none, errW_some] <;> rfl), by (with_reducible repeat (first | apply zRa | apply zRn | apply zRd)); exact Kd.R_mono HO125.out (fun _ hk => trivial), by repeat (first | (with_reducible first | exact HB.out | apply zba | apply zbn | apply zb1 | refine zbs ?_ GE101.out) | exact HB.out)⟩
  rw [if_neg c6] at H
  have c6b0 : (t106 == 0) = false := beq_eq_false_iff_ne.mpr c6
  have c6b1 : (t106 != 0) = true := bne_iff_ne.mpr c6
  simp only [Option.some.injEq, Prod.mk.injEq] at H
  obtain ⟨rfl, rfl⟩ := H
  go_enter Try.func43, Try.ntmps43
  go_wp2_with (first | ((with_reducible refine zgd (N := 3) rfl ?_); refine box_event ?hg (N := 3) ?hd (cs := #[.int .i64 a1_0, .int .i64 a1_1]) (t := 32) ?hr ?_; (case hd => rfl); (case hg => rfl); (case hr => first | (go_simp; done) | (go_simp; rfl)); intro gb101 hg w55 hbox hb; have n0_ := zam (zbt (by repeat (first | (with_reducible first | exact HB.out | apply zba | apply zbn | apply zb1) | exact HB.out)) hb); have n1_ := zam (hbox); have n2_ := zam ((by rw [hg]; exact (zbz (by repeat (first | (with_reducible first | exact HB.out | apply zba | apply zbn | apply zb1) | exact HB.out))) : w.heap.size ≤ gb101)); have n3_ := zam ((by rw [hg]; exact (zbz (by repeat (first | (with_reducible first | exact HB.out | apply zba | apply zbn | apply zb1) | exact HB.out))) : w.heap.size ≤ gb101)); clear HB; have HB := n0_; have BK101 := n1_; have GW101 := n2_; have GE101 := n3_; clear n0_ n1_ n2_ n3_; clear hb hbox hg) | ((with_reducible refine zgc (f := 44) rfl ?_); refine goesL_ (some 15) rfl rfl Try.func44 (by kernel_rfl) rfl #[.slice A0 l0.length c0] rfl (by (try simp only [zmt, List.map_cons, List.map_nil]); first | done | rfl | (simp only [zld, zlt]; rfl)) ?_; (with_reducible refine (bound_CheckSet.calls k _ _ l0 t102 _ ?side1 ?side2 A3.out).mono ?_); (case side1 => repeat (first | exact (Kd.C_below HR0.out HB.out) | (with_reducible refine Kd.C_alloc ?_ _) | (with_reducible refine Kd.C_drewN ?_ _) | (with_reducible refine Kd.C_drew ?_))); (case side2 => exact HC0.out); rintro e w56 ⟨rfl, hb⟩; refine ⟨_, rfl, ?_⟩; have n0_ := zam (zkb (g := gb101) (o := .cells #[.int .i64 a1_0, .int .i64 a1_1] 32 (0, 0)) (by (with_reducible repeat (first | refine zkn ?_ _ | refine zkd ?_ | refine zka ?_ _)); exact BK101.out) hb); have n1_ := zam (zbt (by repeat (first | (with_reducible first | exact HB.out | apply zba | apply zbn | apply zb1 | refine zbs ?_ GE101.out) | exact HB.out)) hb); clear BK101; clear HB; have BK101 := n0_; have HB := n1_; clear n0_ n1_; (try clear hb); (try clear hb2); (try clear hk); (try clear hi); have hcz57_0 : w56.cell? ⟨gb101, 0, none⟩ = some (.int .i64 a1_0) := (zkc BK101.out 0).trans rfl; have hcz57_1 : w56.cell? ⟨gb101, 1, none⟩ = some (.int .i64 a1_1) := (zkc BK101.out 1).trans rfl; have hfz57_0 := zkz BK101.out 0; have hfz57_1 := zkz BK101.out 1) | ((with_reducible refine zgd (N := 20) rfl ?_); refine Kd.R_lit k32 _ 32 ?hg (N := 20) ?hd (xs := ([(⟨a1_0, a1_1⟩ : S32)] : List (S32))) (inner := [.int .i64 a1_0, .int .i64 a1_1]) (ok := fun _ => True) (okp := fun _ => True) ?hr ?hp (fun _ hk => hk) trivial (Below.refl _ _) (Nat.le_refl _) (by simp) ?_; (case hd => rfl); (case hg => rfl); (case hr => first | (go_simp; done) | (go_simp; rfl)); (case hp => exact (Reps.c2 (show Kd.M k32 _ _ _ (⟨a1_0, a1_1⟩ : S32) [.int .i64 a1_0, .int .i64 a1_1] from (k32_mkM _ _ _ (⟨a1_0, a1_1⟩ : S32) )) (Reps.none _ _))); intro v104 w58 ho59 hb hg_ hnew_; clear hg_ hnew_; (first | rw [← Ny103.out] at ho59 | (simp only [Int.reduceToNat] at ho59; rw [← Ny103.out] at ho59)); have n0_ := zam (Kd.R_lower (Kd.R_newB ho59 (g := gb101) (o := .cells #[.int .i64 a1_0, .int .i64 a1_1] 32 (0, 0)) (by (with_reducible repeat (first | refine zkn ?_ _ | refine zkd ?_ | refine zka ?_ _)); exact BK101.out)) (zbz (by repeat (first | (with_reducible first | exact HB.out | apply zba | apply zbn | apply zb1 | refine zbs ?_ GE101.out) | exact HB.out)))); have n1_ := zam (zkb (g := gb101) (o := .cells #[.int .i64 a1_0, .int .i64 a1_1] 32 (0, 0)) (by (with_reducible repeat (first | refine zkn ?_ _ | refine zkd ?_ | refine zka ?_ _)); exact BK101.out) hb); have n2_ := zam (zbt (by repeat (first | (with_reducible first | exact HB.out | apply zba | apply zbn | apply zb1 | refine zbs ?_ GE101.out) | exact HB.out)) hb); clear BK101; clear HB; have HO105 := n0_; have BK101 := n1_; have HB := n2_; clear n0_ n1_ n2_; clear hb ho59; obtain ⟨Ao60, co60, eo60⟩ := Kd.R_slice HO105.out; subst eo60) | ((with_reducible refine zgc (f := 80) rfl ?_); refine goesL_ (some 21) rfl rfl Try.func80 (by kernel_rfl) rfl #[.slice Ao60 y103.length co60] rfl (by (try simp only [zmt, List.map_cons, List.map_nil]); first | done | rfl | (simp only [zld, zlt]; rfl)) ?_; (with_reducible refine (bound_check.calls k _ _ y103 t106 _ ?side1 ?side2 A5.out).mono ?_); (case side1 => repeat (first | exact (Kd.R_reads' HO105.out).2.2 | (with_reducible refine Kd.C_alloc ?_ _) | (with_reducible refine Kd.C_drewN ?_ _) | (with_reducible refine Kd.C_drew ?_))); (case side2 => exact (Kd.R_reads' HO105.out).2.1); rintro e w61 ⟨rfl, hb⟩; refine ⟨_, rfl, ?_⟩; have n0_ := zam (Kd.R_below (by (with_reducible repeat (first | apply zRa | apply zRn | apply zRd)); exact HO105.out) hb); have n1_ := zam (zkb (g := gb101) (o := .cells #[.int .i64 a1_0, .int .i64 a1_1] 32 (0, 0)) (by (with_reducible repeat (first | refine zkn ?_ _ | refine zkd ?_ | refine zka ?_ _)); exact BK101.out) hb); have n2_ := zam (zbt (by repeat (first | (with_reducible first | exact HB.out | apply zba | apply zbn | apply zb1 | refine zbs ?_ GE101.out) | exact HB.out)) hb); clear HO105; clear BK101; clear HB; have HO105 := n0_; have BK101 := n1_; have HB := n2_; clear n0_ n1_ n2_; (try clear hb); (try clear hb2); (try clear hk); (try clear hi)))
  go_ret2
  exact ⟨_, by first | rfl | (simp [errW_none, errW_some] <;> rfl) | (simp [*, errW_none, errW_some] <;> rfl), by first | exact Kd.R_nil _ _ _ _ _ | exact Kd.N_nil _ _ _ _ _ | exact Kd.V_nil _ _ _ _ _ | exact Kd.Q_nil _ _ _ _ _ | exact Kd.S_nil _ _ _ _ _, by repeat (first | (with_reducible first | exact HB.out | apply zba | apply zbn | apply zb1 | refine zbs ?_ GE101.out) | exact HB.out)⟩
 rw [if_neg c4] at H
 have c4b0 : (t102 == 0) = false := beq_eq_false_iff_ne.mpr c4
 have c4b1 : (t102 != 0) = true := bne_iff_ne.mpr c4
 simp only [Option.some.injEq, Prod.mk.injEq] at H
 obtain ⟨rfl, rfl⟩ := H
 go_enter Try.func43, Try.ntmps43
 go_wp2_with (first | ((with_reducible refine zgd (N := 3) rfl ?_); refine box_event ?hg (N := 3) ?hd (cs := #[.int .i64 a1_0, .int .i64 a1_1]) (t := 32) ?hr ?_; (case hd => rfl); (case hg => rfl); (case hr => first | (go_simp; done) | (go_simp; rfl)); intro gb101 hg w62 hbox hb; have n0_ := zam (zbt (by repeat (first | (with_reducible first | exact HB.out | apply zba | apply zbn | apply zb1) | exact HB.out)) hb); have n1_ := zam (hbox); have n2_ := zam ((by rw [hg]; exact (zbz (by repeat (first | (with_reducible first | exact HB.out | apply zba | apply zbn | apply zb1) | exact HB.out))) : w.heap.size ≤ gb101)); have n3_ := zam ((by rw [hg]; exact (zbz (by repeat (first | (with_reducible first | exact HB.out | apply zba | apply zbn | apply zb1) | exact HB.out))) : w.heap.size ≤ gb101)); clear HB; have HB := n0_; have BK101 := n1_; have GW101 := n2_; have GE101 := n3_; clear n0_ n1_ n2_ n3_; clear hb hbox hg) | ((with_reducible refine zgc (f := 44) rfl ?_); refine goesL_ (some 15) rfl rfl Try.func44 (by kernel_rfl) rfl #[.slice A0 l0.length c0] rfl (by (try simp only [zmt, List.map_cons, List.map_nil]); first | done | rfl | (simp only [zld, zlt]; rfl)) ?_; (with_reducible refine (bound_CheckSet.calls k _ _ l0 t102 _ ?side1 ?side2 A3.out).mono ?_); (case side1 => repeat (first | exact (Kd.C_below HR0.out HB.out) | (with_reducible refine Kd.C_alloc ?_ _) | (with_reducible refine Kd.C_drewN ?_ _) | (with_reducible refine Kd.C_drew ?_))); (case side2 => exact HC0.out); rintro e w63 ⟨rfl, hb⟩; refine ⟨_, rfl, ?_⟩; have n0_ := zam (zkb (g := gb101) (o := .cells #[.int .i64 a1_0, .int .i64 a1_1] 32 (0, 0)) (by (with_reducible repeat (first | refine zkn ?_ _ | refine zkd ?_ | refine zka ?_ _)); exact BK101.out) hb); have n1_ := zam (zbt (by repeat (first | (with_reducible first | exact HB.out | apply zba | apply zbn | apply zb1 | refine zbs ?_ GE101.out) | exact HB.out)) hb); clear BK101; clear HB; have BK101 := n0_; have HB := n1_; clear n0_ n1_; (try clear hb); (try clear hb2); (try clear hk); (try clear hi)))
 go_ret2
 exact ⟨_, by first | rfl | (simp [errW_none, errW_some] <;> rfl) | (simp [*, errW_none, errW_some] <;> rfl), by first | exact Kd.R_nil _ _ _ _ _ | exact Kd.N_nil _ _ _ _ _ | exact Kd.V_nil _ _ _ _ _ | exact Kd.Q_nil _ _ _ _ _ | exact Kd.S_nil _ _ _ _ _, by repeat (first | (with_reducible first | exact HB.out | apply zba | apply zbn | apply zb1 | refine zbs ?_ GE101.out) | exact HB.out)⟩
mutual
def isobathref01_Cut.l0 : Nat → List (S32) → List (S32) → List (S32) → Int → Option ((List (S32)) × Int)
 | 0, _, _, _, _ => none
 | k + 1, x0, x1, x6, x7 => if x7 < (x0.length : Int) then (isobathref01_Cut.l1 k x0 x1 x6 x7 0) else ((isobathref01_many.f x6).bind fun bt103 => (some (bt103.1, bt103.2)))
def isobathref01_Cut.l1 : Nat → List (S32) → List (S32) → List (S32) → Int → Int → Option ((List (S32)) × Int)
 | 0, _, _, _, _, _ => none
 | k + 1, x0, x1, x6, x7, x8 => if x8 < (x1.length : Int) then (if 0 ≤ x7 then (if x7 < (x0.length : Int) then (if 0 ≤ x8 then (if (mx ((rd_T32 x0 x7).f0) ((rd_T32 x1 x8).f0)) ≤ (mn ((rd_T32 x0 x7).f1) ((rd_T32 x1 x8).f1)) then ((isobathref01_put.f k x6 (mx ((rd_T32 x0 x7).f0) ((rd_T32 x1 x8).f0)) (mn ((rd_T32 x0 x7).f1) ((rd_T32 x1 x8).f1))).bind fun t112 => (isobathref01_Cut.l1 k x0 x1 t112 x7 (wrap64 (x8 + 1)))) else (isobathref01_Cut.l1 k x0 x1 x6 x7 (wrap64 (x8 + 1)))) else (none)) else (none)) else (none)) else (isobathref01_Cut.l0 k x0 x1 x6 (wrap64 (x7 + 1)))
end
def isobathref01_Cut.f (k : Nat) (l0 : List (S32)) (l1 : List (S32)) : Option ((List (S32)) × Int) := (isobathref01_both.f k l0 l1).bind fun t101 => (if t101 = 0 then (isobathref01_Cut.l0 k l0 l1 ([] : List (S32)) 0) else ((isobathref01_both.f k l0 l1).bind fun t102 => (some (([] : List (S32)), t102))))
def isobathref01_Outside.l0 : Nat → List (S32) → List (S32) → Int → Int → Int → Int → Option ((List (S32)) × Int)
 | 0, _, _, _, _, _, _ => none
 | k + 1, x0, x6, x7, x8, x102000, x102001 => if x8 < (x0.length : Int) then (if 0 ≤ x8 then (if ((rd_T32 x0 x8).f0) > x7 then (if x7 ≤ x102001 then (if x6.length < 8796093022208 then (isobathref01_Outside.l0 k x0 (x6 ++ [(⟨x7, mn (wrap64 (((rd_T32 x0 x8).f0) - 1)) x102001⟩ : S32)]) (mx x7 (wrap64 (((rd_T32 x0 x8).f1) + 1))) (wrap64 (x8 + 1)) x102000 x102001) else (none)) else (isobathref01_Outside.l0 k x0 x6 (mx x7 (wrap64 (((rd_T32 x0 x8).f1) + 1))) (wrap64 (x8 + 1)) x102000 x102001)) else (isobathref01_Outside.l0 k x0 x6 (mx x7 (wrap64 (((rd_T32 x0 x8).f1) + 1))) (wrap64 (x8 + 1)) x102000 x102001)) else (none)) else (if x7 ≤ x102001 then (if x6.length < 8796093022208 then ((isobathref01_many.f (x6 ++ [(⟨x7, x102001⟩ : S32)])).bind fun bt116 => (some (bt116.1, bt116.2))) else (none)) else ((isobathref01_many.f x6).bind fun bt120 => (some (bt120.1, bt120.2))))
def isobathref01_Outside.f (k : Nat) (l0 : List (S32)) (a1_0 : Int) (a1_1 : Int) : Option ((List (S32)) × Int) := (isobathref01_CheckSet.f k l0).bind fun t102 => (if t102 = 0 then ((isobathref01_Valid.f a1_0 a1_1).bind fun t104 => (if t104 = true then (isobathref01_Outside.l0 k l0 ([] : List (S32)) a1_0 0 a1_0 a1_1) else (some (([] : List (S32)), 2)))) else ((isobathref01_CheckSet.f k l0).bind fun t103 => (some (([] : List (S32)), t103))))
def Bs.meet1 (a b : S32) : S32 := ⟨max a.f0 b.f0, min a.f1 b.f1⟩
theorem Bs.meet1_ok {a b : S32} (ha : Bd.ok a) (hb : Bd.ok b) (h : (Bs.meet1 a b).f0 ≤ (Bs.meet1 a b).f1) : Bd.ok (Bs.meet1 a b) := by
 obtain ⟨a1, a2, a3⟩ := ha
 obtain ⟨b1, b2, b3⟩ := hb
 exact ⟨h, by show -1073741824 ≤ max a.f0 b.f0; omega, by show min a.f1 b.f1 ≤ 1073741824; omega⟩
structure Bs.CutAt (s t out : List S32) (i k : Nat) : Prop where
 hi : i ≤ s.length
 hk : k ≤ t.length
 norm : Bd.Normal out
 far : ∀ e ∈ out, (∀ u ∈ s.drop i, e.f1 + 2 ≤ u.f0) ∨ (∀ u ∈ t.drop k, e.f1 + 2 ≤ u.f0)
 mem : ∀ n, Bd.mem s n ∧ Bd.mem t n ↔ Bd.mem out n ∨ (Bd.mem (s.drop i) n ∧ Bd.mem (t.drop k) n)
 len : out.length ≤ i + k
theorem Bs.CutAt.start (s t : List S32) : Bs.CutAt s t [] 0 0 :=
 ⟨Nat.zero_le _, Nat.zero_le _, Bs.normal_nil, fun _ h => (by cases h), fun n => by simp only [List.drop_zero]; exact ⟨.inr, fun h => h.elim (fun h => absurd h (Bd.mem_nil n)) id⟩, Nat.le_refl _⟩
theorem Bs.drop_normal {s : List S32} (h : Bd.Normal s) (i : Nat) : Bd.Normal (s.drop i) := ⟨h.1.sublist (List.drop_sublist i s), fun u hu => h.2 u (List.mem_of_mem_drop hu)⟩
def Bs.more (out : List S32) (c : S32) : List S32 := if c.f0 ≤ c.f1 then out ++ [c] else out
theorem Bs.more_mem (out : List S32) (c : S32) (n : Int) : Bd.mem (Bs.more out c) n ↔ Bd.mem out n ∨ (c.f0 ≤ n ∧ n ≤ c.f1) := by
 unfold Bs.more
 by_cases h : c.f0 ≤ c.f1
 ·rw [if_pos h, Bd.mem_append, Bd.mem_one]
 rw [if_neg h]
 exact ⟨.inl, fun h2 => h2.elim id fun h2 => by omega⟩
theorem Bs.CutAt.step {s t out : List S32} {i k : Nat} (h : Bs.CutAt s t out i k) (hs : Bd.Normal s) (ht : Bd.Normal t) (hi : i < s.length) (hk : k < t.length) :
  (s[i].f1 < t[k].f1 → Bs.CutAt s t (Bs.more out (Bs.meet1 s[i] t[k])) (i + 1) k) ∧ (¬ s[i].f1 < t[k].f1 → Bs.CutAt s t (Bs.more out (Bs.meet1 s[i] t[k])) i (k + 1)) := by
 have ds := Bs.drop_normal hs i
 have dt := Bs.drop_normal ht k
 rw [drop_cons hi] at ds
 rw [drop_cons hk] at dt
 have hfar := h.far
 have hmem := h.mem
 rw [drop_cons hi, drop_cons hk] at hfar
 simp only [drop_cons hi, drop_cons hk, Bd.mem_cons] at hmem
 have s1 := ds.2 s[i] List.mem_cons_self
 have t1 := dt.2 t[k] List.mem_cons_self
 have s2 := (List.pairwise_cons.1 ds.1).1
 have t2 := (List.pairwise_cons.1 dt.1).1
 have sm : ∀ n, Bd.mem (s.drop (i + 1)) n → s[i].f1 + 2 ≤ n := fun n hn => ds.far hn
 have tm : ∀ n, Bd.mem (t.drop (k + 1)) n → t[k].f1 + 2 ≤ n := fun n hn => dt.far hn
 generalize hx : s[i] = x at *
 generalize hy : t[k] = y at *
 have cf0 : (Bs.meet1 x y).f0 = max x.f0 y.f0 := rfl
 have cf1 : (Bs.meet1 x y).f1 = min x.f1 y.f1 := rfl
 have norm : Bd.Normal (Bs.more out (Bs.meet1 x y)) := by
  unfold Bs.more
  by_cases q : (Bs.meet1 x y).f0 ≤ (Bs.meet1 x y).f1
  ·rw [if_pos q]
   refine Bs.normal_snoc h.norm (Bs.meet1_ok s1 t1 q) fun e he => ?_
   rcases hfar e he with hf | hf
   ·have := hf x List.mem_cons_self
    rw [cf0]
    omega
   have := hf y List.mem_cons_self
   rw [cf0]
   omega
  rw [if_neg q]
  exact h.norm
 have len : (Bs.more out (Bs.meet1 x y)).length ≤ i + k + 1 := by
  have := h.len
  unfold Bs.more
  split
  ·simp only [List.length_append, List.length_cons, List.length_nil]
   omega
  omega
 have old : ∀ e ∈ Bs.more out (Bs.meet1 x y), e ∈ out ∨ e.f1 = min x.f1 y.f1 := fun e he => by
  unfold Bs.more at he
  split at he
  ·rcases List.mem_append.1 he with he | he
   ·exact .inl he
   rw [List.mem_singleton.1 he]
   exact .inr cf1
  exact .inl he
 constructor
 ·intro q
  refine ⟨hi, h.hk, norm, fun e he => ?_, fun n => ?_, by omega⟩
  ·rcases old e he with he | he
   ·rcases hfar e he with hf | hf
    ·exact .inl fun u hu => hf u (List.mem_cons_of_mem _ hu)
    rw [drop_cons hk, hy]
    exact .inr hf
   left
   intro u hu
   have := s2 u hu
   omega
  rw [hmem, Bs.more_mem, drop_cons hk, hy, Bd.mem_cons, cf0, cf1]
  have m1 := sm n
  have m2 := tm n
  constructor
  ·rintro (h | ⟨h1 | h1, h2 | h2⟩)
   ·exact .inl (.inl h)
   ·exact .inl (.inr (by omega))
   ·have := m2 h2
    omega
   ·exact .inr ⟨h1, .inl h2⟩
   exact .inr ⟨h1, .inr h2⟩
  rintro ((h | h) | ⟨h1, h2⟩)
  ·exact .inl h
  ·exact .inr ⟨.inl (by omega), .inl (by omega)⟩
  exact .inr ⟨.inr h1, h2⟩
 intro q
 refine ⟨h.hi, hk, norm, fun e he => ?_, fun n => ?_, by omega⟩
 ·rcases old e he with he | he
  ·rcases hfar e he with hf | hf
   ·rw [drop_cons hi, hx]
    exact .inl hf
   exact .inr fun u hu => hf u (List.mem_cons_of_mem _ hu)
  right
  intro u hu
  have := t2 u hu
  omega
 rw [hmem, Bs.more_mem, drop_cons hi, hx, Bd.mem_cons, cf0, cf1]
 have m1 := sm n
 have m2 := tm n
 constructor
 ·rintro (h | ⟨h1 | h1, h2 | h2⟩)
  ·exact .inl (.inl h)
  ·exact .inl (.inr (by omega))
  ·exact .inr ⟨.inl h1, h2⟩
  ·have := m1 h1
   omega
  exact .inr ⟨.inr h1, h2⟩
 rintro ((h | h) | ⟨h1, h2⟩)
 ·exact .inl h
 ·exact .inr ⟨.inl (by omega), .inl (by omega)⟩
 exact .inr ⟨h1, .inr h2⟩
theorem Bs.cut_l0 {s t : List S32} (hs : Bd.Normal s) (ht : Bd.Normal t) (hl : s.length ≤ 256) (hl' : t.length ≤ 256) : ∀ (n k i j : Nat) (out : List S32), (s.length - i) + (t.length - j) = n → 2 * n + 20 ≤ k → Bs.CutAt s t out i j →
  ∃ l, bound_Cut.l0 k s t out (i : Int) (j : Int) = some (Bs.fewOf l) ∧ Bd.Normal l ∧ (∀ n, Bd.mem l n ↔ Bd.mem s n ∧ Bd.mem t n) ∧ l.length ≤ 512 := by
 intro n
 induction n using Nat.strongRecOn with
 | ind n ih =>
  intro k i j out hn hk h
  obtain ⟨k, rfl⟩ : ∃ m, k = m + 2 := ⟨k - 2, by omega⟩
  have a := h.hi
  have b := h.hk
  have done : (s.length ≤ i ∨ t.length ≤ j) → ∀ n, Bd.mem out n ↔ Bd.mem s n ∧ Bd.mem t n := fun hd n => by
   rw [h.mem]
   refine ⟨.inl, fun h => h.elim id fun h => ?_⟩
   rcases hd with hd | hd
   ·rw [List.drop_eq_nil_of_le hd] at h
    exact absurd h.1 (Bd.mem_nil n)
   rw [List.drop_eq_nil_of_le hd] at h
   exact absurd h.2 (Bd.mem_nil n)
  have hlen := h.len
  simp only [bound_Cut.l0, bound_Cut.j1]
  by_cases q1 : i < s.length
  ·rw [if_pos (by omega)]
   by_cases q2 : j < t.length
   ·rw [zdt (by omega), if_pos rfl, if_pos (by omega), if_pos (by omega), if_pos (by omega), if_pos (by omega), Bs.rd_nat q1, Bs.rd_nat q2, wrap_succ q1 (by omega), wrap_succ q2 (by omega)]
    unfold bound_meet.f
    rw [Option.bind_some, Bo.mxE, Bo.mnE]
    obtain ⟨p1, p2⟩ := h.step hs ht q1 q2
    have m1 : (s.length - (i + 1)) + (t.length - j) = n - 1 := by omega
    have m2 : (s.length - i) + (t.length - (j + 1)) = n - 1 := by omega
    have m3 : 2 * (n - 1) + 20 ≤ k := by omega
    have m4 : n - 1 < n := by omega
    have goL : s[i].f1 < t[j].f1 → ∃ l, bound_Cut.l0 k s t (Bs.more out (Bs.meet1 s[i] t[j])) ((i + 1 : Nat) : Int) (j : Int) = some (Bs.fewOf l) ∧ Bd.Normal l ∧ (∀ n, Bd.mem l n ↔ Bd.mem s n ∧ Bd.mem t n) ∧ l.length ≤ 512 := fun q => ih (n - 1) m4 k (i + 1) j (Bs.more out (Bs.meet1 s[i] t[j])) m1 m3 (p1 q)
    have goR : ¬ s[i].f1 < t[j].f1 → ∃ l, bound_Cut.l0 k s t (Bs.more out (Bs.meet1 s[i] t[j])) (i : Int) ((j + 1 : Nat) : Int) = some (Bs.fewOf l) ∧ Bd.Normal l ∧ (∀ n, Bd.mem l n ↔ Bd.mem s n ∧ Bd.mem t n) ∧ l.length ≤ 512 := fun q => ih (n - 1) m4 k i (j + 1) (Bs.more out (Bs.meet1 s[i] t[j])) m2 m3 (p2 q)
    unfold Bs.more Bs.meet1 at goL goR
    dsimp only at goL goR ⊢
    by_cases q3 : max s[i].f0 t[j].f0 ≤ min s[i].f1 t[j].f1
    ·rw [if_pos q3] at goL goR
     rw [if_pos (zdt q3), if_pos (by omega), Option.bind_some]
     by_cases q4 : s[i].f1 < t[j].f1
     ·rw [if_pos q4]
      exact goL q4
     rw [if_neg q4]
     exact goR q4
    rw [if_neg q3] at goL goR
    rw [if_neg (by simpa using q3)]
    by_cases q4 : s[i].f1 < t[j].f1
    ·rw [if_pos q4]
     exact goL q4
    rw [if_neg q4]
    exact goR q4
   rw [zdf (by omega), if_neg (by decide), Bs.few_b]
   exact ⟨out, rfl, h.norm, done (.inr (by omega)), by omega⟩
  rw [if_neg (by omega), if_neg (by decide), Bs.few_b]
  exact ⟨out, rfl, h.norm, done (.inl (by omega)), by omega⟩
def Bs.cut1 (x : S32) (out : List S32) (y : S32) : List S32 := if max x.f0 y.f0 ≤ min x.f1 y.f1 then Bs.put out (Bs.meet1 x y) else out
theorem Bs.cut1_spec {x y : S32} {out : List S32} (hx : Bd.ok x) (hy : Bd.ok y) (h : Bd.Normal out) : Bd.Normal (Bs.cut1 x out y) ∧ (∀ n, Bd.mem (Bs.cut1 x out y) n ↔ Bd.mem out n ∨ ((x.f0 ≤ n ∧ n ≤ x.f1) ∧ (y.f0 ≤ n ∧ n ≤ y.f1))) ∧ (Bs.cut1 x out y).length ≤ out.length + 1 := by
 unfold Bs.cut1
 by_cases q : max x.f0 y.f0 ≤ min x.f1 y.f1
 ·rw [if_pos q]
  obtain ⟨g1, g2, g3⟩ := Bs.put_spec h (Bs.meet1_ok hx hy q)
  refine ⟨g1, fun n => ?_, g3⟩
  rw [g2]
  show Bd.mem out n ∨ (max x.f0 y.f0 ≤ n ∧ n ≤ min x.f1 y.f1) ↔ _
  exact ⟨fun h => h.elim .inl fun h => .inr (by omega), fun h => h.elim .inl fun h => .inr (by omega)⟩
 rw [if_neg q]
 exact ⟨h, fun n => ⟨.inl, fun h => h.elim id fun h => by omega⟩, by omega⟩
theorem Bs.cut_r1 {s t : List S32} (hs : Bd.Normal s) (ht : Bd.Normal t) (hl : s.length ≤ 256) (hl' : t.length ≤ 256) {i : Nat} (hi : i < s.length) : ∀ (n k j : Nat) (out : List S32), j + n = t.length → n + 70000 ≤ k → Bd.Normal out → out.length ≤ 256 * i + j →
  ∃ k' l, k = k' + n + 1 ∧ isobathref01_Cut.l1 k s t out (i : Int) (j : Int) = isobathref01_Cut.l0 k' s t l ((i + 1 : Nat) : Int) ∧ Bd.Normal l ∧ (∀ n, Bd.mem l n ↔ Bd.mem out n ∨ ((s[i].f0 ≤ n ∧ n ≤ s[i].f1) ∧ Bd.mem (t.drop j) n)) ∧ l.length ≤ out.length + n := by
 intro n
 induction n with
 | zero =>
  intro k j out hj hk h1 h2
  obtain ⟨k, rfl⟩ : ∃ m, k = m + 1 := ⟨k - 1, by omega⟩
  refine ⟨k, out, rfl, ?_, h1, fun n => ?_, by omega⟩
  ·rw [isobathref01_Cut.l1, if_neg (by omega), wrap_succ hi (by omega)]
  rw [List.drop_eq_nil_of_le (by omega)]
  exact ⟨.inl, fun h => h.elim id fun h => absurd h.2 (Bd.mem_nil n)⟩
 | succ n ih =>
  intro k j out hj hk h1 h2
  obtain ⟨k, rfl⟩ : ∃ m, k = m + 1 := ⟨k - 1, by omega⟩
  have hj' : j < t.length := by omega
  have ox := hs.2 s[i] (List.getElem_mem hi)
  have oy := ht.2 t[j] (List.getElem_mem hj')
  obtain ⟨g1, g2, g3⟩ := Bs.cut1_spec ox oy h1
  obtain ⟨k', l, e1, e2, e3, e4, e5⟩ := ih k (j + 1) (Bs.cut1 s[i] out t[j]) (by omega) (by omega) g1 (by omega)
  refine ⟨k', l, by omega, ?_, e3, fun n => ?_, by omega⟩
  ·rw [isobathref01_Cut.l1, if_pos (by omega), if_pos (by omega), if_pos (by omega), if_pos (by omega), Bs.rd_nat hi, Bs.rd_nat hj', wrap_succ hj' (by omega), Bo.mxE, Bo.mnE]
   unfold Bs.cut1 at e2
   by_cases q : max s[i].f0 t[j].f0 ≤ min s[i].f1 t[j].f1
   ·have hp := Bs.put_r (x := Bs.meet1 s[i] t[j]) (by omega) h1.2 (Bs.meet1_ok ox oy q) (k := k) (by omega)
    rw [if_pos q] at e2
    rw [if_pos q, ← e2]
    rw [show isobathref01_put.f k out (max s[i].f0 t[j].f0) (min s[i].f1 t[j].f1) = some (Bs.put out (Bs.meet1 s[i] t[j])) from hp]
    rfl
   rw [if_neg q] at e2
   rw [if_neg q, e2]
  rw [e4, g2, drop_cons hj', Bd.mem_cons]
  constructor
  ·rintro ((h | ⟨h, h'⟩) | ⟨h, h'⟩)
   ·exact .inl h
   ·exact .inr ⟨h, .inl h'⟩
   exact .inr ⟨h, .inr h'⟩
  rintro (h | ⟨h, h' | h'⟩)
  ·exact .inl (.inl h)
  ·exact .inl (.inr ⟨h, h'⟩)
  exact .inr ⟨h, h'⟩
set_option maxRecDepth 20000 in
theorem Bs.cut_r0 {s t : List S32} (hs : Bd.Normal s) (ht : Bd.Normal t) (hl : s.length ≤ 256) (hl' : t.length ≤ 256) : ∀ (n k i : Nat) (out : List S32), i + n = s.length → n * 260 + 70300 ≤ k → Bd.Normal out → out.length ≤ 256 * i → (∀ n, Bd.mem s n ∧ Bd.mem t n ↔ Bd.mem out n ∨ (Bd.mem (s.drop i) n ∧ Bd.mem t n)) →
  ∃ l, isobathref01_Cut.l0 k s t out (i : Int) = some (Bs.fewOf l) ∧ Bd.Normal l ∧ (∀ n, Bd.mem l n ↔ Bd.mem s n ∧ Bd.mem t n) := by
 intro n
 induction n with
 | zero =>
  intro k i out hi hk h1 h2 h3
  obtain ⟨k, rfl⟩ : ∃ m, k = m + 1 := ⟨k - 1, by omega⟩
  refine ⟨out, ?_, h1, fun n => ?_⟩
  ·rw [isobathref01_Cut.l0, if_neg (by omega), Bs.few_r]
   rfl
  rw [h3, List.drop_eq_nil_of_le (by omega)]
  exact ⟨.inl, fun h => h.elim id fun h => absurd h.1 (Bd.mem_nil n)⟩
 | succ n ih =>
  intro k i out hi hk h1 h2 h3
  obtain ⟨k, rfl⟩ : ∃ m, k = m + 1 := ⟨k - 1, by omega⟩
  have hi' : i < s.length := by omega
  obtain ⟨k', l, e1, e2, e3, e4, e5⟩ := Bs.cut_r1 hs ht hl hl' hi' t.length k 0 out (by omega) (by omega) h1 (by omega)
  rw [isobathref01_Cut.l0, if_pos (by omega), show (0 : Int) = ((0 : Nat) : Int) from rfl, e2]
  have b1 : n * 260 + 70300 ≤ k' := by clear h3 e4 e3 e2; omega
  have b2 : l.length ≤ 256 * (i + 1) := by clear h3 e4 e3 e2 e1 hk b1; omega
  refine ih k' (i + 1) l (by omega) b1 e3 b2 fun n => ?_
  rw [h3, e4, drop_cons hi', Bd.mem_cons, List.drop_zero]
  constructor
  ·rintro (h | ⟨h | h, h'⟩)
   ·exact .inl (.inl h)
   ·exact .inl (.inr ⟨h, h'⟩)
   exact .inr ⟨h, h'⟩
  rintro ((h | ⟨h, h'⟩) | ⟨h, h'⟩)
  ·exact .inl h
  ·exact .inr ⟨.inl h, h'⟩
  exact .inr ⟨.inr h, h'⟩
theorem Bs.cut_both (s t : List S32) : ∃ r : List S32 × Int, (∀ k, 200000 ≤ k → bound_Cut.f k s t = some r ∧ isobathref01_Cut.f k s t = some r) ∧
  (Bs.err s t ≠ 0 → r = ([], Bs.err s t)) ∧ (Bs.err s t = 0 → ∃ l, r = Bs.fewOf l ∧ Bd.Normal l ∧ ∀ n, Bd.mem l n ↔ Bd.mem s n ∧ Bd.mem t n) := by
 by_cases h : Bs.err s t = 0
 ·obtain ⟨h1, h2⟩ := Bs.err_zero.1 h
  obtain ⟨s1, s2⟩ := Bs.cs_zero.1 h1
  obtain ⟨t1, t2⟩ := Bs.cs_zero.1 h2
  have mid : ∀ k, 200000 ≤ k → ∃ l, bound_Cut.f k s t = some (Bs.fewOf l) ∧ isobathref01_Cut.f k s t = some (Bs.fewOf l) ∧ Bd.Normal l ∧ ∀ n, Bd.mem l n ↔ Bd.mem s n ∧ Bd.mem t n := fun k hk => by
   obtain ⟨l, e1, e2, e3, -⟩ := Bs.cut_l0 s2 t2 s1 t1 _ k 0 0 [] rfl (by omega) (Bs.CutAt.start s t)
   obtain ⟨m, g1, g2, g3⟩ := Bs.cut_r0 s2 t2 s1 t1 s.length k 0 [] (by omega) (by omega) Bs.normal_nil (by simp) (fun n => by rw [List.drop_zero]; exact ⟨.inr, fun h => h.elim (fun h => absurd h (Bd.mem_nil n)) id⟩)
   have : m = l := Bd.Normal.unique g2 e2 fun n => (g3 n).trans (e3 n).symm
   subst this
   refine ⟨m, ?_, ?_, e2, e3⟩
   ·unfold bound_Cut.f
    rw [Bs.both_b s t (by omega), Option.bind_some, if_pos (show (if Bs.cs s = 0 then Bs.cs t else Bs.cs s) = 0 from h)]
    exact e1
   unfold isobathref01_Cut.f
   rw [Bs.both_r s t (by omega), Option.bind_some, if_pos (show (if Bs.cs s = 0 then Bs.cs t else Bs.cs s) = 0 from h)]
   exact g1
  obtain ⟨l, -, -, l1, l2⟩ := mid 200000 (by omega)
  refine ⟨Bs.fewOf l, fun k hk => ?_, fun h' => absurd h h', fun _ => ⟨l, rfl, l1, l2⟩⟩
  obtain ⟨m, m1, m2, m3, m4⟩ := mid k hk
  have : m = l := Bd.Normal.unique m3 l1 fun n => (m4 n).trans (l2 n).symm
  rw [← this]
  exact ⟨m1, m2⟩
 refine ⟨([], Bs.err s t), fun k hk => ⟨?_, ?_⟩, fun _ => rfl, fun h' => absurd h' h⟩
 ·unfold bound_Cut.f
  rw [Bs.both_b s t (by omega), Option.bind_some, if_neg (show ¬ (if Bs.cs s = 0 then Bs.cs t else Bs.cs s) = 0 from h)]
  rfl
 unfold isobathref01_Cut.f
 rw [Bs.both_r s t (by omega), Option.bind_some, if_neg (show ¬ (if Bs.cs s = 0 then Bs.cs t else Bs.cs s) = 0 from h)]
 rfl
structure Bs.OutAt (s out : List S32) (a b from_ : Int) (i : Nat) : Prop where
 hi : i ≤ s.length
 norm : Bd.Normal out
 lo : a ≤ from_
 hi2 : from_ ≤ 1073741825
 far : ∀ e ∈ out, e.f1 + 2 ≤ from_
 next : ∀ u ∈ s.drop i, from_ + 1 ≤ u.f0 ∨ from_ = a
 gone : ∀ u ∈ s.take i, u.f1 < from_
 mem : ∀ n, Bd.mem out n ↔ (a ≤ n ∧ n ≤ b) ∧ n < from_ ∧ ¬ Bd.mem (s.take i) n
 len : out.length ≤ i
theorem Bs.OutAt.start (s : List S32) {a b : Int} (h : Bo.v a b) : Bs.OutAt s [] a b a 0 := by
 obtain ⟨h1, h2, h3⟩ := h
 refine ⟨Nat.zero_le _, Bs.normal_nil, Int.le_refl _, by omega, fun _ h => (by cases h), fun _ _ => .inr rfl, fun _ h => (by simp at h), fun n => ?_, Nat.le_refl _⟩
 exact ⟨fun h => absurd h (Bd.mem_nil n), fun h => by omega⟩
def Bs.gap1 (out : List S32) (from_ b lo : Int) : List S32 := if from_ ≤ min b (lo - 1) then out ++ [⟨from_, min b (lo - 1)⟩] else out
theorem Bs.OutAt.step {s out : List S32} {a b from_ : Int} {i : Nat} (h : Bs.OutAt s out a b from_ i) (hs : Bd.Normal s) (hv : Bo.v a b) (hi : i < s.length) : Bs.OutAt s (Bs.gap1 out from_ b s[i].f0) a b (max from_ (s[i].f1 + 1)) (i + 1) := by
 have ds := Bs.drop_normal hs i
 rw [drop_cons hi] at ds
 obtain ⟨s1, s2, s3⟩ := ds.2 s[i] List.mem_cons_self
 have far := (List.pairwise_cons.1 ds.1).1
 have hnext := h.next
 rw [drop_cons hi] at hnext
 have hgone : ∀ u ∈ s.take i, u.f1 + 2 ≤ s[i].f0 := fun u hu => by
  have hn := hs.1
  rw [← List.take_append_drop i s, List.pairwise_append] at hn
  exact hn.2.2 u hu s[i] (by rw [drop_cons hi]; exact List.mem_cons_self)
 obtain ⟨v1, v2, v3⟩ := hv
 have hlo := h.lo
 have hhi := h.hi2
 have hfar := h.far
 have hmem := h.mem
 generalize hx : s[i] = x at *
 have tk : s.take (i + 1) = s.take i ++ [x] := by rw [take_snoc hi, hx]
 refine ⟨hi, ?_, by omega, by omega, fun e he => ?_, fun u hu => ?_, fun u hu => ?_, fun n => ?_, ?_⟩
 ·unfold Bs.gap1
  by_cases q : from_ ≤ min b (x.f0 - 1)
  ·rw [if_pos q]
   exact Bs.normal_snoc h.norm ⟨q, by show -1073741824 ≤ from_; omega, by show min b (x.f0 - 1) ≤ 1073741824; omega⟩ hfar
  rw [if_neg q]
  exact h.norm
 ·unfold Bs.gap1 at he
  split at he
  ·rcases List.mem_append.1 he with he | he
   ·have := hfar e he
    omega
   rw [List.mem_singleton.1 he]
   show min b (x.f0 - 1) + 2 ≤ _
   omega
  have := hfar e he
  omega
 ·have := far u hu
  rcases hnext u (List.mem_cons_of_mem _ hu) with c | c
  ·left
   omega
  by_cases c2 : x.f1 + 1 ≤ a
  ·right
   omega
  left
  omega
 ·rw [tk] at hu
  rcases List.mem_append.1 hu with hu | hu
  ·have := h.gone u hu
   omega
  rw [List.mem_singleton.1 hu]
  omega
 ·rw [tk, Bd.mem_append, Bd.mem_one]
  have hn : Bd.mem (Bs.gap1 out from_ b x.f0) n ↔ Bd.mem out n ∨ (from_ ≤ n ∧ n ≤ min b (x.f0 - 1)) := by
   unfold Bs.gap1
   by_cases q : from_ ≤ min b (x.f0 - 1)
   ·rw [if_pos q, Bd.mem_append, Bd.mem_one]
   rw [if_neg q]
   exact ⟨.inl, fun h => h.elim id fun h => by omega⟩
  have hm := hmem n
  have hx2 := hnext x List.mem_cons_self
  have hg : Bd.mem (s.take i) n → n + 2 ≤ x.f0 ∧ n < from_ := fun ⟨u, hu, hu1, hu2⟩ => by
   have := hgone u hu
   have := h.gone u hu
   omega
  rw [hn, hm]
  constructor
  ·rintro (⟨h1, h2, h3⟩ | h)
   ·refine ⟨h1, by omega, fun h4 => h4.elim h3 fun h4 => ?_⟩
    omega
   refine ⟨by omega, by omega, fun h4 => h4.elim (fun h4 => ?_) fun h4 => by omega⟩
   have := hg h4
   omega
  rintro ⟨h1, h2, h3⟩
  by_cases q : n < from_
  ·exact .inl ⟨h1, q, fun h4 => h3 (.inl h4)⟩
  refine .inr ⟨by omega, ?_⟩
  have : ¬ (x.f0 ≤ n ∧ n ≤ x.f1) := fun h4 => h3 (.inr h4)
  omega
 have := h.len
 unfold Bs.gap1
 split
 ·simp only [List.length_append, List.length_cons, List.length_nil]
  omega
 omega
def Bs.tail1 (out : List S32) (from_ b : Int) : List S32 := if from_ ≤ b then out ++ [⟨from_, b⟩] else out
theorem Bs.OutAt.last {s out : List S32} {a b from_ : Int} {i : Nat} (h : Bs.OutAt s out a b from_ i) (hv : Bo.v a b) (hi : s.length ≤ i) : Bd.Normal (Bs.tail1 out from_ b) ∧ (∀ n, Bd.mem (Bs.tail1 out from_ b) n ↔ (a ≤ n ∧ n ≤ b) ∧ ¬ Bd.mem s n) ∧ (Bs.tail1 out from_ b).length ≤ i + 1 := by
 obtain ⟨v1, v2, v3⟩ := hv
 have hm := h.mem
 have hg := h.gone
 rw [List.take_of_length_le hi] at hg
 simp only [List.take_of_length_le hi] at hm
 have hlo := h.lo
 have hl := h.len
 unfold Bs.tail1
 by_cases q : from_ ≤ b
 ·rw [if_pos q]
  refine ⟨Bs.normal_snoc h.norm ⟨q, by show -1073741824 ≤ from_; omega, v3⟩ h.far, fun n => ?_, by simp only [List.length_append, List.length_cons, List.length_nil]; omega⟩
  rw [Bd.mem_append, Bd.mem_one, hm]
  constructor
  ·rintro (⟨h1, h2, h3⟩ | h)
   ·exact ⟨h1, h3⟩
   have h : from_ ≤ n ∧ n ≤ b := h
   refine ⟨by omega, fun ⟨u, hu, hu1, hu2⟩ => ?_⟩
   have := hg u hu
   omega
  rintro ⟨h1, h2⟩
  by_cases c : n < from_
  ·exact .inl ⟨h1, c, h2⟩
  exact .inr ⟨by show from_ ≤ n; omega, h1.2⟩
 rw [if_neg q]
 refine ⟨h.norm, fun n => ?_, by omega⟩
 rw [hm]
 exact ⟨fun h => ⟨h.1, h.2.2⟩, fun h => ⟨h.1, by omega, h.2⟩⟩
theorem Bs.out_l0 {s : List S32} {a b : Int} (hs : Bd.Normal s) (hv : Bo.v a b) (hl : s.length ≤ 256) : ∀ (n k i : Nat) (out : List S32) (f : Int), i + n = s.length → n < k → Bs.OutAt s out a b f i →
  ∃ l, bound_Outside.l0 k out f s (s.length : Int) (i : Int) a b = some (Bs.fewOf l) ∧ isobathref01_Outside.l0 k s out f (i : Int) a b = some (Bs.fewOf l) ∧ Bd.Normal l ∧ ∀ n, Bd.mem l n ↔ (a ≤ n ∧ n ≤ b) ∧ ¬ Bd.mem s n := by
 intro n
 induction n with
 | zero =>
  intro k i out f hi hk h
  obtain ⟨k, rfl⟩ : ∃ m, k = m + 1 := ⟨k - 1, by omega⟩
  obtain ⟨g1, g2, g3⟩ := h.last hv (by omega)
  have := h.len
  refine ⟨Bs.tail1 out f b, ?_, ?_, g1, g2⟩
  ·unfold Bs.tail1
   rw [bound_Outside.l0, if_neg (by omega)]
   by_cases q : f ≤ b
   ·rw [if_pos q, if_pos q, if_pos (by omega), Bs.few_b]
    rfl
   rw [if_neg q, if_neg q, Bs.few_b]
   rfl
  unfold Bs.tail1
  rw [isobathref01_Outside.l0, if_neg (by omega)]
  by_cases q : f ≤ b
  ·rw [if_pos q, if_pos q, if_pos (by omega), Bs.few_r]
   rfl
  rw [if_neg q, if_neg q, Bs.few_r]
  rfl
 | succ n ih =>
  intro k i out f hi hk h
  obtain ⟨k, rfl⟩ : ∃ m, k = m + 1 := ⟨k - 1, by omega⟩
  have hlt : i < s.length := by omega
  obtain ⟨l, e1, e2, e3⟩ := ih k (i + 1) (Bs.gap1 out f b s[i].f0) (max f (s[i].f1 + 1)) (by omega) (by omega) (h.step hs hv hlt)
  obtain ⟨s1, s2, s3⟩ := hs.2 s[i] (List.getElem_mem hlt)
  obtain ⟨v1, v2, v3⟩ := hv
  have hlo := h.lo
  have hhi := h.hi2
  have hlen := h.len
  refine ⟨l, ?_, ?_, e3⟩
  ·rw [bound_Outside.l0, if_pos (by omega), if_pos (by omega), if_pos (by omega), Bs.rd_nat hlt, wrap_succ hlt (by omega), wrap_id (n := s[i].f0 - 1) (by omega) (by omega), wrap_id (n := s[i].f1 + 1) (by omega) (by omega)]
   unfold bound_meet.f
   rw [Option.bind_some, Bo.mxE, Bo.mxE, Bo.mnE]
   unfold Bs.gap1 at e1
   rw [show max a f = f by omega]
   by_cases q : f ≤ min b (s[i].f0 - 1)
   ·rw [if_pos q] at e1
    dsimp only
    rw [zdt q, if_pos rfl, if_pos (by omega)]
    exact e1
   rw [if_neg q] at e1
   dsimp only
   rw [zdf q, if_neg (by decide)]
   exact e1
  rw [isobathref01_Outside.l0, if_pos (by omega), if_pos (by omega), Bs.rd_nat hlt, wrap_succ hlt (by omega), wrap_id (n := s[i].f0 - 1) (by omega) (by omega), wrap_id (n := s[i].f1 + 1) (by omega) (by omega), Bo.mxE, Bo.mnE]
  unfold Bs.gap1 at e2
  by_cases q : f ≤ min b (s[i].f0 - 1)
  ·rw [if_pos q] at e2
   rw [if_pos (by omega), if_pos (by omega), if_pos (by omega), show min (s[i].f0 - 1) b = min b (s[i].f0 - 1) by omega]
   exact e2
  rw [if_neg q] at e2
  by_cases q1 : s[i].f0 > f
  ·rw [if_pos q1, if_neg (by omega)]
   exact e2
  rw [if_neg q1]
  exact e2
def Bs.oerr (s : List S32) (a b : Int) : Int := if Bs.cs s = 0 then (if Bo.v a b then 0 else 2) else Bs.cs s
theorem Bs.oerr_zero {s : List S32} {a b : Int} : Bs.oerr s a b = 0 ↔ Bs.cs s = 0 ∧ Bo.v a b := by
 unfold Bs.oerr
 by_cases h : Bs.cs s = 0
 ·rw [if_pos h]
  by_cases q : Bo.v a b
  ·rw [if_pos q]
   exact ⟨fun _ => ⟨h, q⟩, fun _ => rfl⟩
  rw [if_neg q]
  exact ⟨fun h => (by cases h), fun h => absurd h.2 q⟩
 rw [if_neg h]
 exact ⟨fun h2 => absurd h2 h, fun h2 => absurd h2.1 h⟩
theorem Bs.out_both (s : List S32) (a b : Int) : ∃ r : List S32 × Int, (∀ k, 2000 ≤ k → bound_Outside.f k s a b = some r ∧ isobathref01_Outside.f k s a b = some r) ∧
  (Bs.oerr s a b ≠ 0 → r = ([], Bs.oerr s a b)) ∧ (Bs.oerr s a b = 0 → ∃ l, r = Bs.fewOf l ∧ Bd.Normal l ∧ ∀ n, Bd.mem l n ↔ (a ≤ n ∧ n ≤ b) ∧ ¬ Bd.mem s n) := by
 by_cases h1 : Bs.cs s = 0
 ·obtain ⟨s1, s2⟩ := Bs.cs_zero.1 h1
  by_cases hv : Bo.v a b
  ·have mid : ∀ k, 2000 ≤ k → ∃ l, bound_Outside.f k s a b = some (Bs.fewOf l) ∧ isobathref01_Outside.f k s a b = some (Bs.fewOf l) ∧ Bd.Normal l ∧ ∀ n, Bd.mem l n ↔ (a ≤ n ∧ n ≤ b) ∧ ¬ Bd.mem s n := fun k hk => by
    obtain ⟨l, e1, e2, e3⟩ := Bs.out_l0 s2 hv s1 s.length k 0 [] a (by omega) (by omega) (Bs.OutAt.start s hv)
    refine ⟨l, ?_, ?_, e3⟩
    ·unfold bound_Outside.f
     rw [Bs.cs_b s (by omega), Option.bind_some, if_pos h1, Bo.check1 _ _ (by omega), Option.bind_some, if_pos hv, if_pos rfl]
     exact e1
    unfold isobathref01_Outside.f
    rw [Bs.cs_r s (by omega), Option.bind_some, if_pos h1, Bo.valid, Option.bind_some, if_pos (zdt hv)]
    exact e2
   obtain ⟨l, -, -, l1, l2⟩ := mid 2000 (by omega)
   refine ⟨Bs.fewOf l, fun k hk => ?_, fun h' => absurd (Bs.oerr_zero.2 ⟨h1, hv⟩) h', fun _ => ⟨l, rfl, l1, l2⟩⟩
   obtain ⟨m, m1, m2, m3, m4⟩ := mid k hk
   have : m = l := Bd.Normal.unique m3 l1 fun n => (m4 n).trans (l2 n).symm
   rw [← this]
   exact ⟨m1, m2⟩
  have e : Bs.oerr s a b = 2 := by unfold Bs.oerr; rw [if_pos h1, if_neg hv]
  refine ⟨([], 2), fun k hk => ⟨?_, ?_⟩, fun _ => by rw [e], fun h' => absurd (Bs.oerr_zero.1 h').2 hv⟩
  ·unfold bound_Outside.f
   rw [Bs.cs_b s (by omega), Option.bind_some, if_pos h1, Bo.check1 _ _ (by omega), Option.bind_some, if_neg hv, if_neg (by decide)]
  unfold isobathref01_Outside.f
  rw [Bs.cs_r s (by omega), Option.bind_some, if_pos h1, Bo.valid, Option.bind_some, if_neg (by simpa using hv)]
 have e : Bs.oerr s a b = Bs.cs s := by unfold Bs.oerr; rw [if_neg h1]
 refine ⟨([], Bs.cs s), fun k hk => ⟨?_, ?_⟩, fun _ => by rw [e], fun h' => absurd (Bs.oerr_zero.1 h').1 h1⟩
 ·unfold bound_Outside.f
  rw [Bs.cs_b s (by omega), Option.bind_some, if_neg h1]
 unfold isobathref01_Outside.f
 rw [Bs.cs_r s (by omega), Option.bind_some, if_neg h1]
 rfl
end Go.Proofs.Ytlkafgibgipodaa.P
namespace Go.Proofs.Ytlkafgibgipodaa.P
open Go.RowKit Go.Proofs.YtlkafgibgipodaaW.PrintWords Go.Proofs.YtlkafgibgipodaaW.PrintLast Go.Proofs.YtlkafgibgipodaaW.PrintMore
attribute [local go_sem] max2_int min2_int max_two min_two max_three min_three max_four min_four   -- for this text's walks alone
set_option linter.unusedVariables false
set_option linter.unusedSimpArgs false
attribute [local go_sem high] eqA32
def isobathlaw01_Works.f (k : Nat)  : Option (Bool) := (bound_Mul.f k (-3) 5 2 4).bind fun bt101 => ((bound_Div.f k 7 9 (-4) (-2)).bind fun bt105 => ((bound_Cover.f k (([(⟨5, 6⟩ : S32), (⟨1, 2⟩ : S32), (⟨3, 3⟩ : S32)] : List (S32)))).bind fun bt112 => (if (wrap64 ((wrap64 (bt101.2.2 + bt105.2.2)) + bt112.2)) = 0 then (if (bt101.1 == (-12) && (bt101.2.1 == 20)) = true then (if (bt105.1 == (-5) && (bt105.2.1 == (-1))) = true then (if (bt112.1.length : Int) = 2 then (if 0 < (bt112.1.length : Int) then (some (((rd_T32 bt112.1 0).f0) == 1 && (((rd_T32 bt112.1 0).f1) == 3))) else (none)) else (some false)) else (some false)) else (some false)) else (some false))))
theorem isobathlaw01_Works.mono : ∀ k, LeO (isobathlaw01_Works.f k ) (isobathlaw01_Works.f (k + 1) ) := by
 intro  k
 unfold isobathlaw01_Works.f
 repeat' first
   | (with_reducible exact bound_Cover.mono _ _)
   | (with_reducible exact bound_Div.mono _ _ _ _ _)
   | (with_reducible exact bound_Mul.mono _ _ _ _ _)
   | (with_reducible exact LeO.refl _)
   | (with_reducible exact LeO.none _)
   | (with_reducible refine LeO.ite ?_ ?_)
   | (with_reducible refine LeO.bind ?_ (fun _ => ?_))
   | exact bound_Cover.mono _ _
   | exact bound_Div.mono _ _ _ _ _
   | exact bound_Mul.mono _ _ _ _ _
   | exact LeO.none _
   | refine LeO.ite ?_ ?_
   | refine LeO.bind ?_ (fun _ => ?_)
set_option maxHeartbeats 8000000 in
set_option maxRecDepth 100000 in
theorem isobathlaw01_Works.calls (k : Nat)  (r : Bool) (w : World) (h : isobathlaw01_Works.f k  = some r) :
  Calls Try.prog 18 #[] w fun e w' => e = .returned (.bool r) ∧ Below w.heap.size w w' := by
 have hu32 := Try.underlying32
 have HB := zam (Below.refl w.heap.size w)
 have H : ((bound_Mul.f k (-3) 5 2 4).bind fun bt101 => ((bound_Div.f k 7 9 (-4) (-2)).bind fun bt105 => ((bound_Cover.f k (([(⟨5, 6⟩ : S32), (⟨1, 2⟩ : S32), (⟨3, 3⟩ : S32)] : List (S32)))).bind fun bt112 => (if (wrap64 ((wrap64 (bt101.2.2 + bt105.2.2)) + bt112.2)) = 0 then (if (bt101.1 == (-12) && (bt101.2.1 == 20)) = true then (if (bt105.1 == (-5) && (bt105.2.1 == (-1))) = true then (if (bt112.1.length : Int) = 2 then (if 0 < (bt112.1.length : Int) then (some (((rd_T32 bt112.1 0).f0) == 1 && (((rd_T32 bt112.1 0).f1) == 3))) else (none)) else (some false)) else (some false)) else (some false)) else (some false))))) = some r := h
 clear h
 replace H := Option.bind_eq_some_iff.mp H
 obtain ⟨⟨t101, t102, t103⟩, A10, H⟩ := H
 replace H : ((bound_Div.f k 7 9 (-4) (-2)).bind fun bt105 => ((bound_Cover.f k (([(⟨5, 6⟩ : S32), (⟨1, 2⟩ : S32), (⟨3, 3⟩ : S32)] : List (S32)))).bind fun bt112 => (if (wrap64 ((wrap64 (t103 + bt105.2.2)) + bt112.2)) = 0 then (if (t101 == (-12) && (t102 == 20)) = true then (if (bt105.1 == (-5) && (bt105.2.1 == (-1))) = true then (if (bt112.1.length : Int) = 2 then (if 0 < (bt112.1.length : Int) then (some (((rd_T32 bt112.1 0).f0) == 1 && (((rd_T32 bt112.1 0).f1) == 3))) else (none)) else (some false)) else (some false)) else (some false)) else (some false)))) = some r := H
 have A1 := zam A10
 clear A10
 replace H := Option.bind_eq_some_iff.mp H
 obtain ⟨⟨t105, t106, t107⟩, A20, H⟩ := H
 replace H : ((bound_Cover.f k (([(⟨5, 6⟩ : S32), (⟨1, 2⟩ : S32), (⟨3, 3⟩ : S32)] : List (S32)))).bind fun bt112 => (if (wrap64 ((wrap64 (t103 + t107)) + bt112.2)) = 0 then (if (t101 == (-12) && (t102 == 20)) = true then (if (t105 == (-5) && (t106 == (-1))) = true then (if (bt112.1.length : Int) = 2 then (if 0 < (bt112.1.length : Int) then (some (((rd_T32 bt112.1 0).f0) == 1 && (((rd_T32 bt112.1 0).f1) == 3))) else (none)) else (some false)) else (some false)) else (some false)) else (some false))) = some r := H
 have A2 := zam A20
 clear A20
 obtain ⟨y109, hy109⟩ : ∃ y_ : List (S32), y_ = (([(⟨5, 6⟩ : S32), (⟨1, 2⟩ : S32), (⟨3, 3⟩ : S32)] : List (S32))) := ⟨_, rfl⟩
 replace H : ((bound_Cover.f k y109).bind fun bt112 => (if (wrap64 ((wrap64 (t103 + t107)) + bt112.2)) = 0 then (if (t101 == (-12) && (t102 == 20)) = true then (if (t105 == (-5) && (t106 == (-1))) = true then (if (bt112.1.length : Int) = 2 then (if 0 < (bt112.1.length : Int) then (some (((rd_T32 bt112.1 0).f0) == 1 && (((rd_T32 bt112.1 0).f1) == 3))) else (none)) else (some false)) else (some false)) else (some false)) else (some false))) = some r := by first | (rw [hy109]; with_reducible exact H) | (have H2_ := (Option.bind_some _ _).symm.trans H; rw [hy109]; with_reducible exact H2_) | (have H2_ := (Option.bind_some _ _).symm.trans H; with_reducible exact H2_) | with_reducible exact H | (rw [hy109]; exact H) | exact H
 have Ny109 := zam hy109
 clear hy109
 replace H := Option.bind_eq_some_iff.mp H
 obtain ⟨⟨t112, t113⟩, A30, H⟩ := H
 replace H : (if (wrap64 ((wrap64 (t103 + t107)) + t113)) = 0 then (if (t101 == (-12) && (t102 == 20)) = true then (if (t105 == (-5) && (t106 == (-1))) = true then (if (t112.length : Int) = 2 then (if 0 < (t112.length : Int) then (some (((rd_T32 t112 0).f0) == 1 && (((rd_T32 t112 0).f1) == 3))) else (none)) else (some false)) else (some false)) else (some false)) else (some false)) = some r := H
 have A3 := zam A30
 clear A30
 by_cases c4 : (wrap64 ((wrap64 (t103 + t107)) + t113)) = 0
 ·rw [if_pos c4] at H
  have c4b0 : ((wrap64 ((wrap64 (t103 + t107)) + t113)) == 0) = true := beq_iff_eq.mpr c4
  have c4b1 : ((wrap64 ((wrap64 (t103 + t107)) + t113)) != 0) = false := bne_eq_false_iff_eq.mpr c4
  clear c4
  by_cases c5 : (t101 == (-12) && (t102 == 20)) = true
  ·rw [if_pos c5] at H
   have c5b0 : (t101 == (-12) && (t102 == 20)) = true := c5
   (try (have c5b1 : decide (t101 = (-12) && (t102 == 20)) = true := by simpa using c5))
   (try (have c5b2 : (t101 == (-12) && (t102 == 20)) = true := by simpa using c5))
   clear c5
   by_cases c6 : (t105 == (-5) && (t106 == (-1))) = true
   ·rw [if_pos c6] at H
    have c6b0 : (t105 == (-5) && (t106 == (-1))) = true := c6
    (try (have c6b1 : decide (t105 = (-5) && (t106 == (-1))) = true := by simpa using c6))
    (try (have c6b2 : (t105 == (-5) && (t106 == (-1))) = true := by simpa using c6))
    clear c6
    by_cases c7 : (t112.length : Int) = 2
    ·rw [if_pos c7] at H
     have c7b0 : ((t112.length : Int) == 2) = true := beq_iff_eq.mpr c7
     have c7b1 : ((t112.length : Int) != 2) = false := bne_eq_false_iff_eq.mpr c7
     clear c7
     by_cases c8 : 0 < (t112.length : Int)
     ·rw [if_pos c8] at H
      have c8b0 : decide (0 < (t112.length : Int)) = true := zdt c8
      have c8b1 : decide (0 < t112.length) = true := zdt (by omega)
      clear c8
      obtain rfl := zsi H
      go_enter Try.func18, Try.ntmps18
      go_wp2_with (first | ((with_reducible refine zgc (f := 28) rfl ?_); refine goesL_ (some 10) rfl rfl Try.func28 (by kernel_rfl) rfl #[.agg #[.int .i64 (-3), .int .i64 5], .agg #[.int .i64 2, .int .i64 4]] rfl (by (try simp only [zmt, List.map_cons, List.map_nil]); first | done | rfl | (simp only [zld, zlt]; rfl)) ?_; (with_reducible refine (bound_Mul.calls k (-3) 5 2 4 t101 t102 t103 _ A1.out).mono ?_); rintro e w9 ⟨rfl, hb⟩; refine ⟨_, rfl, ?_⟩; have n0_ := zam (zbt (by repeat (first | (with_reducible first | exact HB.out | apply zba | apply zbn | apply zb1) | exact HB.out)) hb); clear HB; have HB := n0_; clear n0_; (try clear hb); (try clear hb2); (try clear hk); (try clear hi)) | ((with_reducible refine zgd (N := 1) rfl ?_); (try (refine gate_guard (by rfl) ?_; dsimp only)); refine box_event ?hg (N := 1) ?hd (cs := #[.int .i64 0, .int .i64 0]) (t := 32) ?hr ?_; (case hd => rfl); (case hg => rfl); (case hr => first | (go_simp; done) | (go_simp; rfl)); intro gb104 hg w10 hbox hb; have n0_ := zam (zbt (by repeat (first | (with_reducible first | exact HB.out | apply zba | apply zbn | apply zb1) | exact HB.out)) hb); have n1_ := zam (hbox); have n2_ := zam ((by rw [hg]; exact (zbz (by repeat (first | (with_reducible first | exact HB.out | apply zba | apply zbn | apply zb1) | exact HB.out))) : w.heap.size ≤ gb104)); have n3_ := zam ((by rw [hg]; exact (zbz (by repeat (first | (with_reducible first | exact HB.out | apply zba | apply zbn | apply zb1) | exact HB.out))) : w.heap.size ≤ gb104)); clear HB; have HB := n0_; have BK104 := n1_; have GW104 := n2_; have GE104 := n3_; clear n0_ n1_ n2_ n3_; clear hb hbox hg; have hcz11_0 : w10.cell? ⟨gb104, 0, none⟩ = some (.int .i64 0) := (zkc BK104.out 0).trans rfl; have hcz11_1 : w10.cell? ⟨gb104, 1, none⟩ = some (.int .i64 0) := (zkc BK104.out 1).trans rfl; have hfz11_0 := zkz BK104.out 0; have hfz11_1 := zkz BK104.out 1) | ((with_reducible refine zgc (f := 61) rfl ?_); refine goesL_ (some 16) rfl rfl Try.func61 (by kernel_rfl) rfl #[.agg #[.int .i64 7, .int .i64 9], .agg #[.int .i64 (-4), .int .i64 (-2)]] rfl (by (try simp only [zmt, List.map_cons, List.map_nil]); first | done | rfl | (simp only [zld, zlt]; rfl)) ?_; (with_reducible refine (bound_Div.calls k 7 9 (-4) (-2) t105 t106 t107 _ A2.out).mono ?_); rintro e w12 ⟨rfl, hb⟩; refine ⟨_, rfl, ?_⟩; have n0_ := zam (zkb (g := gb104) (o := .cells #[.int .i64 t101, .int .i64 t102] 32 (0, 0)) (by (with_reducible repeat (first | refine zkn ?_ _ | refine zkd ?_ | refine zka ?_ _)); refine blk_put (cs := #[.int .i64 t101, .int .i64 0]) ?_ 1 _ rfl; (with_reducible repeat (first | refine zkn ?_ _ | refine zkd ?_ | refine zka ?_ _)); refine blk_put (cs := #[.int .i64 0, .int .i64 0]) ?_ 0 _ rfl; (with_reducible repeat (first | refine zkn ?_ _ | refine zkd ?_ | refine zka ?_ _)); exact BK104.out) hb); have n1_ := zam (zbt (by repeat (first | (with_reducible first | exact HB.out | apply zba | apply zbn | apply zb1 | refine zbs ?_ GE104.out) | exact HB.out)) hb); clear BK104; clear HB; have BK104 := n0_; have HB := n1_; clear n0_ n1_; (try clear hb); (try clear hb2); (try clear hk); (try clear hi)) | ((with_reducible refine zgd (N := 3) rfl ?_); (try (refine gate_guard (by rfl) ?_; dsimp only)); refine box_event ?hg (N := 3) ?hd (cs := #[.int .i64 0, .int .i64 0]) (t := 32) ?hr ?_; (case hd => rfl); (case hg => rfl); (case hr => first | (go_simp; done) | (go_simp; rfl)); intro gb108 hg w13 hbox hb; have n0_ := zam (zkb (g := gb104) (o := .cells #[.int .i64 t101, .int .i64 t102] 32 (0, 0)) (by (with_reducible repeat (first | refine zkn ?_ _ | refine zkd ?_ | refine zka ?_ _)); exact BK104.out) hb); have n1_ := zam (zbt (by repeat (first | (with_reducible first | exact HB.out | apply zba | apply zbn | apply zb1 | refine zbs ?_ GE104.out) | exact HB.out)) hb); have n2_ := zam (hbox); have n3_ := zam ((by rw [hg]; exact (zbz (by repeat (first | (with_reducible first | exact HB.out | apply zba | apply zbn | apply zb1 | refine zbs ?_ GE104.out) | exact HB.out))) : w.heap.size ≤ gb108)); have n4_ := zam ((by rw [hg]; exact (zbz (by repeat (first | (with_reducible first | exact HB.out | apply zba | apply zbn | apply zb1 | refine zbs ?_ GE104.out) | exact HB.out))) : w.heap.size ≤ gb108)); have n5_ := zam ((by rw [hg]; exact Nat.ne_of_lt (blk_lt (g := gb104) (o := .cells #[.int .i64 t101, .int .i64 t102] 32 (0, 0)) (by (with_reducible repeat (first | refine zkn ?_ _ | refine zkd ?_ | refine zka ?_ _)); exact BK104.out)) : gb104 ≠ gb108)); have n6_ := zam ((by rw [hg]; exact Nat.ne_of_gt (blk_lt (g := gb104) (o := .cells #[.int .i64 t101, .int .i64 t102] 32 (0, 0)) (by (with_reducible repeat (first | refine zkn ?_ _ | refine zkd ?_ | refine zka ?_ _)); exact BK104.out)) : gb108 ≠ gb104)); clear BK104; clear HB; have BK104 := n0_; have HB := n1_; have BK108 := n2_; have GW108 := n3_; have GE108 := n4_; have NB104_108 := n5_; have NB108_104 := n6_; clear n0_ n1_ n2_ n3_ n4_ n5_ n6_; clear hb hbox hg; have hnb14 := NB108_104.out; have hnc14 := NB104_108.out; have hcz15_0 : w13.cell? ⟨gb108, 0, none⟩ = some (.int .i64 0) := (zkc BK108.out 0).trans rfl; have hcz15_1 : w13.cell? ⟨gb108, 1, none⟩ = some (.int .i64 0) := (zkc BK108.out 1).trans rfl; have hfz15_0 := zkz BK108.out 0; have hfz15_1 := zkz BK108.out 1) | ((with_reducible refine zgd (N := 23) rfl ?_); (try (refine gate_guard (by rfl) ?_; dsimp only)); refine Kd.R_lit k32 _ 32 ?hg (N := 23) ?hd (xs := ([(⟨5, 6⟩ : S32), (⟨1, 2⟩ : S32), (⟨3, 3⟩ : S32)] : List (S32))) (inner := [.int .i64 5, .int .i64 6, .int .i64 1, .int .i64 2, .int .i64 3, .int .i64 3]) (ok := fun _ => True) (okp := fun _ => True) ?hr ?hp (fun _ hk => hk) trivial (Below.refl _ _) (Nat.le_refl _) (by simp) ?_; (case hd => rfl); (case hg => rfl); (case hr => first | (go_simp; done) | (go_simp; rfl)); (case hp => exact (Reps.c2 (show Kd.M k32 _ _ _ (⟨5, 6⟩ : S32) [.int .i64 5, .int .i64 6] from (k32_mkM _ _ _ (⟨5, 6⟩ : S32) )) (Reps.c2 (show Kd.M k32 _ _ _ (⟨1, 2⟩ : S32) [.int .i64 1, .int .i64 2] from (k32_mkM _ _ _ (⟨1, 2⟩ : S32) )) (Reps.c2 (show Kd.M k32 _ _ _ (⟨3, 3⟩ : S32) [.int .i64 3, .int .i64 3] from (k32_mkM _ _ _ (⟨3, 3⟩ : S32) )) (Reps.none _ _))))); intro v110 w16 ho17 hb hg_ hnew_; clear hg_ hnew_; (first | rw [← Ny109.out] at ho17 | (simp only [Int.reduceToNat] at ho17; rw [← Ny109.out] at ho17)); have n0_ := zam (Kd.R_lower (Kd.R_newB (Kd.R_newB ho17 (g := gb104) (o := .cells #[.int .i64 t101, .int .i64 t102] 32 (0, 0)) (by (with_reducible repeat (first | refine zkn ?_ _ | refine zkd ?_ | refine zka ?_ _)); refine blk_far ?_ NB104_108.out _; (with_reducible repeat (first | refine zkn ?_ _ | refine zkd ?_ | refine zka ?_ _)); refine blk_far ?_ NB104_108.out _; (with_reducible repeat (first | refine zkn ?_ _ | refine zkd ?_ | refine zka ?_ _)); exact BK104.out)) (g := gb108) (o := .cells #[.int .i64 t105, .int .i64 t106] 32 (0, 0)) (by (with_reducible repeat (first | refine zkn ?_ _ | refine zkd ?_ | refine zka ?_ _)); refine blk_put (cs := #[.int .i64 t105, .int .i64 0]) ?_ 1 _ rfl; (with_reducible repeat (first | refine zkn ?_ _ | refine zkd ?_ | refine zka ?_ _)); refine blk_put (cs := #[.int .i64 0, .int .i64 0]) ?_ 0 _ rfl; (with_reducible repeat (first | refine zkn ?_ _ | refine zkd ?_ | refine zka ?_ _)); exact BK108.out)) (zbz (by repeat (first | (with_reducible first | exact HB.out | apply zba | apply zbn | apply zb1 | refine zbs ?_ GE104.out | refine zbs ?_ GE108.out) | exact HB.out)))); have n1_ := zam (zkb (g := gb104) (o := .cells #[.int .i64 t101, .int .i64 t102] 32 (0, 0)) (by (with_reducible repeat (first | refine zkn ?_ _ | refine zkd ?_ | refine zka ?_ _)); refine blk_far ?_ NB104_108.out _; (with_reducible repeat (first | refine zkn ?_ _ | refine zkd ?_ | refine zka ?_ _)); refine blk_far ?_ NB104_108.out _; (with_reducible repeat (first | refine zkn ?_ _ | refine zkd ?_ | refine zka ?_ _)); exact BK104.out) hb); have n2_ := zam (zkb (g := gb108) (o := .cells #[.int .i64 t105, .int .i64 t106] 32 (0, 0)) (by (with_reducible repeat (first | refine zkn ?_ _ | refine zkd ?_ | refine zka ?_ _)); refine blk_put (cs := #[.int .i64 t105, .int .i64 0]) ?_ 1 _ rfl; (with_reducible repeat (first | refine zkn ?_ _ | refine zkd ?_ | refine zka ?_ _)); refine blk_put (cs := #[.int .i64 0, .int .i64 0]) ?_ 0 _ rfl; (with_reducible repeat (first | refine zkn ?_ _ | refine zkd ?_ | refine zka ?_ _)); exact BK108.out) hb); have n3_ := zam (zbt (by repeat (first | (with_reducible first | exact HB.out | apply zba | apply zbn | apply zb1 | refine zbs ?_ GE104.out | refine zbs ?_ GE108.out) | exact HB.out)) hb); clear BK104; clear BK108; clear HB; have HO111 := n0_; have BK104 := n1_; have BK108 := n2_; have HB := n3_; clear n0_ n1_ n2_ n3_; clear hb ho17; obtain ⟨Ao18, co18, eo18⟩ := Kd.R_slice HO111.out; subst eo18) | ((with_reducible refine zgc (f := 46) rfl ?_); refine goesL_ (some 24) rfl rfl Try.func46 (by kernel_rfl) rfl #[.slice Ao18 y109.length co18] rfl (by (try simp only [zmt, List.map_cons, List.map_nil]); first | done | rfl | (simp only [zld, zlt]; rfl)) ?_; (with_reducible refine (bound_Cover.calls k _ _ y109 t112 t113 _ ?side1 ?side2 A3.out).mono ?_); (case side1 => repeat (first | exact (Kd.R_reads' HO111.out).2.2 | (with_reducible refine Kd.C_alloc ?_ _) | (with_reducible refine Kd.C_drewN ?_ _) | (with_reducible refine Kd.C_drew ?_))); (case side2 => exact (Kd.R_reads' HO111.out).2.1); rintro e w19 ⟨v114, rfl, ho0, hb⟩; refine ⟨_, rfl, ?_⟩; have n0_ := zam (Kd.R_elder' (by (with_reducible repeat (first | apply zRa | apply zRn | apply zRd)); exact HO111.out) (Kd.R_base ho0) hb); have n1_ := zam (Kd.R_lower (Kd.R_newB (Kd.R_newB (Kd.R_new' ho0 (Kd.R_lt (by (with_reducible repeat (first | apply zRa | apply zRn | apply zRd)); exact HO111.out))) (g := gb104) (o := .cells #[.int .i64 t101, .int .i64 t102] 32 (0, 0)) (by (with_reducible repeat (first | refine zkn ?_ _ | refine zkd ?_ | refine zka ?_ _)); exact BK104.out)) (g := gb108) (o := .cells #[.int .i64 t105, .int .i64 t106] 32 (0, 0)) (by (with_reducible repeat (first | refine zkn ?_ _ | refine zkd ?_ | refine zka ?_ _)); exact BK108.out)) (zbz (by repeat (first | (with_reducible first | exact HB.out | apply zba | apply zbn | apply zb1 | refine zbs ?_ GE104.out | refine zbs ?_ GE108.out) | exact HB.out)))); have n2_ := zam (zkb (g := gb104) (o := .cells #[.int .i64 t101, .int .i64 t102] 32 (0, 0)) (by (with_reducible repeat (first | refine zkn ?_ _ | refine zkd ?_ | refine zka ?_ _)); exact BK104.out) hb); have n3_ := zam (zkb (g := gb108) (o := .cells #[.int .i64 t105, .int .i64 t106] 32 (0, 0)) (by (with_reducible repeat (first | refine zkn ?_ _ | refine zkd ?_ | refine zka ?_ _)); exact BK108.out) hb); have n4_ := zam (zbt (by repeat (first | (with_reducible first | exact HB.out | apply zba | apply zbn | apply zb1 | refine zbs ?_ GE104.out | refine zbs ?_ GE108.out) | exact HB.out)) hb); clear HO111; clear BK104; clear BK108; clear HB; have HO111 := n0_; have HO115 := n1_; have BK104 := n2_; have BK108 := n3_; have HB := n4_; clear n0_ n1_ n2_ n3_ n4_; (try clear hb); (try clear hb2); (try clear hk); (try clear hi); (try clear ho0); have hcz20_0 : w19.cell? ⟨gb104, 0, none⟩ = some (.int .i64 t101) := (zkc BK104.out 0).trans rfl; have hcz20_1 : w19.cell? ⟨gb104, 1, none⟩ = some (.int .i64 t102) := (zkc BK104.out 1).trans rfl; have hfz20_0 := zkz BK104.out 0; have hfz20_1 := zkz BK104.out 1; have hcz21_0 : w19.cell? ⟨gb108, 0, none⟩ = some (.int .i64 t105) := (zkc BK108.out 0).trans rfl; have hcz21_1 : w19.cell? ⟨gb108, 1, none⟩ = some (.int .i64 t106) := (zkc BK108.out 1).trans rfl; have hfz21_0 := zkz BK108.out 0; have hfz21_1 := zkz BK108.out 1; obtain ⟨Ao22, co22, eo22⟩ := Kd.R_slice HO115.out; subst eo22; have p116 : 0 ≤ (0 : Int) := (by omega); have q116 : 0 < (t112.length : Int) := zod (by first | (with_reducible assumption) | assumption); obtain ⟨ad116, e116, hx116_0, hx116_1⟩ := at_T32 (Kd.R_reads' HO115.out).2.2 0 p116 q116; cases e116; have qi116 : (0 < t112.length) = True := eq_true (by omega); (try rw [show ((0 : Int)).toNat = 0 from rfl] at hx116_0); (try rw [show 0 * 2 = 0 from rfl] at hx116_0); (try rw [Addr.add_zero'] at hx116_0); (try rw [show ((0 : Int)).toNat = 0 from rfl] at hx116_1); (try rw [show 0 * 2 = 0 from rfl] at hx116_1); (try rw [Addr.add_zero'] at hx116_1); replace p116 := eq_true p116; replace q116 := eq_true q116))
      go_ret
      exact ⟨by first | rfl | (simp [errW_none, errW_some] <;> rfl) | (simp [*, errW_none, errW_some] <;> rfl), by repeat (first | (with_reducible first | exact HB.out | apply zba | apply zbn | apply zb1 | refine zbs ?_ GE104.out | refine zbs ?_ GE108.out) | exact HB.out)⟩
     rw [if_neg c8] at H
     exact absurd H (by simp)
    rw [if_neg c7] at H
    have c7b0 : ((t112.length : Int) == 2) = false := beq_eq_false_iff_ne.mpr c7
    have c7b1 : ((t112.length : Int) != 2) = true := bne_iff_ne.mpr c7
    obtain rfl := zsi H
    go_enter Try.func18, Try.ntmps18
    go_wp2_with (first | ((with_reducible refine zgc (f := 28) rfl ?_); refine goesL_ (some 10) rfl rfl Try.func28 (by kernel_rfl) rfl #[.agg #[.int .i64 (-3), .int .i64 5], .agg #[.int .i64 2, .int .i64 4]] rfl (by (try simp only [zmt, List.map_cons, List.map_nil]); first | done | rfl | (simp only [zld, zlt]; rfl)) ?_; (with_reducible refine (bound_Mul.calls k (-3) 5 2 4 t101 t102 t103 _ A1.out).mono ?_); rintro e w23 ⟨rfl, hb⟩; refine ⟨_, rfl, ?_⟩; have n0_ := zam (zbt (by repeat (first | (with_reducible first | exact HB.out | apply zba | apply zbn | apply zb1) | exact HB.out)) hb); clear HB; have HB := n0_; clear n0_; (try clear hb); (try clear hb2); (try clear hk); (try clear hi)) | ((with_reducible refine zgd (N := 1) rfl ?_); (try (refine gate_guard (by rfl) ?_; dsimp only)); refine box_event ?hg (N := 1) ?hd (cs := #[.int .i64 0, .int .i64 0]) (t := 32) ?hr ?_; (case hd => rfl); (case hg => rfl); (case hr => first | (go_simp; done) | (go_simp; rfl)); intro gb104 hg w24 hbox hb; have n0_ := zam (zbt (by repeat (first | (with_reducible first | exact HB.out | apply zba | apply zbn | apply zb1) | exact HB.out)) hb); have n1_ := zam (hbox); have n2_ := zam ((by rw [hg]; exact (zbz (by repeat (first | (with_reducible first | exact HB.out | apply zba | apply zbn | apply zb1) | exact HB.out))) : w.heap.size ≤ gb104)); have n3_ := zam ((by rw [hg]; exact (zbz (by repeat (first | (with_reducible first | exact HB.out | apply zba | apply zbn | apply zb1) | exact HB.out))) : w.heap.size ≤ gb104)); clear HB; have HB := n0_; have BK104 := n1_; have GW104 := n2_; have GE104 := n3_; clear n0_ n1_ n2_ n3_; clear hb hbox hg; have hcz25_0 : w24.cell? ⟨gb104, 0, none⟩ = some (.int .i64 0) := (zkc BK104.out 0).trans rfl; have hcz25_1 : w24.cell? ⟨gb104, 1, none⟩ = some (.int .i64 0) := (zkc BK104.out 1).trans rfl; have hfz25_0 := zkz BK104.out 0; have hfz25_1 := zkz BK104.out 1) | ((with_reducible refine zgc (f := 61) rfl ?_); refine goesL_ (some 16) rfl rfl Try.func61 (by kernel_rfl) rfl #[.agg #[.int .i64 7, .int .i64 9], .agg #[.int .i64 (-4), .int .i64 (-2)]] rfl (by (try simp only [zmt, List.map_cons, List.map_nil]); first | done | rfl | (simp only [zld, zlt]; rfl)) ?_; (with_reducible refine (bound_Div.calls k 7 9 (-4) (-2) t105 t106 t107 _ A2.out).mono ?_); rintro e w26 ⟨rfl, hb⟩; refine ⟨_, rfl, ?_⟩; have n0_ := zam (zkb (g := gb104) (o := .cells #[.int .i64 t101, .int .i64 t102] 32 (0, 0)) (by (with_reducible repeat (first | refine zkn ?_ _ | refine zkd ?_ | refine zka ?_ _)); refine blk_put (cs := #[.int .i64 t101, .int .i64 0]) ?_ 1 _ rfl; (with_reducible repeat (first | refine zkn ?_ _ | refine zkd ?_ | refine zka ?_ _)); refine blk_put (cs := #[.int .i64 0, .int .i64 0]) ?_ 0 _ rfl; (with_reducible repeat (first | refine zkn ?_ _ | refine zkd ?_ | refine zka ?_ _)); exact BK104.out) hb); have n1_ := zam (zbt (by repeat (first | (with_reducible first | exact HB.out | apply zba | apply zbn | apply zb1 | refine zbs ?_ GE104.out) | exact HB.out)) hb); clear BK104; clear HB; have BK104 := n0_; have HB := n1_; clear n0_ n1_; (try clear hb); (try clear hb2); (try clear hk); (try clear hi)) | ((with_reducible refine zgd (N := 3) rfl ?_); (try (refine gate_guard (by rfl) ?_; dsimp only)); refine box_event ?hg (N := 3) ?hd (cs := #[.int .i64 0, .int .i64 0]) (t := 32) ?hr ?_; (case hd => rfl); (case hg => rfl); (case hr => first | (go_simp; done) | (go_simp; rfl)); intro gb108 hg w27 hbox hb; have n0_ := zam (zkb (g := gb104) (o := .cells #[.int .i64 t101, .int .i64 t102] 32 (0, 0)) (by (with_reducible repeat (first | refine zkn ?_ _ | refine zkd ?_ | refine zka ?_ _)); exact BK104.out) hb); have n1_ := zam (zbt (by repeat (first | (with_reducible first | exact HB.out | apply zba | apply zbn | apply zb1 | refine zbs ?_ GE104.out) | exact HB.out)) hb); have n2_ := zam (hbox); have n3_ := zam ((by rw [hg]; exact (zbz (by repeat (first | (with_reducible first | exact HB.out | apply zba | apply zbn | apply zb1 | refine zbs ?_ GE104.out) | exact HB.out))) : w.heap.size ≤ gb108)); have n4_ := zam ((by rw [hg]; exact (zbz (by repeat (first | (with_reducible first | exact HB.out | apply zba | apply zbn | apply zb1 | refine zbs ?_ GE104.out) | exact HB.out))) : w.heap.size ≤ gb108)); have n5_ := zam ((by rw [hg]; exact Nat.ne_of_lt (blk_lt (g := gb104) (o := .cells #[.int .i64 t101, .int .i64 t102] 32 (0, 0)) (by (with_reducible repeat (first | refine zkn ?_ _ | refine zkd ?_ | refine zka ?_ _)); exact BK104.out)) : gb104 ≠ gb108)); have n6_ := zam ((by rw [hg]; exact Nat.ne_of_gt (blk_lt (g := gb104) (o := .cells #[.int .i64 t101, .int .i64 t102] 32 (0, 0)) (by (with_reducible repeat (first | refine zkn ?_ _ | refine zkd ?_ | refine zka ?_ _)); exact BK104.out)) : gb108 ≠ gb104)); clear BK104; clear HB; have BK104 := n0_; have HB := n1_; have BK108 := n2_; have GW108 := n3_; have GE108 := n4_; have NB104_108 := n5_; have NB108_104 := n6_; clear n0_ n1_ n2_ n3_ n4_ n5_ n6_; clear hb hbox hg; have hnb28 := NB108_104.out; have hnc28 := NB104_108.out; have hcz29_0 : w27.cell? ⟨gb108, 0, none⟩ = some (.int .i64 0) := (zkc BK108.out 0).trans rfl; have hcz29_1 : w27.cell? ⟨gb108, 1, none⟩ = some (.int .i64 0) := (zkc BK108.out 1).trans rfl; have hfz29_0 := zkz BK108.out 0; have hfz29_1 := zkz BK108.out 1) | ((with_reducible refine zgd (N := 23) rfl ?_); (try (refine gate_guard (by rfl) ?_; dsimp only)); refine Kd.R_lit k32 _ 32 ?hg (N := 23) ?hd (xs := ([(⟨5, 6⟩ : S32), (⟨1, 2⟩ : S32), (⟨3, 3⟩ : S32)] : List (S32))) (inner := [.int .i64 5, .int .i64 6, .int .i64 1, .int .i64 2, .int .i64 3, .int .i64 3]) (ok := fun _ => True) (okp := fun _ => True) ?hr ?hp (fun _ hk => hk) trivial (Below.refl _ _) (Nat.le_refl _) (by simp) ?_; (case hd => rfl); (case hg => rfl); (case hr => first | (go_simp; done) | (go_simp; rfl)); (case hp => exact (Reps.c2 (show Kd.M k32 _ _ _ (⟨5, 6⟩ : S32) [.int .i64 5, .int .i64 6] from (k32_mkM _ _ _ (⟨5, 6⟩ : S32) )) (Reps.c2 (show Kd.M k32 _ _ _ (⟨1, 2⟩ : S32) [.int .i64 1, .int .i64 2] from (k32_mkM _ _ _ (⟨1, 2⟩ : S32) )) (Reps.c2 (show Kd.M k32 _ _ _ (⟨3, 3⟩ : S32) [.int .i64 3, .int .i64 3] from (k32_mkM _ _ _ (⟨3, 3⟩ : S32) )) (Reps.none _ _))))); intro v110 w30 ho31 hb hg_ hnew_; clear hg_ hnew_; (first | rw [← Ny109.out] at ho31 | (simp only [Int.reduceToNat] at ho31; rw [← Ny109.out] at ho31)); have n0_ := zam (Kd.R_lower (Kd.R_newB (Kd.R_newB ho31 (g := gb104) (o := .cells #[.int .i64 t101, .int .i64 t102] 32 (0, 0)) (by (with_reducible repeat (first | refine zkn ?_ _ | refine zkd ?_ | refine zka ?_ _)); refine blk_far ?_ NB104_108.out _; (with_reducible repeat (first | refine zkn ?_ _ | refine zkd ?_ | refine zka ?_ _)); refine blk_far ?_ NB104_108.out _; (with_reducible repeat (first | refine zkn ?_ _ | refine zkd ?_ | refine zka ?_ _)); exact BK104.out)) (g := gb108) (o := .cells #[.int .i64 t105, .int .i64 t106] 32 (0, 0)) (by (with_reducible repeat (first | refine zkn ?_ _ | refine zkd ?_ | refine zka ?_ _)); refine blk_put (cs := #[.int .i64 t105, .int .i64 0]) ?_ 1 _ rfl; (with_reducible repeat (first | refine zkn ?_ _ | refine zkd ?_ | refine zka ?_ _)); refine blk_put (cs := #[.int .i64 0, .int .i64 0]) ?_ 0 _ rfl; (with_reducible repeat (first | refine zkn ?_ _ | refine zkd ?_ | refine zka ?_ _)); exact BK108.out)) (zbz (by repeat (first | (with_reducible first | exact HB.out | apply zba | apply zbn | apply zb1 | refine zbs ?_ GE104.out | refine zbs ?_ GE108.out) | exact HB.out)))); have n1_ := zam (zkb (g := gb104) (o := .cells #[.int .i64 t101, .int .i64 t102] 32 (0, 0)) (by (with_reducible repeat (first | refine zkn ?_ _ | refine zkd ?_ | refine zka ?_ _)); refine blk_far ?_ NB104_108.out _; (with_reducible repeat (first | refine zkn ?_ _ | refine zkd ?_ | refine zka ?_ _)); refine blk_far ?_ NB104_108.out _; (with_reducible repeat (first | refine zkn ?_ _ | refine zkd ?_ | refine zka ?_ _)); exact BK104.out) hb); have n2_ := zam (zkb (g := gb108) (o := .cells #[.int .i64 t105, .int .i64 t106] 32 (0, 0)) (by (with_reducible repeat (first | refine zkn ?_ _ | refine zkd ?_ | refine zka ?_ _)); refine blk_put (cs := #[.int .i64 t105, .int .i64 0]) ?_ 1 _ rfl; (with_reducible repeat (first | refine zkn ?_ _ | refine zkd ?_ | refine zka ?_ _)); refine blk_put (cs := #[.int .i64 0, .int .i64 0]) ?_ 0 _ rfl; (with_reducible repeat (first | refine zkn ?_ _ | refine zkd ?_ | refine zka ?_ _)); exact BK108.out) hb); have n3_ := zam (zbt (by repeat (first | (with_reducible first | exact HB.out | apply zba | apply zbn | apply zb1 | refine zbs ?_ GE104.out | refine zbs ?_ GE108.out) | exact HB.out)) hb); clear BK104; clear BK108; clear HB; have HO111 := n0_; have BK104 := n1_; have BK108 := n2_; have HB := n3_; clear n0_ n1_ n2_ n3_; clear hb ho31; obtain ⟨Ao32, co32, eo32⟩ := Kd.R_slice HO111.out; subst eo32) | ((with_reducible refine zgc (f := 46) rfl ?_); refine goesL_ (some 24) rfl rfl Try.func46 (by kernel_rfl) rfl #[.slice Ao32 y109.length co32] rfl (by (try simp only [zmt, List.map_cons, List.map_nil]); first | done | rfl | (simp only [zld, zlt]; rfl)) ?_; (with_reducible refine (bound_Cover.calls k _ _ y109 t112 t113 _ ?side1 ?side2 A3.out).mono ?_); (case side1 => repeat (first | exact (Kd.R_reads' HO111.out).2.2 | (with_reducible refine Kd.C_alloc ?_ _) | (with_reducible refine Kd.C_drewN ?_ _) | (with_reducible refine Kd.C_drew ?_))); (case side2 => exact (Kd.R_reads' HO111.out).2.1); rintro e w33 ⟨v114, rfl, ho0, hb⟩; refine ⟨_, rfl, ?_⟩; have n0_ := zam (Kd.R_elder' (by (with_reducible repeat (first | apply zRa | apply zRn | apply zRd)); exact HO111.out) (Kd.R_base ho0) hb); have n1_ := zam (Kd.R_lower (Kd.R_newB (Kd.R_newB (Kd.R_new' ho0 (Kd.R_lt (by (with_reducible repeat (first | apply zRa | apply zRn | apply zRd)); exact HO111.out))) (g := gb104) (o := .cells #[.int .i64 t101, .int .i64 t102] 32 (0, 0)) (by (with_reducible repeat (first | refine zkn ?_ _ | refine zkd ?_ | refine zka ?_ _)); exact BK104.out)) (g := gb108) (o := .cells #[.int .i64 t105, .int .i64 t106] 32 (0, 0)) (by (with_reducible repeat (first | refine zkn ?_ _ | refine zkd ?_ | refine zka ?_ _)); exact BK108.out)) (zbz (by repeat (first | (with_reducible first | exact HB.out | apply zba | apply zbn | apply zb1 | refine zbs ?_ GE104.out | refine zbs ?_ GE108.out) | exact HB.out)))); have n2_ := zam (zkb (g := gb104) (o := .cells #[.int .i64 t101, .int .i64 t102] 32 (0, 0)) (by (with_reducible repeat (first | refine zkn ?_ _ | refine zkd ?_ | refine zka ?_ _)); exact BK104.out) hb); have n3_ := zam (zkb (g := gb108) (o := .cells #[.int .i64 t105, .int .i64 t106] 32 (0, 0)) (by (with_reducible repeat (first | refine zkn ?_ _ | refine zkd ?_ | refine zka ?_ _)); exact BK108.out) hb); have n4_ := zam (zbt (by repeat (first | (with_reducible first | exact HB.out | apply zba | apply zbn | apply zb1 | refine zbs ?_ GE104.out | refine zbs ?_ GE108.out) | exact HB.out)) hb); clear HO111; clear BK104; clear BK108; clear HB; have HO111 := n0_; have HO115 := n1_; have BK104 := n2_; have BK108 := n3_; have HB := n4_; clear n0_ n1_ n2_ n3_ n4_; (try clear hb); (try clear hb2); (try clear hk); (try clear hi); (try clear ho0); have hcz34_0 : w33.cell? ⟨gb104, 0, none⟩ = some (.int .i64 t101) := (zkc BK104.out 0).trans rfl; have hcz34_1 : w33.cell? ⟨gb104, 1, none⟩ = some (.int .i64 t102) := (zkc BK104.out 1).trans rfl; have hfz34_0 := zkz BK104.out 0; have hfz34_1 := zkz BK104.out 1; have hcz35_0 : w33.cell? ⟨gb108, 0, none⟩ = some (.int .i64 t105) := (zkc BK108.out 0).trans rfl; have hcz35_1 : w33.cell? ⟨gb108, 1, none⟩ = some (.int .i64 t106) := (zkc BK108.out 1).trans rfl; have hfz35_0 := zkz BK108.out 0; have hfz35_1 := zkz BK108.out 1; obtain ⟨Ao36, co36, eo36⟩ := Kd.R_slice HO115.out; subst eo36))
    go_ret
    exact ⟨by first | rfl | (simp [errW_none, errW_some] <;> rfl) | (simp [*, errW_none, errW_some] <;> rfl), by repeat (first | (with_reducible first | exact HB.out | apply zba | apply zbn | apply zb1 | refine zbs ?_ GE104.out | refine zbs ?_ GE108.out) | exact HB.out)⟩
   rw [if_neg c6] at H
   have c6b0 : (t105 == (-5) && (t106 == (-1))) = false := by simpa using c6
   (try (have c6b1 : decide (t105 = (-5) && (t106 == (-1))) = false := by simpa using c6))
   (try (have c6b2 : (t105 == (-5) && (t106 == (-1))) = false := by simpa using c6))
   (try (have c6b3 : ¬ (t105 = (-5) && (t106 == (-1))) := by simpa using c6))
   clear c6
   obtain rfl := zsi H
   go_enter Try.func18, Try.ntmps18
   go_wp2_with (first | ((with_reducible refine zgc (f := 28) rfl ?_); refine goesL_ (some 10) rfl rfl Try.func28 (by kernel_rfl) rfl #[.agg #[.int .i64 (-3), .int .i64 5], .agg #[.int .i64 2, .int .i64 4]] rfl (by (try simp only [zmt, List.map_cons, List.map_nil]); first | done | rfl | (simp only [zld, zlt]; rfl)) ?_; (with_reducible refine (bound_Mul.calls k (-3) 5 2 4 t101 t102 t103 _ A1.out).mono ?_); rintro e w37 ⟨rfl, hb⟩; refine ⟨_, rfl, ?_⟩; have n0_ := zam (zbt (by repeat (first | (with_reducible first | exact HB.out | apply zba | apply zbn | apply zb1) | exact HB.out)) hb); clear HB; have HB := n0_; clear n0_; (try clear hb); (try clear hb2); (try clear hk); (try clear hi)) | ((with_reducible refine zgd (N := 1) rfl ?_); (try (refine gate_guard (by rfl) ?_; dsimp only)); refine box_event ?hg (N := 1) ?hd (cs := #[.int .i64 0, .int .i64 0]) (t := 32) ?hr ?_; (case hd => rfl); (case hg => rfl); (case hr => first | (go_simp; done) | (go_simp; rfl)); intro gb104 hg w38 hbox hb; have n0_ := zam (zbt (by repeat (first | (with_reducible first | exact HB.out | apply zba | apply zbn | apply zb1) | exact HB.out)) hb); have n1_ := zam (hbox); have n2_ := zam ((by rw [hg]; exact (zbz (by repeat (first | (with_reducible first | exact HB.out | apply zba | apply zbn | apply zb1) | exact HB.out))) : w.heap.size ≤ gb104)); have n3_ := zam ((by rw [hg]; exact (zbz (by repeat (first | (with_reducible first | exact HB.out | apply zba | apply zbn | apply zb1) | exact HB.out))) : w.heap.size ≤ gb104)); clear HB; have HB := n0_; have BK104 := n1_; have GW104 := n2_; have GE104 := n3_; clear n0_ n1_ n2_ n3_; clear hb hbox hg; have hcz39_0 : w38.cell? ⟨gb104, 0, none⟩ = some (.int .i64 0) := (zkc BK104.out 0).trans rfl; have hcz39_1 : w38.cell? ⟨gb104, 1, none⟩ = some (.int .i64 0) := (zkc BK104.out 1).trans rfl; have hfz39_0 := zkz BK104.out 0; have hfz39_1 := zkz BK104.out 1) | ((with_reducible refine zgc (f := 61) rfl ?_); refine goesL_ (some 16) rfl rfl Try.func61 (by kernel_rfl) rfl #[.agg #[.int .i64 7, .int .i64 9], .agg #[.int .i64 (-4), .int .i64 (-2)]] rfl (by (try simp only [zmt, List.map_cons, List.map_nil]); first | done | rfl | (simp only [zld, zlt]; rfl)) ?_; (with_reducible refine (bound_Div.calls k 7 9 (-4) (-2) t105 t106 t107 _ A2.out).mono ?_); rintro e w40 ⟨rfl, hb⟩; refine ⟨_, rfl, ?_⟩; have n0_ := zam (zkb (g := gb104) (o := .cells #[.int .i64 t101, .int .i64 t102] 32 (0, 0)) (by (with_reducible repeat (first | refine zkn ?_ _ | refine zkd ?_ | refine zka ?_ _)); refine blk_put (cs := #[.int .i64 t101, .int .i64 0]) ?_ 1 _ rfl; (with_reducible repeat (first | refine zkn ?_ _ | refine zkd ?_ | refine zka ?_ _)); refine blk_put (cs := #[.int .i64 0, .int .i64 0]) ?_ 0 _ rfl; (with_reducible repeat (first | refine zkn ?_ _ | refine zkd ?_ | refine zka ?_ _)); exact BK104.out) hb); have n1_ := zam (zbt (by repeat (first | (with_reducible first | exact HB.out | apply zba | apply zbn | apply zb1 | refine zbs ?_ GE104.out) | exact HB.out)) hb); clear BK104; clear HB; have BK104 := n0_; have HB := n1_; clear n0_ n1_; (try clear hb); (try clear hb2); (try clear hk); (try clear hi)) | ((with_reducible refine zgd (N := 3) rfl ?_); (try (refine gate_guard (by rfl) ?_; dsimp only)); refine box_event ?hg (N := 3) ?hd (cs := #[.int .i64 0, .int .i64 0]) (t := 32) ?hr ?_; (case hd => rfl); (case hg => rfl); (case hr => first | (go_simp; done) | (go_simp; rfl)); intro gb108 hg w41 hbox hb; have n0_ := zam (zkb (g := gb104) (o := .cells #[.int .i64 t101, .int .i64 t102] 32 (0, 0)) (by (with_reducible repeat (first | refine zkn ?_ _ | refine zkd ?_ | refine zka ?_ _)); exact BK104.out) hb); have n1_ := zam (zbt (by repeat (first | (with_reducible first | exact HB.out | apply zba | apply zbn | apply zb1 | refine zbs ?_ GE104.out) | exact HB.out)) hb); have n2_ := zam (hbox); have n3_ := zam ((by rw [hg]; exact (zbz (by repeat (first | (with_reducible first | exact HB.out | apply zba | apply zbn | apply zb1 | refine zbs ?_ GE104.out) | exact HB.out))) : w.heap.size ≤ gb108)); have n4_ := zam ((by rw [hg]; exact (zbz (by repeat (first | (with_reducible first | exact HB.out | apply zba | apply zbn | apply zb1 | refine zbs ?_ GE104.out) | exact HB.out))) : w.heap.size ≤ gb108)); have n5_ := zam ((by rw [hg]; exact Nat.ne_of_lt (blk_lt (g := gb104) (o := .cells #[.int .i64 t101, .int .i64 t102] 32 (0, 0)) (by (with_reducible repeat (first | refine zkn ?_ _ | refine zkd ?_ | refine zka ?_ _)); exact BK104.out)) : gb104 ≠ gb108)); have n6_ := zam ((by rw [hg]; exact Nat.ne_of_gt (blk_lt (g := gb104) (o := .cells #[.int .i64 t101, .int .i64 t102] 32 (0, 0)) (by (with_reducible repeat (first | refine zkn ?_ _ | refine zkd ?_ | refine zka ?_ _)); exact BK104.out)) : gb108 ≠ gb104)); clear BK104; clear HB; have BK104 := n0_; have HB := n1_; have BK108 := n2_; have GW108 := n3_; have GE108 := n4_; have NB104_108 := n5_; have NB108_104 := n6_; clear n0_ n1_ n2_ n3_ n4_ n5_ n6_; clear hb hbox hg; have hnb42 := NB108_104.out; have hnc42 := NB104_108.out; have hcz43_0 : w41.cell? ⟨gb108, 0, none⟩ = some (.int .i64 0) := (zkc BK108.out 0).trans rfl; have hcz43_1 : w41.cell? ⟨gb108, 1, none⟩ = some (.int .i64 0) := (zkc BK108.out 1).trans rfl; have hfz43_0 := zkz BK108.out 0; have hfz43_1 := zkz BK108.out 1) | ((with_reducible refine zgd (N := 23) rfl ?_); (try (refine gate_guard (by rfl) ?_; dsimp only)); refine Kd.R_lit k32 _ 32 ?hg (N := 23) ?hd (xs := ([(⟨5, 6⟩ : S32), (⟨1, 2⟩ : S32), (⟨3, 3⟩ : S32)] : List (S32))) (inner := [.int .i64 5, .int .i64 6, .int .i64 1, .int .i64 2, .int .i64 3, .int .i64 3]) (ok := fun _ => True) (okp := fun _ => True) ?hr ?hp (fun _ hk => hk) trivial (Below.refl _ _) (Nat.le_refl _) (by simp) ?_; (case hd => rfl); (case hg => rfl); (case hr => first | (go_simp; done) | (go_simp; rfl)); (case hp => exact (Reps.c2 (show Kd.M k32 _ _ _ (⟨5, 6⟩ : S32) [.int .i64 5, .int .i64 6] from (k32_mkM _ _ _ (⟨5, 6⟩ : S32) )) (Reps.c2 (show Kd.M k32 _ _ _ (⟨1, 2⟩ : S32) [.int .i64 1, .int .i64 2] from (k32_mkM _ _ _ (⟨1, 2⟩ : S32) )) (Reps.c2 (show Kd.M k32 _ _ _ (⟨3, 3⟩ : S32) [.int .i64 3, .int .i64 3] from (k32_mkM _ _ _ (⟨3, 3⟩ : S32) )) (Reps.none _ _))))); intro v110 w44 ho45 hb hg_ hnew_; clear hg_ hnew_; (first | rw [← Ny109.out] at ho45 | (simp only [Int.reduceToNat] at ho45; rw [← Ny109.out] at ho45)); have n0_ := zam (Kd.R_lower (Kd.R_newB (Kd.R_newB ho45 (g := gb104) (o := .cells #[.int .i64 t101, .int .i64 t102] 32 (0, 0)) (by (with_reducible repeat (first | refine zkn ?_ _ | refine zkd ?_ | refine zka ?_ _)); refine blk_far ?_ NB104_108.out _; (with_reducible repeat (first | refine zkn ?_ _ | refine zkd ?_ | refine zka ?_ _)); refine blk_far ?_ NB104_108.out _; (with_reducible repeat (first | refine zkn ?_ _ | refine zkd ?_ | refine zka ?_ _)); exact BK104.out)) (g := gb108) (o := .cells #[.int .i64 t105, .int .i64 t106] 32 (0, 0)) (by (with_reducible repeat (first | refine zkn ?_ _ | refine zkd ?_ | refine zka ?_ _)); refine blk_put (cs := #[.int .i64 t105, .int .i64 0]) ?_ 1 _ rfl; (with_reducible repeat (first | refine zkn ?_ _ | refine zkd ?_ | refine zka ?_ _)); refine blk_put (cs := #[.int .i64 0, .int .i64 0]) ?_ 0 _ rfl; (with_reducible repeat (first | refine zkn ?_ _ | refine zkd ?_ | refine zka ?_ _)); exact BK108.out)) (zbz (by repeat (first | (with_reducible first | exact HB.out | apply zba | apply zbn | apply zb1 | refine zbs ?_ GE104.out | refine zbs ?_ GE108.out) | exact HB.out)))); have n1_ := zam (zkb (g := gb104) (o := .cells #[.int .i64 t101, .int .i64 t102] 32 (0, 0)) (by (with_reducible repeat (first | refine zkn ?_ _ | refine zkd ?_ | refine zka ?_ _)); refine blk_far ?_ NB104_108.out _; (with_reducible repeat (first | refine zkn ?_ _ | refine zkd ?_ | refine zka ?_ _)); refine blk_far ?_ NB104_108.out _; (with_reducible repeat (first | refine zkn ?_ _ | refine zkd ?_ | refine zka ?_ _)); exact BK104.out) hb); have n2_ := zam (zkb (g := gb108) (o := .cells #[.int .i64 t105, .int .i64 t106] 32 (0, 0)) (by (with_reducible repeat (first | refine zkn ?_ _ | refine zkd ?_ | refine zka ?_ _)); refine blk_put (cs := #[.int .i64 t105, .int .i64 0]) ?_ 1 _ rfl; (with_reducible repeat (first | refine zkn ?_ _ | refine zkd ?_ | refine zka ?_ _)); refine blk_put (cs := #[.int .i64 0, .int .i64 0]) ?_ 0 _ rfl; (with_reducible repeat (first | refine zkn ?_ _ | refine zkd ?_ | refine zka ?_ _)); exact BK108.out) hb); have n3_ := zam (zbt (by repeat (first | (with_reducible first | exact HB.out | apply zba | apply zbn | apply zb1 | refine zbs ?_ GE104.out | refine zbs ?_ GE108.out) | exact HB.out)) hb); clear BK104; clear BK108; clear HB; have HO111 := n0_; have BK104 := n1_; have BK108 := n2_; have HB := n3_; clear n0_ n1_ n2_ n3_; clear hb ho45; obtain ⟨Ao46, co46, eo46⟩ := Kd.R_slice HO111.out; subst eo46) | ((with_reducible refine zgc (f := 46) rfl ?_); refine goesL_ (some 24) rfl rfl Try.func46 (by kernel_rfl) rfl #[.slice Ao46 y109.length co46] rfl (by (try simp only [zmt, List.map_cons, List.map_nil]); first | done | rfl | (simp only [zld, zlt]; rfl)) ?_; (with_reducible refine (bound_Cover.calls k _ _ y109 t112 t113 _ ?side1 ?side2 A3.out).mono ?_); (case side1 => repeat (first | exact (Kd.R_reads' HO111.out).2.2 | (with_reducible refine Kd.C_alloc ?_ _) | (with_reducible refine Kd.C_drewN ?_ _) | (with_reducible refine Kd.C_drew ?_))); (case side2 => exact (Kd.R_reads' HO111.out).2.1); rintro e w47 ⟨v114, rfl, ho0, hb⟩; refine ⟨_, rfl, ?_⟩; have n0_ := zam (Kd.R_elder' (by (with_reducible repeat (first | apply zRa | apply zRn | apply zRd)); exact HO111.out) (Kd.R_base ho0) hb); have n1_ := zam (Kd.R_lower (Kd.R_newB (Kd.R_newB (Kd.R_new' ho0 (Kd.R_lt (by (with_reducible repeat (first | apply zRa | apply zRn | apply zRd)); exact HO111.out))) (g := gb104) (o := .cells #[.int .i64 t101, .int .i64 t102] 32 (0, 0)) (by (with_reducible repeat (first | refine zkn ?_ _ | refine zkd ?_ | refine zka ?_ _)); exact BK104.out)) (g := gb108) (o := .cells #[.int .i64 t105, .int .i64 t106] 32 (0, 0)) (by (with_reducible repeat (first | refine zkn ?_ _ | refine zkd ?_ | refine zka ?_ _)); exact BK108.out)) (zbz (by repeat (first | (with_reducible first | exact HB.out | apply zba | apply zbn | apply zb1 | refine zbs ?_ GE104.out | refine zbs ?_ GE108.out) | exact HB.out)))); have n2_ := zam (zkb (g := gb104) (o := .cells #[.int .i64 t101, .int .i64 t102] 32 (0, 0)) (by (with_reducible repeat (first | refine zkn ?_ _ | refine zkd ?_ | refine zka ?_ _)); exact BK104.out) hb); have n3_ := zam (zkb (g := gb108) (o := .cells #[.int .i64 t105, .int .i64 t106] 32 (0, 0)) (by (with_reducible repeat (first | refine zkn ?_ _ | refine zkd ?_ | refine zka ?_ _)); exact BK108.out) hb); have n4_ := zam (zbt (by repeat (first | (with_reducible first | exact HB.out | apply zba | apply zbn | apply zb1 | refine zbs ?_ GE104.out | refine zbs ?_ GE108.out) | exact HB.out)) hb); clear HO111; clear BK104; clear BK108; clear HB; have HO111 := n0_; have HO115 := n1_; have BK104 := n2_; have BK108 := n3_; have HB := n4_; clear n0_ n1_ n2_ n3_ n4_; (try clear hb); (try clear hb2); (try clear hk); (try clear hi); (try clear ho0); have hcz48_0 : w47.cell? ⟨gb104, 0, none⟩ = some (.int .i64 t101) := (zkc BK104.out 0).trans rfl; have hcz48_1 : w47.cell? ⟨gb104, 1, none⟩ = some (.int .i64 t102) := (zkc BK104.out 1).trans rfl; have hfz48_0 := zkz BK104.out 0; have hfz48_1 := zkz BK104.out 1; have hcz49_0 : w47.cell? ⟨gb108, 0, none⟩ = some (.int .i64 t105) := (zkc BK108.out 0).trans rfl; have hcz49_1 : w47.cell? ⟨gb108, 1, none⟩ = some (.int .i64 t106) := (zkc BK108.out 1).trans rfl; have hfz49_0 := zkz BK108.out 0; have hfz49_1 := zkz BK108.out 1))
   go_ret
   exact ⟨by first | rfl | (simp [errW_none, errW_some] <;> rfl) | (simp [*, errW_none, errW_some] <;> rfl), by repeat (first | (with_reducible first | exact HB.out | apply zba | apply zbn | apply zb1 | refine zbs ?_ GE104.out | refine zbs ?_ GE108.out) | exact HB.out)⟩
  rw [if_neg c5] at H
  have c5b0 : (t101 == (-12) && (t102 == 20)) = false := by simpa using c5
  (try (have c5b1 : decide (t101 = (-12) && (t102 == 20)) = false := by simpa using c5))
  (try (have c5b2 : (t101 == (-12) && (t102 == 20)) = false := by simpa using c5))
  (try (have c5b3 : ¬ (t101 = (-12) && (t102 == 20)) := by simpa using c5))
  clear c5
  obtain rfl := zsi H
  go_enter Try.func18, Try.ntmps18
  go_wp2_with (first | ((with_reducible refine zgc (f := 28) rfl ?_); refine goesL_ (some 10) rfl rfl Try.func28 (by kernel_rfl) rfl #[.agg #[.int .i64 (-3), .int .i64 5], .agg #[.int .i64 2, .int .i64 4]] rfl (by (try simp only [zmt, List.map_cons, List.map_nil]); first | done | rfl | (simp only [zld, zlt]; rfl)) ?_; (with_reducible refine (bound_Mul.calls k (-3) 5 2 4 t101 t102 t103 _ A1.out).mono ?_); rintro e w50 ⟨rfl, hb⟩; refine ⟨_, rfl, ?_⟩; have n0_ := zam (zbt (by repeat (first | (with_reducible first | exact HB.out | apply zba | apply zbn | apply zb1) | exact HB.out)) hb); clear HB; have HB := n0_; clear n0_; (try clear hb); (try clear hb2); (try clear hk); (try clear hi)) | ((with_reducible refine zgd (N := 1) rfl ?_); (try (refine gate_guard (by rfl) ?_; dsimp only)); refine box_event ?hg (N := 1) ?hd (cs := #[.int .i64 0, .int .i64 0]) (t := 32) ?hr ?_; (case hd => rfl); (case hg => rfl); (case hr => first | (go_simp; done) | (go_simp; rfl)); intro gb104 hg w51 hbox hb; have n0_ := zam (zbt (by repeat (first | (with_reducible first | exact HB.out | apply zba | apply zbn | apply zb1) | exact HB.out)) hb); have n1_ := zam (hbox); have n2_ := zam ((by rw [hg]; exact (zbz (by repeat (first | (with_reducible first | exact HB.out | apply zba | apply zbn | apply zb1) | exact HB.out))) : w.heap.size ≤ gb104)); have n3_ := zam ((by rw [hg]; exact (zbz (by repeat (first | (with_reducible first | exact HB.out | apply zba | apply zbn | apply zb1) | exact HB.out))) : w.heap.size ≤ gb104)); clear HB; have HB := n0_; have BK104 := n1_; have GW104 := n2_; have GE104 := n3_; clear n0_ n1_ n2_ n3_; clear hb hbox hg; have hcz52_0 : w51.cell? ⟨gb104, 0, none⟩ = some (.int .i64 0) := (zkc BK104.out 0).trans rfl; have hcz52_1 : w51.cell? ⟨gb104, 1, none⟩ = some (.int .i64 0) := (zkc BK104.out 1).trans rfl; have hfz52_0 := zkz BK104.out 0; have hfz52_1 := zkz BK104.out 1) | ((with_reducible refine zgc (f := 61) rfl ?_); refine goesL_ (some 16) rfl rfl Try.func61 (by kernel_rfl) rfl #[.agg #[.int .i64 7, .int .i64 9], .agg #[.int .i64 (-4), .int .i64 (-2)]] rfl (by (try simp only [zmt, List.map_cons, List.map_nil]); first | done | rfl | (simp only [zld, zlt]; rfl)) ?_; (with_reducible refine (bound_Div.calls k 7 9 (-4) (-2) t105 t106 t107 _ A2.out).mono ?_); rintro e w53 ⟨rfl, hb⟩; refine ⟨_, rfl, ?_⟩; have n0_ := zam (zkb (g := gb104) (o := .cells #[.int .i64 t101, .int .i64 t102] 32 (0, 0)) (by (with_reducible repeat (first | refine zkn ?_ _ | refine zkd ?_ | refine zka ?_ _)); refine blk_put (cs := #[.int .i64 t101, .int .i64 0]) ?_ 1 _ rfl; (with_reducible repeat (first | refine zkn ?_ _ | refine zkd ?_ | refine zka ?_ _)); refine blk_put (cs := #[.int .i64 0, .int .i64 0]) ?_ 0 _ rfl; (with_reducible repeat (first | refine zkn ?_ _ | refine zkd ?_ | refine zka ?_ _)); exact BK104.out) hb); have n1_ := zam (zbt (by repeat (first | (with_reducible first | exact HB.out | apply zba | apply zbn | apply zb1 | refine zbs ?_ GE104.out) | exact HB.out)) hb); clear BK104; clear HB; have BK104 := n0_; have HB := n1_; clear n0_ n1_; (try clear hb); (try clear hb2); (try clear hk); (try clear hi)) | ((with_reducible refine zgd (N := 3) rfl ?_); (try (refine gate_guard (by rfl) ?_; dsimp only)); refine box_event ?hg (N := 3) ?hd (cs := #[.int .i64 0, .int .i64 0]) (t := 32) ?hr ?_; (case hd => rfl); (case hg => rfl); (case hr => first | (go_simp; done) | (go_simp; rfl)); intro gb108 hg w54 hbox hb; have n0_ := zam (zkb (g := gb104) (o := .cells #[.int .i64 t101, .int .i64 t102] 32 (0, 0)) (by (with_reducible repeat (first | refine zkn ?_ _ | refine zkd ?_ | refine zka ?_ _)); exact BK104.out) hb); have n1_ := zam (zbt (by repeat (first | (with_reducible first | exact HB.out | apply zba | apply zbn | apply zb1 | refine zbs ?_ GE104.out) | exact HB.out)) hb); have n2_ := zam (hbox); have n3_ := zam ((by rw [hg]; exact (zbz (by repeat (first | (with_reducible first | exact HB.out | apply zba | apply zbn | apply zb1 | refine zbs ?_ GE104.out) | exact HB.out))) : w.heap.size ≤ gb108)); have n4_ := zam ((by rw [hg]; exact (zbz (by repeat (first | (with_reducible first | exact HB.out | apply zba | apply zbn | apply zb1 | refine zbs ?_ GE104.out) | exact HB.out))) : w.heap.size ≤ gb108)); have n5_ := zam ((by rw [hg]; exact Nat.ne_of_lt (blk_lt (g := gb104) (o := .cells #[.int .i64 t101, .int .i64 t102] 32 (0, 0)) (by (with_reducible repeat (first | refine zkn ?_ _ | refine zkd ?_ | refine zka ?_ _)); exact BK104.out)) : gb104 ≠ gb108)); have n6_ := zam ((by rw [hg]; exact Nat.ne_of_gt (blk_lt (g := gb104) (o := .cells #[.int .i64 t101, .int .i64 t102] 32 (0, 0)) (by (with_reducible repeat (first | refine zkn ?_ _ | refine zkd ?_ | refine zka ?_ _)); exact BK104.out)) : gb108 ≠ gb104)); clear BK104; clear HB; have BK104 := n0_; have HB := n1_; have BK108 := n2_; have GW108 := n3_; have GE108 := n4_; have NB104_108 := n5_; have NB108_104 := n6_; clear n0_ n1_ n2_ n3_ n4_ n5_ n6_; clear hb hbox hg; have hnb55 := NB108_104.out; have hnc55 := NB104_108.out; have hcz56_0 : w54.cell? ⟨gb108, 0, none⟩ = some (.int .i64 0) := (zkc BK108.out 0).trans rfl; have hcz56_1 : w54.cell? ⟨gb108, 1, none⟩ = some (.int .i64 0) := (zkc BK108.out 1).trans rfl; have hfz56_0 := zkz BK108.out 0; have hfz56_1 := zkz BK108.out 1) | ((with_reducible refine zgd (N := 23) rfl ?_); (try (refine gate_guard (by rfl) ?_; dsimp only)); refine Kd.R_lit k32 _ 32 ?hg (N := 23) ?hd (xs := ([(⟨5, 6⟩ : S32), (⟨1, 2⟩ : S32), (⟨3, 3⟩ : S32)] : List (S32))) (inner := [.int .i64 5, .int .i64 6, .int .i64 1, .int .i64 2, .int .i64 3, .int .i64 3]) (ok := fun _ => True) (okp := fun _ => True) ?hr ?hp (fun _ hk => hk) trivial (Below.refl _ _) (Nat.le_refl _) (by simp) ?_; (case hd => rfl); (case hg => rfl); (case hr => first | (go_simp; done) | (go_simp; rfl)); (case hp => exact (Reps.c2 (show Kd.M k32 _ _ _ (⟨5, 6⟩ : S32) [.int .i64 5, .int .i64 6] from (k32_mkM _ _ _ (⟨5, 6⟩ : S32) )) (Reps.c2 (show Kd.M k32 _ _ _ (⟨1, 2⟩ : S32) [.int .i64 1, .int .i64 2] from (k32_mkM _ _ _ (⟨1, 2⟩ : S32) )) (Reps.c2 (show Kd.M k32 _ _ _ (⟨3, 3⟩ : S32) [.int .i64 3, .int .i64 3] from (k32_mkM _ _ _ (⟨3, 3⟩ : S32) )) (Reps.none _ _))))); intro v110 w57 ho58 hb hg_ hnew_; clear hg_ hnew_; (first | rw [← Ny109.out] at ho58 | (simp only [Int.reduceToNat] at ho58; rw [← Ny109.out] at ho58)); have n0_ := zam (Kd.R_lower (Kd.R_newB (Kd.R_newB ho58 (g := gb104) (o := .cells #[.int .i64 t101, .int .i64 t102] 32 (0, 0)) (by (with_reducible repeat (first | refine zkn ?_ _ | refine zkd ?_ | refine zka ?_ _)); refine blk_far ?_ NB104_108.out _; (with_reducible repeat (first | refine zkn ?_ _ | refine zkd ?_ | refine zka ?_ _)); refine blk_far ?_ NB104_108.out _; (with_reducible repeat (first | refine zkn ?_ _ | refine zkd ?_ | refine zka ?_ _)); exact BK104.out)) (g := gb108) (o := .cells #[.int .i64 t105, .int .i64 t106] 32 (0, 0)) (by (with_reducible repeat (first | refine zkn ?_ _ | refine zkd ?_ | refine zka ?_ _)); refine blk_put (cs := #[.int .i64 t105, .int .i64 0]) ?_ 1 _ rfl; (with_reducible repeat (first | refine zkn ?_ _ | refine zkd ?_ | refine zka ?_ _)); refine blk_put (cs := #[.int .i64 0, .int .i64 0]) ?_ 0 _ rfl; (with_reducible repeat (first | refine zkn ?_ _ | refine zkd ?_ | refine zka ?_ _)); exact BK108.out)) (zbz (by repeat (first | (with_reducible first | exact HB.out | apply zba | apply zbn | apply zb1 | refine zbs ?_ GE104.out | refine zbs ?_ GE108.out) | exact HB.out)))); have n1_ := zam (zkb (g := gb104) (o := .cells #[.int .i64 t101, .int .i64 t102] 32 (0, 0)) (by (with_reducible repeat (first | refine zkn ?_ _ | refine zkd ?_ | refine zka ?_ _)); refine blk_far ?_ NB104_108.out _; (with_reducible repeat (first | refine zkn ?_ _ | refine zkd ?_ | refine zka ?_ _)); refine blk_far ?_ NB104_108.out _; (with_reducible repeat (first | refine zkn ?_ _ | refine zkd ?_ | refine zka ?_ _)); exact BK104.out) hb); have n2_ := zam (zkb (g := gb108) (o := .cells #[.int .i64 t105, .int .i64 t106] 32 (0, 0)) (by (with_reducible repeat (first | refine zkn ?_ _ | refine zkd ?_ | refine zka ?_ _)); refine blk_put (cs := #[.int .i64 t105, .int .i64 0]) ?_ 1 _ rfl; (with_reducible repeat (first | refine zkn ?_ _ | refine zkd ?_ | refine zka ?_ _)); refine blk_put (cs := #[.int .i64 0, .int .i64 0]) ?_ 0 _ rfl; (with_reducible repeat (first | refine zkn ?_ _ | refine zkd ?_ | refine zka ?_ _)); exact BK108.out) hb); have n3_ := zam (zbt (by repeat (first | (with_reducible first | exact HB.out | apply zba | apply zbn | apply zb1 | refine zbs ?_ GE104.out | refine zbs ?_ GE108.out) | exact HB.out)) hb); clear BK104; clear BK108; clear HB; have HO111 := n0_; have BK104 := n1_; have BK108 := n2_; have HB := n3_; clear n0_ n1_ n2_ n3_; clear hb ho58; obtain ⟨Ao59, co59, eo59⟩ := Kd.R_slice HO111.out; subst eo59) | ((with_reducible refine zgc (f := 46) rfl ?_); refine goesL_ (some 24) rfl rfl Try.func46 (by kernel_rfl) rfl #[.slice Ao59 y109.length co59] rfl (by (try simp only [zmt, List.map_cons, List.map_nil]); first | done | rfl | (simp only [zld, zlt]; rfl)) ?_; (with_reducible refine (bound_Cover.calls k _ _ y109 t112 t113 _ ?side1 ?side2 A3.out).mono ?_); (case side1 => repeat (first | exact (Kd.R_reads' HO111.out).2.2 | (with_reducible refine Kd.C_alloc ?_ _) | (with_reducible refine Kd.C_drewN ?_ _) | (with_reducible refine Kd.C_drew ?_))); (case side2 => exact (Kd.R_reads' HO111.out).2.1); rintro e w60 ⟨v114, rfl, ho0, hb⟩; refine ⟨_, rfl, ?_⟩; have n0_ := zam (Kd.R_elder' (by (with_reducible repeat (first | apply zRa | apply zRn | apply zRd)); exact HO111.out) (Kd.R_base ho0) hb); have n1_ := zam (Kd.R_lower (Kd.R_newB (Kd.R_newB (Kd.R_new' ho0 (Kd.R_lt (by (with_reducible repeat (first | apply zRa | apply zRn | apply zRd)); exact HO111.out))) (g := gb104) (o := .cells #[.int .i64 t101, .int .i64 t102] 32 (0, 0)) (by (with_reducible repeat (first | refine zkn ?_ _ | refine zkd ?_ | refine zka ?_ _)); exact BK104.out)) (g := gb108) (o := .cells #[.int .i64 t105, .int .i64 t106] 32 (0, 0)) (by (with_reducible repeat (first | refine zkn ?_ _ | refine zkd ?_ | refine zka ?_ _)); exact BK108.out)) (zbz (by repeat (first | (with_reducible first | exact HB.out | apply zba | apply zbn | apply zb1 | refine zbs ?_ GE104.out | refine zbs ?_ GE108.out) | exact HB.out)))); have n2_ := zam (zkb (g := gb104) (o := .cells #[.int .i64 t101, .int .i64 t102] 32 (0, 0)) (by (with_reducible repeat (first | refine zkn ?_ _ | refine zkd ?_ | refine zka ?_ _)); exact BK104.out) hb); have n3_ := zam (zkb (g := gb108) (o := .cells #[.int .i64 t105, .int .i64 t106] 32 (0, 0)) (by (with_reducible repeat (first | refine zkn ?_ _ | refine zkd ?_ | refine zka ?_ _)); exact BK108.out) hb); have n4_ := zam (zbt (by repeat (first | (with_reducible first | exact HB.out | apply zba | apply zbn | apply zb1 | refine zbs ?_ GE104.out | refine zbs ?_ GE108.out) | exact HB.out)) hb); clear HO111; clear BK104; clear BK108; clear HB; have HO111 := n0_; have HO115 := n1_; have BK104 := n2_; have BK108 := n3_; have HB := n4_; clear n0_ n1_ n2_ n3_ n4_; (try clear hb); (try clear hb2); (try clear hk); (try clear hi); (try clear ho0); have hcz61_0 : w60.cell? ⟨gb104, 0, none⟩ = some (.int .i64 t101) := (zkc BK104.out 0).trans rfl; have hcz61_1 : w60.cell? ⟨gb104, 1, none⟩ = some (.int .i64 t102) := (zkc BK104.out 1).trans rfl; have hfz61_0 := zkz BK104.out 0; have hfz61_1 := zkz BK104.out 1))
  go_ret
  exact ⟨by first | rfl | (simp [errW_none, errW_some] <;> rfl) | (simp [*, errW_none, errW_some] <;> rfl), by repeat (first | (with_reducible first | exact HB.out | apply zba | apply zbn | apply zb1 | refine zbs ?_ GE104.out | refine zbs ?_ GE108.out) | exact HB.out)⟩
 rw [if_neg c4] at H
 have c4b0 : ((wrap64 ((wrap64 (t103 + t107)) + t113)) == 0) = false := beq_eq_false_iff_ne.mpr c4
 have c4b1 : ((wrap64 ((wrap64 (t103 + t107)) + t113)) != 0) = true := bne_iff_ne.mpr c4
 obtain rfl := zsi H
 go_enter Try.func18, Try.ntmps18
 go_wp2_with (first | ((with_reducible refine zgc (f := 28) rfl ?_); refine goesL_ (some 10) rfl rfl Try.func28 (by kernel_rfl) rfl #[.agg #[.int .i64 (-3), .int .i64 5], .agg #[.int .i64 2, .int .i64 4]] rfl (by (try simp only [zmt, List.map_cons, List.map_nil]); first | done | rfl | (simp only [zld, zlt]; rfl)) ?_; (with_reducible refine (bound_Mul.calls k (-3) 5 2 4 t101 t102 t103 _ A1.out).mono ?_); rintro e w62 ⟨rfl, hb⟩; refine ⟨_, rfl, ?_⟩; have n0_ := zam (zbt (by repeat (first | (with_reducible first | exact HB.out | apply zba | apply zbn | apply zb1) | exact HB.out)) hb); clear HB; have HB := n0_; clear n0_; (try clear hb); (try clear hb2); (try clear hk); (try clear hi)) | ((with_reducible refine zgd (N := 1) rfl ?_); (try (refine gate_guard (by rfl) ?_; dsimp only)); refine box_event ?hg (N := 1) ?hd (cs := #[.int .i64 0, .int .i64 0]) (t := 32) ?hr ?_; (case hd => rfl); (case hg => rfl); (case hr => first | (go_simp; done) | (go_simp; rfl)); intro gb104 hg w63 hbox hb; have n0_ := zam (zbt (by repeat (first | (with_reducible first | exact HB.out | apply zba | apply zbn | apply zb1) | exact HB.out)) hb); have n1_ := zam (hbox); have n2_ := zam ((by rw [hg]; exact (zbz (by repeat (first | (with_reducible first | exact HB.out | apply zba | apply zbn | apply zb1) | exact HB.out))) : w.heap.size ≤ gb104)); have n3_ := zam ((by rw [hg]; exact (zbz (by repeat (first | (with_reducible first | exact HB.out | apply zba | apply zbn | apply zb1) | exact HB.out))) : w.heap.size ≤ gb104)); clear HB; have HB := n0_; have BK104 := n1_; have GW104 := n2_; have GE104 := n3_; clear n0_ n1_ n2_ n3_; clear hb hbox hg; have hcz64_0 : w63.cell? ⟨gb104, 0, none⟩ = some (.int .i64 0) := (zkc BK104.out 0).trans rfl; have hcz64_1 : w63.cell? ⟨gb104, 1, none⟩ = some (.int .i64 0) := (zkc BK104.out 1).trans rfl; have hfz64_0 := zkz BK104.out 0; have hfz64_1 := zkz BK104.out 1) | ((with_reducible refine zgc (f := 61) rfl ?_); refine goesL_ (some 16) rfl rfl Try.func61 (by kernel_rfl) rfl #[.agg #[.int .i64 7, .int .i64 9], .agg #[.int .i64 (-4), .int .i64 (-2)]] rfl (by (try simp only [zmt, List.map_cons, List.map_nil]); first | done | rfl | (simp only [zld, zlt]; rfl)) ?_; (with_reducible refine (bound_Div.calls k 7 9 (-4) (-2) t105 t106 t107 _ A2.out).mono ?_); rintro e w65 ⟨rfl, hb⟩; refine ⟨_, rfl, ?_⟩; have n0_ := zam (zkb (g := gb104) (o := .cells #[.int .i64 t101, .int .i64 t102] 32 (0, 0)) (by (with_reducible repeat (first | refine zkn ?_ _ | refine zkd ?_ | refine zka ?_ _)); refine blk_put (cs := #[.int .i64 t101, .int .i64 0]) ?_ 1 _ rfl; (with_reducible repeat (first | refine zkn ?_ _ | refine zkd ?_ | refine zka ?_ _)); refine blk_put (cs := #[.int .i64 0, .int .i64 0]) ?_ 0 _ rfl; (with_reducible repeat (first | refine zkn ?_ _ | refine zkd ?_ | refine zka ?_ _)); exact BK104.out) hb); have n1_ := zam (zbt (by repeat (first | (with_reducible first | exact HB.out | apply zba | apply zbn | apply zb1 | refine zbs ?_ GE104.out) | exact HB.out)) hb); clear BK104; clear HB; have BK104 := n0_; have HB := n1_; clear n0_ n1_; (try clear hb); (try clear hb2); (try clear hk); (try clear hi)) | ((with_reducible refine zgd (N := 3) rfl ?_); (try (refine gate_guard (by rfl) ?_; dsimp only)); refine box_event ?hg (N := 3) ?hd (cs := #[.int .i64 0, .int .i64 0]) (t := 32) ?hr ?_; (case hd => rfl); (case hg => rfl); (case hr => first | (go_simp; done) | (go_simp; rfl)); intro gb108 hg w66 hbox hb; have n0_ := zam (zkb (g := gb104) (o := .cells #[.int .i64 t101, .int .i64 t102] 32 (0, 0)) (by (with_reducible repeat (first | refine zkn ?_ _ | refine zkd ?_ | refine zka ?_ _)); exact BK104.out) hb); have n1_ := zam (zbt (by repeat (first | (with_reducible first | exact HB.out | apply zba | apply zbn | apply zb1 | refine zbs ?_ GE104.out) | exact HB.out)) hb); have n2_ := zam (hbox); have n3_ := zam ((by rw [hg]; exact (zbz (by repeat (first | (with_reducible first | exact HB.out | apply zba | apply zbn | apply zb1 | refine zbs ?_ GE104.out) | exact HB.out))) : w.heap.size ≤ gb108)); have n4_ := zam ((by rw [hg]; exact (zbz (by repeat (first | (with_reducible first | exact HB.out | apply zba | apply zbn | apply zb1 | refine zbs ?_ GE104.out) | exact HB.out))) : w.heap.size ≤ gb108)); have n5_ := zam ((by rw [hg]; exact Nat.ne_of_lt (blk_lt (g := gb104) (o := .cells #[.int .i64 t101, .int .i64 t102] 32 (0, 0)) (by (with_reducible repeat (first | refine zkn ?_ _ | refine zkd ?_ | refine zka ?_ _)); exact BK104.out)) : gb104 ≠ gb108)); have n6_ := zam ((by rw [hg]; exact Nat.ne_of_gt (blk_lt (g := gb104) (o := .cells #[.int .i64 t101, .int .i64 t102] 32 (0, 0)) (by (with_reducible repeat (first | refine zkn ?_ _ | refine zkd ?_ | refine zka ?_ _)); exact BK104.out)) : gb108 ≠ gb104)); clear BK104; clear HB; have BK104 := n0_; have HB := n1_; have BK108 := n2_; have GW108 := n3_; have GE108 := n4_; have NB104_108 := n5_; have NB108_104 := n6_; clear n0_ n1_ n2_ n3_ n4_ n5_ n6_; clear hb hbox hg; have hnb67 := NB108_104.out; have hnc67 := NB104_108.out; have hcz68_0 : w66.cell? ⟨gb108, 0, none⟩ = some (.int .i64 0) := (zkc BK108.out 0).trans rfl; have hcz68_1 : w66.cell? ⟨gb108, 1, none⟩ = some (.int .i64 0) := (zkc BK108.out 1).trans rfl; have hfz68_0 := zkz BK108.out 0; have hfz68_1 := zkz BK108.out 1) | ((with_reducible refine zgd (N := 23) rfl ?_); (try (refine gate_guard (by rfl) ?_; dsimp only)); refine Kd.R_lit k32 _ 32 ?hg (N := 23) ?hd (xs := ([(⟨5, 6⟩ : S32), (⟨1, 2⟩ : S32), (⟨3, 3⟩ : S32)] : List (S32))) (inner := [.int .i64 5, .int .i64 6, .int .i64 1, .int .i64 2, .int .i64 3, .int .i64 3]) (ok := fun _ => True) (okp := fun _ => True) ?hr ?hp (fun _ hk => hk) trivial (Below.refl _ _) (Nat.le_refl _) (by simp) ?_; (case hd => rfl); (case hg => rfl); (case hr => first | (go_simp; done) | (go_simp; rfl)); (case hp => exact (Reps.c2 (show Kd.M k32 _ _ _ (⟨5, 6⟩ : S32) [.int .i64 5, .int .i64 6] from (k32_mkM _ _ _ (⟨5, 6⟩ : S32) )) (Reps.c2 (show Kd.M k32 _ _ _ (⟨1, 2⟩ : S32) [.int .i64 1, .int .i64 2] from (k32_mkM _ _ _ (⟨1, 2⟩ : S32) )) (Reps.c2 (show Kd.M k32 _ _ _ (⟨3, 3⟩ : S32) [.int .i64 3, .int .i64 3] from (k32_mkM _ _ _ (⟨3, 3⟩ : S32) )) (Reps.none _ _))))); intro v110 w69 ho70 hb hg_ hnew_; clear hg_ hnew_; (first | rw [← Ny109.out] at ho70 | (simp only [Int.reduceToNat] at ho70; rw [← Ny109.out] at ho70)); have n0_ := zam (Kd.R_lower (Kd.R_newB (Kd.R_newB ho70 (g := gb104) (o := .cells #[.int .i64 t101, .int .i64 t102] 32 (0, 0)) (by (with_reducible repeat (first | refine zkn ?_ _ | refine zkd ?_ | refine zka ?_ _)); refine blk_far ?_ NB104_108.out _; (with_reducible repeat (first | refine zkn ?_ _ | refine zkd ?_ | refine zka ?_ _)); refine blk_far ?_ NB104_108.out _; (with_reducible repeat (first | refine zkn ?_ _ | refine zkd ?_ | refine zka ?_ _)); exact BK104.out)) (g := gb108) (o := .cells #[.int .i64 t105, .int .i64 t106] 32 (0, 0)) (by (with_reducible repeat (first | refine zkn ?_ _ | refine zkd ?_ | refine zka ?_ _)); refine blk_put (cs := #[.int .i64 t105, .int .i64 0]) ?_ 1 _ rfl; (with_reducible repeat (first | refine zkn ?_ _ | refine zkd ?_ | refine zka ?_ _)); refine blk_put (cs := #[.int .i64 0, .int .i64 0]) ?_ 0 _ rfl; (with_reducible repeat (first | refine zkn ?_ _ | refine zkd ?_ | refine zka ?_ _)); exact BK108.out)) (zbz (by repeat (first | (with_reducible first | exact HB.out | apply zba | apply zbn | apply zb1 | refine zbs ?_ GE104.out | refine zbs ?_ GE108.out) | exact HB.out)))); have n1_ := zam (zkb (g := gb104) (o := .cells #[.int .i64 t101, .int .i64 t102] 32 (0, 0)) (by (with_reducible repeat (first | refine zkn ?_ _ | refine zkd ?_ | refine zka ?_ _)); refine blk_far ?_ NB104_108.out _; (with_reducible repeat (first | refine zkn ?_ _ | refine zkd ?_ | refine zka ?_ _)); refine blk_far ?_ NB104_108.out _; (with_reducible repeat (first | refine zkn ?_ _ | refine zkd ?_ | refine zka ?_ _)); exact BK104.out) hb); have n2_ := zam (zkb (g := gb108) (o := .cells #[.int .i64 t105, .int .i64 t106] 32 (0, 0)) (by (with_reducible repeat (first | refine zkn ?_ _ | refine zkd ?_ | refine zka ?_ _)); refine blk_put (cs := #[.int .i64 t105, .int .i64 0]) ?_ 1 _ rfl; (with_reducible repeat (first | refine zkn ?_ _ | refine zkd ?_ | refine zka ?_ _)); refine blk_put (cs := #[.int .i64 0, .int .i64 0]) ?_ 0 _ rfl; (with_reducible repeat (first | refine zkn ?_ _ | refine zkd ?_ | refine zka ?_ _)); exact BK108.out) hb); have n3_ := zam (zbt (by repeat (first | (with_reducible first | exact HB.out | apply zba | apply zbn | apply zb1 | refine zbs ?_ GE104.out | refine zbs ?_ GE108.out) | exact HB.out)) hb); clear BK104; clear BK108; clear HB; have HO111 := n0_; have BK104 := n1_; have BK108 := n2_; have HB := n3_; clear n0_ n1_ n2_ n3_; clear hb ho70; obtain ⟨Ao71, co71, eo71⟩ := Kd.R_slice HO111.out; subst eo71) | ((with_reducible refine zgc (f := 46) rfl ?_); refine goesL_ (some 24) rfl rfl Try.func46 (by kernel_rfl) rfl #[.slice Ao71 y109.length co71] rfl (by (try simp only [zmt, List.map_cons, List.map_nil]); first | done | rfl | (simp only [zld, zlt]; rfl)) ?_; (with_reducible refine (bound_Cover.calls k _ _ y109 t112 t113 _ ?side1 ?side2 A3.out).mono ?_); (case side1 => repeat (first | exact (Kd.R_reads' HO111.out).2.2 | (with_reducible refine Kd.C_alloc ?_ _) | (with_reducible refine Kd.C_drewN ?_ _) | (with_reducible refine Kd.C_drew ?_))); (case side2 => exact (Kd.R_reads' HO111.out).2.1); rintro e w72 ⟨v114, rfl, ho0, hb⟩; refine ⟨_, rfl, ?_⟩; have n0_ := zam (Kd.R_elder' (by (with_reducible repeat (first | apply zRa | apply zRn | apply zRd)); exact HO111.out) (Kd.R_base ho0) hb); have n1_ := zam (Kd.R_lower (Kd.R_newB (Kd.R_newB (Kd.R_new' ho0 (Kd.R_lt (by (with_reducible repeat (first | apply zRa | apply zRn | apply zRd)); exact HO111.out))) (g := gb104) (o := .cells #[.int .i64 t101, .int .i64 t102] 32 (0, 0)) (by (with_reducible repeat (first | refine zkn ?_ _ | refine zkd ?_ | refine zka ?_ _)); exact BK104.out)) (g := gb108) (o := .cells #[.int .i64 t105, .int .i64 t106] 32 (0, 0)) (by (with_reducible repeat (first | refine zkn ?_ _ | refine zkd ?_ | refine zka ?_ _)); exact BK108.out)) (zbz (by repeat (first | (with_reducible first | exact HB.out | apply zba | apply zbn | apply zb1 | refine zbs ?_ GE104.out | refine zbs ?_ GE108.out) | exact HB.out)))); have n2_ := zam (zkb (g := gb104) (o := .cells #[.int .i64 t101, .int .i64 t102] 32 (0, 0)) (by (with_reducible repeat (first | refine zkn ?_ _ | refine zkd ?_ | refine zka ?_ _)); exact BK104.out) hb); have n3_ := zam (zkb (g := gb108) (o := .cells #[.int .i64 t105, .int .i64 t106] 32 (0, 0)) (by (with_reducible repeat (first | refine zkn ?_ _ | refine zkd ?_ | refine zka ?_ _)); exact BK108.out) hb); have n4_ := zam (zbt (by repeat (first | (with_reducible first | exact HB.out | apply zba | apply zbn | apply zb1 | refine zbs ?_ GE104.out | refine zbs ?_ GE108.out) | exact HB.out)) hb); clear HO111; clear BK104; clear BK108; clear HB; have HO111 := n0_; have HO115 := n1_; have BK104 := n2_; have BK108 := n3_; have HB := n4_; clear n0_ n1_ n2_ n3_ n4_; (try clear hb); (try clear hb2); (try clear hk); (try clear hi); (try clear ho0)))
 go_ret
 exact ⟨by first | rfl | (simp [errW_none, errW_some] <;> rfl) | (simp [*, errW_none, errW_some] <;> rfl), by repeat (first | (with_reducible first | exact HB.out | apply zba | apply zbn | apply zb1 | refine zbs ?_ GE104.out | refine zbs ?_ GE108.out) | exact HB.out)⟩
end Go.Proofs.Ytlkafgibgipodaa.P
namespace Go.Proofs.Ytlkafgibgipodaa.P
open Go.RowKit Go.Proofs.YtlkafgibgipodaaW.PrintWords Go.Proofs.YtlkafgibgipodaaW.PrintLast Go.Proofs.YtlkafgibgipodaaW.PrintMore
attribute [local go_sem] max2_int min2_int max_two min_two max_three min_three max_four min_four   -- for this text's walks alone
set_option linter.unusedVariables false
set_option linter.unusedSimpArgs false
structure Opens {α : Type} (P : Program) (t : TypeId) (d : Kd α) (B : α → Prop) : Prop where
 run : ∀ {H : Type} {enc : TypeId × Value → H} {W : World} {fuel : Nat} {cs : List Value} {x : DataW H × List MemPlace}, DataW.trod enc P W 0 (fun _ => true) true fuel t cs = some x → ∃ a : α, d.K W a cs ∧ B a
theorem Opens.int {P : Program} {t : TypeId} {k : IntKind} (ht : P.underlying t = some (.int k)) : Opens P t (Kd.int k) (fun n => (Lit.int k n).wf = true) :=
 ⟨fun h => by
  obtain ⟨n, rfl, _, hw⟩ := DataW.trod_int ht h
  exact ⟨n, rfl, hw⟩⟩
theorem Opens.bool {P : Program} {t : TypeId} (ht : P.underlying t = some .bool) : Opens P t Kd.bool (fun _ => True) :=
 ⟨fun h => by
  obtain ⟨n, rfl, _⟩ := DataW.trod_bool ht h
  exact ⟨n, rfl, trivial⟩⟩
theorem Opens.slice {α : Type} {P : Program} {t e : TypeId} {d : Kd α} {B : α → Prop} (ht : P.underlying t = some (.slice e)) (hc : P.cellsOf e = d.sz) (he : Opens P e d B) :
  Opens P t (Kd.slice e d) (fun xs => xs.length ≤ 9223372036854775807 ∧ ∀ x ∈ xs, B x) := by
 refine ⟨fun {H enc W fuel cs x} h => ?_⟩
 rcases Deep.open_slice ht h with ⟨rfl, _⟩ | ⟨a, len, cap, m, n, D, Pl, rfl, _, hl, hm, hmm, _, hx⟩
 ·exact ⟨[], ⟨none, 0, rfl, Nat.le_refl _, Kd.C_nil _ _⟩, by simp, by simp⟩
 have hm' : cap ≤ 9223372036854775807 := by unfold maxLen at hm; exact hm
 have hme : m = cap := by simpa using hmm
 have hel : ∀ i, i < len → ∃ y : α, (∃ cs', W.cells? 0 (a.add (i * P.cellsOf e)) (P.cellsOf e) = some cs' ∧ d.K W y cs') ∧ B y := by
  intro i hi
  obtain ⟨cs', h1, h2⟩ := hx i (by omega)
  obtain ⟨y, hy, hB⟩ := he.run h2
  exact ⟨y, ⟨cs', h1, hy⟩, hB⟩
 rcases Nat.eq_zero_or_pos len with h0 | h0
 ·subst h0
  exact ⟨[], ⟨some a, cap, rfl, Nat.zero_le _, rfl, Nat.zero_le _, fun hp => absurd hp (Nat.lt_irrefl 0)⟩, by simp, by simp⟩
 have : Inhabited α := ⟨Classical.choose (hel 0 h0)⟩
 obtain ⟨f, hf⟩ := Deep.choose_lt (p := fun i y => (∃ cs', W.cells? 0 (a.add (i * P.cellsOf e)) (P.cellsOf e) = some cs' ∧ d.K W y cs') ∧ B y) hel
 have hlen : ((List.range len).map f).length = len := by simp
 refine ⟨(List.range len).map f, ⟨some a, cap, by rw [hlen], by rw [hlen]; exact hl, hlen ▸ rfl, by rw [hlen]; omega, fun _ => ⟨a, rfl, ?_⟩⟩, by rw [hlen]; omega, ?_⟩
 ·intro j p hj
  have hjl : j < len := by
   have := (List.getElem?_eq_some_iff.1 hj).1
   rwa [hlen] at this
  have hp : p = f j := by
   rw [List.getElem?_map, List.getElem?_range hjl] at hj
   exact (zsi hj).symm
  subst hp
  obtain ⟨⟨cs', h1, h2⟩, _⟩ := hf j hjl
  obtain ⟨_, h3, h4⟩ := World.cells?_some h1
  rw [hc] at h3 h4
  refine ⟨cs', h3, h2, fun i u hu => ?_⟩
  have hi : i < d.sz := by
   have := (List.getElem?_eq_some_iff.1 hu).1
   omega
  rw [← Deep.add_add]
  exact (h4 i hi).trans hu
 intro y hy
 obtain ⟨i, hi, rfl⟩ := List.mem_map.1 hy
 exact (hf i (List.mem_range.1 hi)).2
structure OpensF {α : Type} (P : Program) (fs : List Field) (off tot : Nat) (d : Kd α) (B : α → Prop) : Prop where
 run : ∀ {H : Type} {enc : TypeId × Value → H} {W : World} {n : Nat} {cs : List Value}, cs.length = tot → (∀ (i : Nat) (f : Field), fs[i]? = some f → ∃ y, DataW.trod enc P W 0 (fun _ => true) true n f.type ((cs.drop f.offset).take (P.cellsOf f.type)) = some y) → ∃ a : α, d.K W a (cs.drop off) ∧ B a
theorem OpensF.last {α : Type} {P : Program} {f : Field} {off tot : Nat} {d : Kd α} {B : α → Prop} (ho : f.offset = off) (ht : off + P.cellsOf f.type = tot) (h : Opens P f.type d B) : OpensF P [f] off tot d B := by
 refine ⟨fun {H enc W n cs} hl hy => ?_⟩
 obtain ⟨y, hy⟩ := hy 0 f rfl
 obtain ⟨a, ha, hB⟩ := h.run hy
 rw [ho, List.take_of_length_le (by rw [zld]; omega)] at ha
 exact ⟨a, ha, hB⟩
theorem OpensF.cons {α β : Type} {P : Program} {f : Field} {fs : List Field} {off tot : Nat} {d1 : Kd α} {d2 : Kd β} {B1 : α → Prop} {B2 : β → Prop} (ho : f.offset = off) (hs : P.cellsOf f.type = d1.sz) (h : Opens P f.type d1 B1) (hr : OpensF P fs (off + d1.sz) tot d2 B2) :
  OpensF P (f :: fs) off tot (Kd.pair d1 d2) (fun x => B1 x.1 ∧ B2 x.2) := by
 refine ⟨fun {H enc W n cs} hl hy => ?_⟩
 obtain ⟨y, hy0⟩ := hy 0 f rfl
 obtain ⟨a, ha, hB⟩ := h.run hy0
 obtain ⟨b, hb, hB2⟩ := hr.run hl (fun i g hg => hy (i + 1) g hg)
 rw [ho, hs] at ha
 refine ⟨(a, b), ⟨(cs.drop off).take d1.sz, cs.drop (off + d1.sz), ?_, ha, hb⟩, hB, hB2⟩
 rw [← List.drop_drop, List.take_append_drop]
theorem Opens.struct {α β : Type} {P : Program} {t : TypeId} {fs : Array Field} {d : Kd α} {B : α → Prop} (ht : P.underlying t = some (.struct fs)) (f : β → α) (g : α → β) (hg : ∀ a, f (g a) = a) (hF : OpensF P fs.toList 0 (P.cellsOf t) d B) : Opens P t (Kd.iso d f) (fun x => B (f x)) := by
 refine ⟨fun {H enc W fuel cs x} h => ?_⟩
 obtain ⟨xs, n, _, _, hl, hlen, hf⟩ := DataW.trod_struct ht h
 obtain ⟨a, ha, hB⟩ := hF.run (n := n) hl (fun i fl hfl => by
  have hfl' : fs[i]? = some fl := by simpa using hfl
  have hi : i < fs.size := (Array.getElem?_eq_some_iff.1 hfl').1
  exact ⟨xs[i]'(by omega), (hf i fl hfl').trans (List.getElem?_eq_getElem (by omega))⟩)
 refine ⟨g a, ?_, ?_⟩
 ·show d.K W (f (g a)) cs
  rw [hg]
  simpa using ha
 show B (f (g a))
 rw [hg]
 exact hB
theorem cells_agg {v : Value} {l : List Value} (h : v.cells.toList = l) (hl : 2 ≤ l.length) : v = .agg l.toArray := by
 subst h
 cases v <;> simp [Value.cells] at hl ⊢
theorem Opens.array {α β : Type} {P : Program} {t n e : Nat} {fs : List Field} {d : Kd α} {B : α → Prop} (ht : P.underlying t = some (.array n e)) (hfs : ∀ (i : Nat) (f : Field), fs[i]? = some f → i < n ∧ f.type = e ∧ f.offset = i * P.cellsOf e) (f : β → α) (g : α → β) (hg : ∀ a, f (g a) = a) (hF : OpensF P fs 0 (P.cellsOf t) d B) : Opens P t (Kd.iso d f) (fun x => B (f x)) := by
 refine ⟨fun {H enc W fuel cs x} h => ?_⟩
 obtain ⟨xs, m, _, _, hl, hlen, hf⟩ := DataW.trod_array ht h
 obtain ⟨a, ha, hB⟩ := hF.run (n := m) hl (fun i fl hfl => by
  obtain ⟨h1, h2, h3⟩ := hfs i fl hfl
  rw [h2, h3]
  exact ⟨xs[i]'(by omega), (hf i h1).trans (List.getElem?_eq_getElem (by omega))⟩)
 refine ⟨g a, ?_, ?_⟩
 ·show d.K W (f (g a)) cs
  rw [hg]
  simpa using ha
 show B (f (g a))
 rw [hg]
 exact hB
end Go.Proofs.Ytlkafgibgipodaa.P
