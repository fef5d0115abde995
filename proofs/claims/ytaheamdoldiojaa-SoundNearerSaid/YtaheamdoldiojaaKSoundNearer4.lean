/- each box of a region lies in one of the region with a lesser depth; with narrower arrivals, and with another station, no box is in the region that was not in it. Part 5 of 7. -/
-- Put together by wip/tools/shake.py, a program of this work: out of the words that the kit's print tool (print.sh) writes for a claim and what wip/tools/xprint.py prints, those that this claim reaches, and this work's own texts.
import Derived.Test.YtaheamdoldiojaaKSoundNearer3
namespace Go.Proofs.Ytaheamdoldiojaa.P
open Go.RowKit Go.Proofs.YtaheamdoldiojaaW.PrintWords Go.Proofs.YtaheamdoldiojaaW.PrintLast Go.Proofs.YtaheamdoldiojaaW.PrintMore
attribute [local go_sem] max2_int min2_int max_two min_two max_three min_three max_four min_four   -- for this text's walks alone
set_option linter.unusedVariables false
set_option linter.unusedSimpArgs false
def isobathlaw07_within.l0 : Nat → List (S29) → Int → Int → Int → Int → Int → Option (Bool)
 | 0, _, _, _, _, _, _ => none
 | k + 1, x1, x5, x102000, x102001, x102002, x102003 => if x5 < (x1.length : Int) then (if 0 ≤ x5 then (if ((rd_T29 x1 x5).f0.f0) ≤ x102000 then (if x102001 ≤ ((rd_T29 x1 x5).f0.f1) then (if ((rd_T29 x1 x5).f1.f0) ≤ x102002 then (if x102003 ≤ ((rd_T29 x1 x5).f1.f1) then (some true) else (isobathlaw07_within.l0 k x1 (wrap64 (x5 + 1)) x102000 x102001 x102002 x102003)) else (isobathlaw07_within.l0 k x1 (wrap64 (x5 + 1)) x102000 x102001 x102002 x102003)) else (isobathlaw07_within.l0 k x1 (wrap64 (x5 + 1)) x102000 x102001 x102002 x102003)) else (isobathlaw07_within.l0 k x1 (wrap64 (x5 + 1)) x102000 x102001 x102002 x102003)) else (none)) else (some false)
def isobathlaw07_within.f (k : Nat) (a0_0 : Int) (a0_1 : Int) (a0_2 : Int) (a0_3 : Int) (l1 : List (S29)) : Option (Bool) := isobathlaw07_within.l0 k l1 0 a0_0 a0_1 a0_2 a0_3
set_option maxHeartbeats 8000000 in
set_option maxRecDepth 100000 in
theorem isobathlaw07_within.calls (k : Nat) (a0_0 : Int) (a0_1 : Int) (a0_2 : Int) (a0_3 : Int) (A1 : Option Addr) (c1 : Nat) (l1 : List (S29)) (r : Bool) (w : World) (hr1 : Kd.C k29 w A1 l1.length l1) (hc1 : l1.length ≤ c1) (h : isobathlaw07_within.f k a0_0 a0_1 a0_2 a0_3 l1 = some r) :
  Calls Try.prog 16 #[.agg #[.int .i64 a0_0, .int .i64 a0_1, .int .i64 a0_2, .int .i64 a0_3], .slice A1 l1.length c1] w fun e w' => e = .returned (.bool r) ∧ Below w.heap.size w w' := by
 have hu29 := Try.underlying29
 have HR1 := zam hr1
 have HC1 := zam hc1
 clear hr1 hc1
 have HB := zam (Below.refl w.heap.size w)
 have H : (isobathlaw07_within.l0 k l1 0 a0_0 a0_1 a0_2 a0_3) = some r := h
 clear h
 have H' := zam H
 clear H
 go_enter Try.func16, Try.ntmps16
 go_wp2_with (first | ((with_reducible refine zgd (N := 2) rfl ?_); refine box_event ?hg (N := 2) ?hd (cs := #[.int .i64 a0_0, .int .i64 a0_1, .int .i64 a0_2, .int .i64 a0_3]) (t := 29) ?hr ?_; (case hd => rfl); (case hg => rfl); (case hr => first | (go_simp; done) | (go_simp; rfl)); intro gb101 hg w3 hbox hb; have n0_ := zam (zbt zq1 hb); have n1_ := zam (hbox); have n2_ := zam ((by rw [hg]; exact (zbz zq1) : w.heap.size ≤ gb101)); have n3_ := zam ((by rw [hg]; exact (zbz zq1) : w.heap.size ≤ gb101)); clear HB; have HB := n0_; have BK101 := n1_; have GW101 := n2_; have GE101 := n3_; clear n0_ n1_ n2_ n3_; clear hb hbox hg))
 repeat (go_quiet (first | ((with_reducible refine zgd (N := 2) rfl ?_); refine box_event ?hg (N := 2) ?hd (cs := #[.int .i64 a0_0, .int .i64 a0_1, .int .i64 a0_2, .int .i64 a0_3]) (t := 29) ?hr ?_; (case hd => rfl); (case hg => rfl); (case hr => first | (go_simp; done) | (go_simp; rfl)); intro gb101 hg w3 hbox hb; have n0_ := zam (zbt zq1 hb); have n1_ := zam (hbox); have n2_ := zam ((by rw [hg]; exact (zbz zq1) : w.heap.size ≤ gb101)); have n3_ := zam ((by rw [hg]; exact (zbz zq1) : w.heap.size ≤ gb101)); clear HB; have HB := n0_; have BK101 := n1_; have GW101 := n2_; have GE101 := n3_; clear n0_ n1_ n2_ n3_; clear hb hbox hg)); try go_wp2_with (first | ((with_reducible refine zgd (N := 2) rfl ?_); refine box_event ?hg (N := 2) ?hd (cs := #[.int .i64 a0_0, .int .i64 a0_1, .int .i64 a0_2, .int .i64 a0_3]) (t := 29) ?hr ?_; (case hd => rfl); (case hg => rfl); (case hr => first | (go_simp; done) | (go_simp; rfl)); intro gb101 hg w3 hbox hb; have n0_ := zam (zbt zq1 hb); have n1_ := zam (hbox); have n2_ := zam ((by rw [hg]; exact (zbz zq1) : w.heap.size ≤ gb101)); have n3_ := zam ((by rw [hg]; exact (zbz zq1) : w.heap.size ≤ gb101)); clear HB; have HB := n0_; have BK101 := n1_; have GW101 := n2_; have GE101 := n3_; clear n0_ n1_ n2_ n3_; clear hb hbox hg)))
 go_loopg [5] k (fun kq v5 w' => ∃ (x5_1 : Int), v5 = .int .i64 x5_1 ∧ Aside0 (isobathlaw07_within.l0 kq l1 x5_1 a0_0 a0_1 a0_2 a0_3 = some r) ∧ Aside0 (kq ≤ k) ∧ Aside0 (w'.heap[gb101]? = some (.cells #[.int .i64 a0_0, .int .i64 a0_1, .int .i64 a0_2, .int .i64 a0_3] 29 (0, 0))) ∧ Aside0 (Below w.heap.size w w'))
 case atStart => exact ⟨(0), zq10, H', ⟨Nat.le_refl _⟩, ⟨by (with_reducible repeat (first | refine zkn ?_ _ | refine zkd ?_ | refine zka ?_ _)); exact BK101.out⟩, ⟨by repeat (first | (with_reducible first | exact HB.out | apply zba | apply zbn | apply zb1 | refine zbs ?_ GE101.out) | exact HB.out)⟩⟩
 case round =>
  clear H'
  try clear c1
  try clear p2
  obtain ⟨x5_1, rfl, HA, HK1, BK101, HB⟩ := hrel
  cases gk with
  | zero => exact absurd HA.out (by simp [isobathlaw07_within.l0])
  | succ k1 =>
   have H := HA.out
   clear HA
   simp only [isobathlaw07_within.l0] at H
   by_cases c4 : x5_1 < (l1.length : Int)
   ·rw [if_pos c4] at H
    have c4b0 : decide (x5_1 < (l1.length : Int)) = true := zdt c4
    clear c4
    by_cases c5 : 0 ≤ x5_1
    ·rw [if_pos c5] at H
     have c5b0 : decide (0 ≤ x5_1) = true := zdt c5
     clear c5
     by_cases c6 : ((rd_T29 l1 x5_1).f0.f0) ≤ a0_0
     ·rw [if_pos c6] at H
      have c6b0 : decide (((rd_T29 l1 x5_1).f0.f0) ≤ a0_0) = true := zdt c6
      clear c6
      by_cases c7 : a0_1 ≤ ((rd_T29 l1 x5_1).f0.f1)
      ·rw [if_pos c7] at H
       have c7b0 : decide (a0_1 ≤ ((rd_T29 l1 x5_1).f0.f1)) = true := zdt c7
       clear c7
       by_cases c8 : ((rd_T29 l1 x5_1).f1.f0) ≤ a0_2
       ·rw [if_pos c8] at H
        have c8b0 : decide (((rd_T29 l1 x5_1).f1.f0) ≤ a0_2) = true := zdt c8
        clear c8
        by_cases c9 : a0_3 ≤ ((rd_T29 l1 x5_1).f1.f1)
        ·rw [if_pos c9] at H
         have c9b0 : decide (a0_3 ≤ ((rd_T29 l1 x5_1).f1.f1)) = true := zdt c9
         clear c9
         obtain rfl := zsi H
         have p102 : 0 ≤ (x5_1 : Int) := zod zq9
         have q102 : x5_1 < (l1.length : Int) := zod zq9
         obtain ⟨ad102, e102, hx102_0, hx102_1, hx102_2, hx102_3⟩ := at_T29 HR1.out x5_1 p102 q102
         cases e102
         replace hx102_0 := (HB.out.cell (zwb w _ hx102_0)).trans hx102_0
         replace hx102_1 := (HB.out.cell (zwb w _ hx102_1)).trans hx102_1
         replace hx102_2 := (HB.out.cell (zwb w _ hx102_2)).trans hx102_2
         replace hx102_3 := (HB.out.cell (zwb w _ hx102_3)).trans hx102_3
         replace p102 := eq_true p102
         replace q102 := eq_true q102
         have hcz10_0 : wr.cell? ⟨gb101, 0, none⟩ = some (.int .i64 a0_0) := (zkc BK101.out 0).trans rfl
         have hcz10_1 : wr.cell? ⟨gb101, 1, none⟩ = some (.int .i64 a0_1) := (zkc BK101.out 1).trans rfl
         have hcz10_2 : wr.cell? ⟨gb101, 2, none⟩ = some (.int .i64 a0_2) := (zkc BK101.out 2).trans rfl
         have hcz10_3 : wr.cell? ⟨gb101, 3, none⟩ = some (.int .i64 a0_3) := (zkc BK101.out 3).trans rfl
         have hfz10_0 := zkz BK101.out 0
         have hfz10_1 := zkz BK101.out 1
         have hfz10_2 := zkz BK101.out 2
         have hfz10_3 := zkz BK101.out 3
         have p103 : 0 ≤ (x5_1 : Int) := zod zq9
         have q103 : x5_1 < (l1.length : Int) := zod zq9
         obtain ⟨ad103, e103, hx103_0, hx103_1, hx103_2, hx103_3⟩ := at_T29 HR1.out x5_1 p103 q103
         obtain rfl : ad102 = ad103 := (by injection e103)
         replace hx103_0 := (HB.out.cell (zwb w _ hx103_0)).trans hx103_0
         replace hx103_1 := (HB.out.cell (zwb w _ hx103_1)).trans hx103_1
         replace hx103_2 := (HB.out.cell (zwb w _ hx103_2)).trans hx103_2
         replace hx103_3 := (HB.out.cell (zwb w _ hx103_3)).trans hx103_3
         replace p103 := eq_true p103
         replace q103 := eq_true q103
         have p104 : 0 ≤ (x5_1 : Int) := zod zq9
         have q104 : x5_1 < (l1.length : Int) := zod zq9
         obtain ⟨ad104, e104, hx104_0, hx104_1, hx104_2, hx104_3⟩ := at_T29 HR1.out x5_1 p104 q104
         obtain rfl : ad102 = ad104 := (by injection e104)
         replace hx104_0 := (HB.out.cell (zwb w _ hx104_0)).trans hx104_0
         replace hx104_1 := (HB.out.cell (zwb w _ hx104_1)).trans hx104_1
         replace hx104_2 := (HB.out.cell (zwb w _ hx104_2)).trans hx104_2
         replace hx104_3 := (HB.out.cell (zwb w _ hx104_3)).trans hx104_3
         replace p104 := eq_true p104
         replace q104 := eq_true q104
         have p105 : 0 ≤ (x5_1 : Int) := zod zq9
         have q105 : x5_1 < (l1.length : Int) := zod zq9
         obtain ⟨ad105, e105, hx105_0, hx105_1, hx105_2, hx105_3⟩ := at_T29 HR1.out x5_1 p105 q105
         obtain rfl : ad102 = ad105 := (by injection e105)
         replace hx105_0 := (HB.out.cell (zwb w _ hx105_0)).trans hx105_0
         replace hx105_1 := (HB.out.cell (zwb w _ hx105_1)).trans hx105_1
         replace hx105_2 := (HB.out.cell (zwb w _ hx105_2)).trans hx105_2
         replace hx105_3 := (HB.out.cell (zwb w _ hx105_3)).trans hx105_3
         replace p105 := eq_true p105
         replace q105 := eq_true q105
         go_wp2
         repeat (go_quiet (fail); try go_wp2)
         go_ret
         exact ⟨by first | rfl | (simp [errW_none, errW_some] <;> rfl) | (simp [*, errW_none, errW_some] <;> rfl), by repeat (first | (with_reducible first | exact HB.out | apply zba | apply zbn | apply zb1 | refine zbs ?_ GE101.out) | exact HB.out)⟩
        rw [if_neg c9] at H
        have c9b0 : decide (a0_3 ≤ ((rd_T29 l1 x5_1).f1.f1)) = false := zdf c9
        clear c9
        have H' := zam H
        clear H
        have p102 : 0 ≤ (x5_1 : Int) := zod zq9
        have q102 : x5_1 < (l1.length : Int) := zod zq9
        obtain ⟨ad102, e102, hx102_0, hx102_1, hx102_2, hx102_3⟩ := at_T29 HR1.out x5_1 p102 q102
        cases e102
        replace hx102_0 := (HB.out.cell (zwb w _ hx102_0)).trans hx102_0
        replace hx102_1 := (HB.out.cell (zwb w _ hx102_1)).trans hx102_1
        replace hx102_2 := (HB.out.cell (zwb w _ hx102_2)).trans hx102_2
        replace hx102_3 := (HB.out.cell (zwb w _ hx102_3)).trans hx102_3
        replace p102 := eq_true p102
        replace q102 := eq_true q102
        have hcz11_0 : wr.cell? ⟨gb101, 0, none⟩ = some (.int .i64 a0_0) := (zkc BK101.out 0).trans rfl
        have hcz11_1 : wr.cell? ⟨gb101, 1, none⟩ = some (.int .i64 a0_1) := (zkc BK101.out 1).trans rfl
        have hcz11_2 : wr.cell? ⟨gb101, 2, none⟩ = some (.int .i64 a0_2) := (zkc BK101.out 2).trans rfl
        have hcz11_3 : wr.cell? ⟨gb101, 3, none⟩ = some (.int .i64 a0_3) := (zkc BK101.out 3).trans rfl
        have hfz11_0 := zkz BK101.out 0
        have hfz11_1 := zkz BK101.out 1
        have hfz11_2 := zkz BK101.out 2
        have hfz11_3 := zkz BK101.out 3
        have p103 : 0 ≤ (x5_1 : Int) := zod zq9
        have q103 : x5_1 < (l1.length : Int) := zod zq9
        obtain ⟨ad103, e103, hx103_0, hx103_1, hx103_2, hx103_3⟩ := at_T29 HR1.out x5_1 p103 q103
        obtain rfl : ad102 = ad103 := (by injection e103)
        replace hx103_0 := (HB.out.cell (zwb w _ hx103_0)).trans hx103_0
        replace hx103_1 := (HB.out.cell (zwb w _ hx103_1)).trans hx103_1
        replace hx103_2 := (HB.out.cell (zwb w _ hx103_2)).trans hx103_2
        replace hx103_3 := (HB.out.cell (zwb w _ hx103_3)).trans hx103_3
        replace p103 := eq_true p103
        replace q103 := eq_true q103
        have p104 : 0 ≤ (x5_1 : Int) := zod zq9
        have q104 : x5_1 < (l1.length : Int) := zod zq9
        obtain ⟨ad104, e104, hx104_0, hx104_1, hx104_2, hx104_3⟩ := at_T29 HR1.out x5_1 p104 q104
        obtain rfl : ad102 = ad104 := (by injection e104)
        replace hx104_0 := (HB.out.cell (zwb w _ hx104_0)).trans hx104_0
        replace hx104_1 := (HB.out.cell (zwb w _ hx104_1)).trans hx104_1
        replace hx104_2 := (HB.out.cell (zwb w _ hx104_2)).trans hx104_2
        replace hx104_3 := (HB.out.cell (zwb w _ hx104_3)).trans hx104_3
        replace p104 := eq_true p104
        replace q104 := eq_true q104
        have p105 : 0 ≤ (x5_1 : Int) := zod zq9
        have q105 : x5_1 < (l1.length : Int) := zod zq9
        obtain ⟨ad105, e105, hx105_0, hx105_1, hx105_2, hx105_3⟩ := at_T29 HR1.out x5_1 p105 q105
        obtain rfl : ad102 = ad105 := (by injection e105)
        replace hx105_0 := (HB.out.cell (zwb w _ hx105_0)).trans hx105_0
        replace hx105_1 := (HB.out.cell (zwb w _ hx105_1)).trans hx105_1
        replace hx105_2 := (HB.out.cell (zwb w _ hx105_2)).trans hx105_2
        replace hx105_3 := (HB.out.cell (zwb w _ hx105_3)).trans hx105_3
        replace p105 := eq_true p105
        replace q105 := eq_true q105
        go_wp2
        repeat (go_quiet (fail); try go_wp2)
        go_roundg k1
        case measure => have := HK1.out; omega
        case rel => exact ⟨(wrap64 (x5_1 + 1)), zq10, H', ⟨by have := HK1.out; omega⟩, ⟨by (with_reducible repeat (first | refine zkn ?_ _ | refine zkd ?_ | refine zka ?_ _)); exact BK101.out⟩, ⟨by repeat (first | (with_reducible first | exact HB.out | apply zba | apply zbn | apply zb1 | refine zbs ?_ GE101.out) | exact HB.out)⟩⟩
       rw [if_neg c8] at H
       have c8b0 : decide (((rd_T29 l1 x5_1).f1.f0) ≤ a0_2) = false := zdf c8
       clear c8
       have H' := zam H
       clear H
       have p102 : 0 ≤ (x5_1 : Int) := zod zq9
       have q102 : x5_1 < (l1.length : Int) := zod zq9
       obtain ⟨ad102, e102, hx102_0, hx102_1, hx102_2, hx102_3⟩ := at_T29 HR1.out x5_1 p102 q102
       cases e102
       replace hx102_0 := (HB.out.cell (zwb w _ hx102_0)).trans hx102_0
       replace hx102_1 := (HB.out.cell (zwb w _ hx102_1)).trans hx102_1
       replace hx102_2 := (HB.out.cell (zwb w _ hx102_2)).trans hx102_2
       replace hx102_3 := (HB.out.cell (zwb w _ hx102_3)).trans hx102_3
       replace p102 := eq_true p102
       replace q102 := eq_true q102
       have hcz12_0 : wr.cell? ⟨gb101, 0, none⟩ = some (.int .i64 a0_0) := (zkc BK101.out 0).trans rfl
       have hcz12_1 : wr.cell? ⟨gb101, 1, none⟩ = some (.int .i64 a0_1) := (zkc BK101.out 1).trans rfl
       have hcz12_2 : wr.cell? ⟨gb101, 2, none⟩ = some (.int .i64 a0_2) := (zkc BK101.out 2).trans rfl
       have hcz12_3 : wr.cell? ⟨gb101, 3, none⟩ = some (.int .i64 a0_3) := (zkc BK101.out 3).trans rfl
       have hfz12_0 := zkz BK101.out 0
       have hfz12_1 := zkz BK101.out 1
       have hfz12_2 := zkz BK101.out 2
       have hfz12_3 := zkz BK101.out 3
       have p103 : 0 ≤ (x5_1 : Int) := zod zq9
       have q103 : x5_1 < (l1.length : Int) := zod zq9
       obtain ⟨ad103, e103, hx103_0, hx103_1, hx103_2, hx103_3⟩ := at_T29 HR1.out x5_1 p103 q103
       obtain rfl : ad102 = ad103 := (by injection e103)
       replace hx103_0 := (HB.out.cell (zwb w _ hx103_0)).trans hx103_0
       replace hx103_1 := (HB.out.cell (zwb w _ hx103_1)).trans hx103_1
       replace hx103_2 := (HB.out.cell (zwb w _ hx103_2)).trans hx103_2
       replace hx103_3 := (HB.out.cell (zwb w _ hx103_3)).trans hx103_3
       replace p103 := eq_true p103
       replace q103 := eq_true q103
       have p104 : 0 ≤ (x5_1 : Int) := zod zq9
       have q104 : x5_1 < (l1.length : Int) := zod zq9
       obtain ⟨ad104, e104, hx104_0, hx104_1, hx104_2, hx104_3⟩ := at_T29 HR1.out x5_1 p104 q104
       obtain rfl : ad102 = ad104 := (by injection e104)
       replace hx104_0 := (HB.out.cell (zwb w _ hx104_0)).trans hx104_0
       replace hx104_1 := (HB.out.cell (zwb w _ hx104_1)).trans hx104_1
       replace hx104_2 := (HB.out.cell (zwb w _ hx104_2)).trans hx104_2
       replace hx104_3 := (HB.out.cell (zwb w _ hx104_3)).trans hx104_3
       replace p104 := eq_true p104
       replace q104 := eq_true q104
       go_wp2
       repeat (go_quiet (fail); try go_wp2)
       go_roundg k1
       case measure => have := HK1.out; omega
       case rel => exact ⟨(wrap64 (x5_1 + 1)), zq10, H', ⟨by have := HK1.out; omega⟩, ⟨by (with_reducible repeat (first | refine zkn ?_ _ | refine zkd ?_ | refine zka ?_ _)); exact BK101.out⟩, ⟨by repeat (first | (with_reducible first | exact HB.out | apply zba | apply zbn | apply zb1 | refine zbs ?_ GE101.out) | exact HB.out)⟩⟩
      rw [if_neg c7] at H
      have c7b0 : decide (a0_1 ≤ ((rd_T29 l1 x5_1).f0.f1)) = false := zdf c7
      clear c7
      have H' := zam H
      clear H
      have p102 : 0 ≤ (x5_1 : Int) := zod zq9
      have q102 : x5_1 < (l1.length : Int) := zod zq9
      obtain ⟨ad102, e102, hx102_0, hx102_1, hx102_2, hx102_3⟩ := at_T29 HR1.out x5_1 p102 q102
      cases e102
      replace hx102_0 := (HB.out.cell (zwb w _ hx102_0)).trans hx102_0
      replace hx102_1 := (HB.out.cell (zwb w _ hx102_1)).trans hx102_1
      replace hx102_2 := (HB.out.cell (zwb w _ hx102_2)).trans hx102_2
      replace hx102_3 := (HB.out.cell (zwb w _ hx102_3)).trans hx102_3
      replace p102 := eq_true p102
      replace q102 := eq_true q102
      have hcz13_0 : wr.cell? ⟨gb101, 0, none⟩ = some (.int .i64 a0_0) := (zkc BK101.out 0).trans rfl
      have hcz13_1 : wr.cell? ⟨gb101, 1, none⟩ = some (.int .i64 a0_1) := (zkc BK101.out 1).trans rfl
      have hcz13_2 : wr.cell? ⟨gb101, 2, none⟩ = some (.int .i64 a0_2) := (zkc BK101.out 2).trans rfl
      have hcz13_3 : wr.cell? ⟨gb101, 3, none⟩ = some (.int .i64 a0_3) := (zkc BK101.out 3).trans rfl
      have hfz13_0 := zkz BK101.out 0
      have hfz13_1 := zkz BK101.out 1
      have hfz13_2 := zkz BK101.out 2
      have hfz13_3 := zkz BK101.out 3
      have p103 : 0 ≤ (x5_1 : Int) := zod zq9
      have q103 : x5_1 < (l1.length : Int) := zod zq9
      obtain ⟨ad103, e103, hx103_0, hx103_1, hx103_2, hx103_3⟩ := at_T29 HR1.out x5_1 p103 q103
      obtain rfl : ad102 = ad103 := (by injection e103)
      replace hx103_0 := (HB.out.cell (zwb w _ hx103_0)).trans hx103_0
      replace hx103_1 := (HB.out.cell (zwb w _ hx103_1)).trans hx103_1
      replace hx103_2 := (HB.out.cell (zwb w _ hx103_2)).trans hx103_2
      replace hx103_3 := (HB.out.cell (zwb w _ hx103_3)).trans hx103_3
      replace p103 := eq_true p103
      replace q103 := eq_true q103
      go_wp2
      repeat (go_quiet (fail); try go_wp2)
      go_roundg k1
      case measure => have := HK1.out; omega
      case rel => exact ⟨(wrap64 (x5_1 + 1)), zq10, H', ⟨by have := HK1.out; omega⟩, ⟨by (with_reducible repeat (first | refine zkn ?_ _ | refine zkd ?_ | refine zka ?_ _)); exact BK101.out⟩, ⟨by repeat (first | (with_reducible first | exact HB.out | apply zba | apply zbn | apply zb1 | refine zbs ?_ GE101.out) | exact HB.out)⟩⟩
     rw [if_neg c6] at H
     have c6b0 : decide (((rd_T29 l1 x5_1).f0.f0) ≤ a0_0) = false := zdf c6
     clear c6
     have H' := zam H
     clear H
     have p102 : 0 ≤ (x5_1 : Int) := zod zq9
     have q102 : x5_1 < (l1.length : Int) := zod zq9
     obtain ⟨ad102, e102, hx102_0, hx102_1, hx102_2, hx102_3⟩ := at_T29 HR1.out x5_1 p102 q102
     cases e102
     replace hx102_0 := (HB.out.cell (zwb w _ hx102_0)).trans hx102_0
     replace hx102_1 := (HB.out.cell (zwb w _ hx102_1)).trans hx102_1
     replace hx102_2 := (HB.out.cell (zwb w _ hx102_2)).trans hx102_2
     replace hx102_3 := (HB.out.cell (zwb w _ hx102_3)).trans hx102_3
     replace p102 := eq_true p102
     replace q102 := eq_true q102
     have hcz14_0 : wr.cell? ⟨gb101, 0, none⟩ = some (.int .i64 a0_0) := (zkc BK101.out 0).trans rfl
     have hcz14_1 : wr.cell? ⟨gb101, 1, none⟩ = some (.int .i64 a0_1) := (zkc BK101.out 1).trans rfl
     have hcz14_2 : wr.cell? ⟨gb101, 2, none⟩ = some (.int .i64 a0_2) := (zkc BK101.out 2).trans rfl
     have hcz14_3 : wr.cell? ⟨gb101, 3, none⟩ = some (.int .i64 a0_3) := (zkc BK101.out 3).trans rfl
     have hfz14_0 := zkz BK101.out 0
     have hfz14_1 := zkz BK101.out 1
     have hfz14_2 := zkz BK101.out 2
     have hfz14_3 := zkz BK101.out 3
     go_wp2
     repeat (go_quiet (fail); try go_wp2)
     go_roundg k1
     case measure => have := HK1.out; omega
     case rel => exact ⟨(wrap64 (x5_1 + 1)), zq10, H', ⟨by have := HK1.out; omega⟩, ⟨by (with_reducible repeat (first | refine zkn ?_ _ | refine zkd ?_ | refine zka ?_ _)); exact BK101.out⟩, ⟨by repeat (first | (with_reducible first | exact HB.out | apply zba | apply zbn | apply zb1 | refine zbs ?_ GE101.out) | exact HB.out)⟩⟩
    rw [if_neg c5] at H
    exact absurd H (by simp)
   rw [if_neg c4] at H
   have c4b0 : decide (x5_1 < (l1.length : Int)) = false := zdf c4
   clear c4
   obtain rfl := zsi H
   go_wp2
   repeat (go_quiet (fail); try go_wp2)
   go_ret
   exact ⟨by first | rfl | (simp [errW_none, errW_some] <;> rfl) | (simp [*, errW_none, errW_some] <;> rfl), by repeat (first | (with_reducible first | exact HB.out | apply zba | apply zbn | apply zb1 | refine zbs ?_ GE101.out) | exact HB.out)⟩
end Go.Proofs.Ytaheamdoldiojaa.P
