/- the loudness of samples, the calls of a choice, and the count, are what the definitions say, or the error; Fewest and Most return the same error. Part 1 of 2. -/
-- Put together by wip/tools/shake.py, a program of this work: out of the words that the kit's print tool (print.sh) writes for a claim and what wip/tools/xprint.py prints, those that this claim reaches, and this work's own texts.
import Derived.Below
import Derived.Deep.Draws
import Derived.Deep.AppendLies
import Derived.Maps.AppendAt
import Derived.OwnWalk
import Derived.Laws.BytesArg
import Derived.Laws.MakeOwn
import Derived.Laws.OwnMore
import Derived.Deep.OwnRows
import Derived.Tactics
import Derived.Lib.ConvBytes
import Derived.Laws.Slices
import Derived.WalkKit
import Derived.KernelRfl
import Derived.RowKit3
import Derived.Deep.LoopGhost
import Derived.Deep.QuietTactic
import Derived.BigQuiet
import Derived.WideLaws
import Derived.Deep.DeepCutAuto
import Derived.Deep.CutBlock
import Derived.Deep.RegionHeld3
import Derived.Laws.Rows
import Derived.Lib.AppendStr
import Derived.ArgAppend
import Derived.Laws.IdiomCopy
import Derived.RowKit
import Derived.OrdersHeld
import Derived.Laws.BitsLemmas
import Derived.Laws.StructEq
import Derived.Test.YtaheamdoldiojaaProg
import Derived.Laws.CopyRow
import Derived.Laws.CopyOwn
import Derived.Outline
import Derived.StillTailTactics
import Derived.RegionTactic
import Derived.BigRegion
import Derived.Laws.EntriesVeiled
import Derived.Laws.Externs
import Derived.RangeFuncBox
import Derived.RangeFuncNested
import Derived.RangeFuncBound
import Derived.RangeFuncCalls
import Derived.RangeFuncLeaves
import Derived.Shelf.Abstract
import Derived.Shelf.RegionOpen
import Derived.OwnWalkIn
import Derived.TacticsInMore
import Derived.LoopNIn
import Derived.LoopIn
import Derived.Sort.QuietIn
import Derived.Sort.LoopGhostIn
import Derived.Test.YtaheamdoldiojaaKSnd4
set_option linter.unusedVariables false
set_option linter.unusedSimpArgs false
namespace Go.Proofs.YtaheamdoldiojaaW.PrintWords
open Go.RowKit
namespace Kd
section
variable {w W : World} {A : Option Addr} {n : Nat}
theorem at_bool {xs : List Bool} (h : Kd.bool.C w A n xs) (i : Int) (h0 : 0 ≤ i) (h1 : i < n) : ∃ ad, A = some ad ∧ w.cell? (ad.add i.toNat) = some (.bool (rdOf false xs i)) :=
 ReadsOf.at_ (reads_of_C (enc := Value.bool) (d := false) (h1 := fun _ => rfl) h) i h0 h1
variable {α : Type} {enc : α → Value} {h1 : ∀ x, (enc x).oneCell' = true} {e base g cap : Nat} {ok : Nat → Prop} {xs : List α}
end
end Kd
end Go.Proofs.YtaheamdoldiojaaW.PrintWords
namespace Go.Proofs.Ytaheamdoldiojaa.P
open Go.RowKit Go.Proofs.YtaheamdoldiojaaW.PrintWords Go.Proofs.YtaheamdoldiojaaW.PrintLast Go.Proofs.YtaheamdoldiojaaW.PrintMore
attribute [local go_sem] max2_int min2_int max_two min_two max_three min_three max_four min_four   -- for this text's walks alone
set_option linter.unusedVariables false
set_option linter.unusedSimpArgs false
theorem info3 : (Try.prog.info? 3).map (fun i => (i.zero, i.size, i.bytes)) = some (some (.int .i64 0), 1, 8) := by kernel_rfl
set_option maxHeartbeats 8000000 in
set_option maxRecDepth 100000 in
theorem isobathref01_Within.calls (a0 : Int) (a1 : Int) (a2 : Int) (r : Bool) (w : World) (h : isobathref01_Within.f a0 a1 a2 = some r) :
  Calls Try.prog 60 #[.int .i64 a0, .int .i64 a1, .int .i64 a2] w fun e w' => e = .returned (.bool r) ∧ Drawn0 w w' := by
 have H : (if a0 ≥ a1 then (some (decide (a0 ≤ a2))) else (some false)) = some r := h
 clear h
 by_cases c4 : a0 ≥ a1
 ·rw [if_pos c4] at H
  have c4b0 : decide (a1 ≤ a0) = true := zdt c4
  clear c4
  obtain rfl := zsi H
  go_enter Try.func60, Try.ntmps60
  go_wp2
  go_ret
  exact ⟨by first | rfl | (simp; done) | (simp [*]; done), by repeat (first | exact Drawn0.refl _ | apply Drawn0.step)⟩
 rw [if_neg c4] at H
 have c4b0 : decide (a1 ≤ a0) = false := zdf c4
 clear c4
 obtain rfl := zsi H
 go_enter Try.func60, Try.ntmps60
 go_wp2
 go_ret
 exact ⟨by first | rfl | (simp; done) | (simp [*]; done), by repeat (first | exact Drawn0.refl _ | apply Drawn0.step)⟩
set_option maxHeartbeats 8000000 in
set_option maxRecDepth 100000 in
theorem isobathref01_Valid.calls (a0_0 : Int) (a0_1 : Int) (r : Bool) (w : World) (h : isobathref01_Valid.f a0_0 a0_1 = some r) :
  Calls Try.prog 18 #[.agg #[.int .i64 a0_0, .int .i64 a0_1]] w fun e w' => e = .returned (.bool r) ∧ Below w.heap.size w w' := by
 have hu24 := Try.underlying24
 have HB := zam (Below.refl w.heap.size w)
 have H : (if a0_0 ≤ a0_1 then ((isobathref01_Within.f a0_0 (-1073741824) 1073741824).bind fun t102 => (if t102 = true then ((isobathref01_Within.f a0_1 (-1073741824) 1073741824).bind fun t103 => (some t103)) else (some false))) else (some false)) = some r := h
 clear h
 by_cases c2 : a0_0 ≤ a0_1
 ·rw [if_pos c2] at H
  have c2b0 : decide (a0_0 ≤ a0_1) = true := zdt c2
  clear c2
  replace H := Option.bind_eq_some_iff.mp H
  obtain ⟨t102, A30, H⟩ := H
  replace H : (if t102 = true then ((isobathref01_Within.f a0_1 (-1073741824) 1073741824).bind fun t103 => (some t103)) else (some false)) = some r := H
  have A3 := zam A30
  clear A30
  by_cases c4 : t102 = true
  ·subst c4
   have H1 : ((isobathref01_Within.f a0_1 (-1073741824) 1073741824).bind fun t103 => (some t103)) = some r := by rw [if_pos rfl] at H; exact H
   clear H
   have H := H1
   clear H1
   replace H := Option.bind_eq_some_iff.mp H
   obtain ⟨t103, A50, H⟩ := H
   replace H : (some t103) = some r := H
   have A5 := zam A50
   clear A50
   obtain rfl := zsi H
   go_enter Try.func18, Try.ntmps18
   go_wp2_with (first | ((with_reducible refine zgd (N := 1) rfl ?_); refine box_event ?hg (N := 1) ?hd (cs := #[.int .i64 a0_0, .int .i64 a0_1]) (t := 24) ?hr ?_; (case hd => rfl); (case hg => rfl); (case hr => first | (go_simp; done) | (go_simp; rfl)); intro gb101 hg w6 hbox hb; have n0_ := zam (zbt (by repeat (first | (with_reducible first | exact HB.out | apply zba | apply zbn | apply zb1) | exact HB.out)) hb); have n1_ := zam (hbox); have n2_ := zam ((by rw [hg]; exact (zbz (by repeat (first | (with_reducible first | exact HB.out | apply zba | apply zbn | apply zb1) | exact HB.out))) : w.heap.size ≤ gb101)); have n3_ := zam ((by rw [hg]; exact (zbz (by repeat (first | (with_reducible first | exact HB.out | apply zba | apply zbn | apply zb1) | exact HB.out))) : w.heap.size ≤ gb101)); clear HB; have HB := n0_; have BK101 := n1_; have GW101 := n2_; have GE101 := n3_; clear n0_ n1_ n2_ n3_; clear hb hbox hg; have hcz7_0 : w6.cell? ⟨gb101, 0, none⟩ = some (.int .i64 a0_0) := (zkc BK101.out 0).trans rfl; have hcz7_1 : w6.cell? ⟨gb101, 1, none⟩ = some (.int .i64 a0_1) := (zkc BK101.out 1).trans rfl; have hfz7_0 := zkz BK101.out 0; have hfz7_1 := zkz BK101.out 1) | (go_at_call 60; (with_reducible refine (isobathref01_Within.calls a0_0 (-1073741824) 1073741824 true _ A3.out).mono ?_); rintro e w' ⟨rfl, ⟨nd, rfl⟩⟩) | (go_at_call 60; (with_reducible refine (isobathref01_Within.calls a0_1 (-1073741824) 1073741824 t103 _ A5.out).mono ?_); rintro e w' ⟨rfl, ⟨nd, rfl⟩⟩))
   go_ret
   exact ⟨by first | rfl | (simp [errW_none, errW_some] <;> rfl) | (simp [*, errW_none, errW_some] <;> rfl), by repeat (first | (with_reducible first | exact HB.out | apply zba | apply zbn | apply zb1 | refine zbs ?_ GE101.out) | exact HB.out)⟩
  replace c4 := Bool.eq_false_iff.mpr c4
  subst c4
  have H1 : (some false) = some r := by rw [if_neg (show ¬ (false = true) by decide)] at H; exact H
  clear H
  have H := H1
  clear H1
  obtain rfl := zsi H
  go_enter Try.func18, Try.ntmps18
  go_wp2_with (first | ((with_reducible refine zgd (N := 1) rfl ?_); refine box_event ?hg (N := 1) ?hd (cs := #[.int .i64 a0_0, .int .i64 a0_1]) (t := 24) ?hr ?_; (case hd => rfl); (case hg => rfl); (case hr => first | (go_simp; done) | (go_simp; rfl)); intro gb101 hg w8 hbox hb; have n0_ := zam (zbt (by repeat (first | (with_reducible first | exact HB.out | apply zba | apply zbn | apply zb1) | exact HB.out)) hb); have n1_ := zam (hbox); have n2_ := zam ((by rw [hg]; exact (zbz (by repeat (first | (with_reducible first | exact HB.out | apply zba | apply zbn | apply zb1) | exact HB.out))) : w.heap.size ≤ gb101)); have n3_ := zam ((by rw [hg]; exact (zbz (by repeat (first | (with_reducible first | exact HB.out | apply zba | apply zbn | apply zb1) | exact HB.out))) : w.heap.size ≤ gb101)); clear HB; have HB := n0_; have BK101 := n1_; have GW101 := n2_; have GE101 := n3_; clear n0_ n1_ n2_ n3_; clear hb hbox hg; have hcz9_0 : w8.cell? ⟨gb101, 0, none⟩ = some (.int .i64 a0_0) := (zkc BK101.out 0).trans rfl; have hcz9_1 : w8.cell? ⟨gb101, 1, none⟩ = some (.int .i64 a0_1) := (zkc BK101.out 1).trans rfl; have hfz9_0 := zkz BK101.out 0; have hfz9_1 := zkz BK101.out 1) | (go_at_call 60; (with_reducible refine (isobathref01_Within.calls a0_0 (-1073741824) 1073741824 false _ A3.out).mono ?_); rintro e w' ⟨rfl, ⟨nd, rfl⟩⟩))
  go_ret
  exact ⟨by first | rfl | (simp [errW_none, errW_some] <;> rfl) | (simp [*, errW_none, errW_some] <;> rfl), by repeat (first | (with_reducible first | exact HB.out | apply zba | apply zbn | apply zb1 | refine zbs ?_ GE101.out) | exact HB.out)⟩
 rw [if_neg c2] at H
 have c2b0 : decide (a0_0 ≤ a0_1) = false := zdf c2
 clear c2
 obtain rfl := zsi H
 go_enter Try.func18, Try.ntmps18
 go_wp2_with (first | ((with_reducible refine zgd (N := 1) rfl ?_); refine box_event ?hg (N := 1) ?hd (cs := #[.int .i64 a0_0, .int .i64 a0_1]) (t := 24) ?hr ?_; (case hd => rfl); (case hg => rfl); (case hr => first | (go_simp; done) | (go_simp; rfl)); intro gb101 hg w10 hbox hb; have n0_ := zam (zbt (by repeat (first | (with_reducible first | exact HB.out | apply zba | apply zbn | apply zb1) | exact HB.out)) hb); have n1_ := zam (hbox); have n2_ := zam ((by rw [hg]; exact (zbz (by repeat (first | (with_reducible first | exact HB.out | apply zba | apply zbn | apply zb1) | exact HB.out))) : w.heap.size ≤ gb101)); have n3_ := zam ((by rw [hg]; exact (zbz (by repeat (first | (with_reducible first | exact HB.out | apply zba | apply zbn | apply zb1) | exact HB.out))) : w.heap.size ≤ gb101)); clear HB; have HB := n0_; have BK101 := n1_; have GW101 := n2_; have GE101 := n3_; clear n0_ n1_ n2_ n3_; clear hb hbox hg; have hcz11_0 : w10.cell? ⟨gb101, 0, none⟩ = some (.int .i64 a0_0) := (zkc BK101.out 0).trans rfl; have hcz11_1 : w10.cell? ⟨gb101, 1, none⟩ = some (.int .i64 a0_1) := (zkc BK101.out 1).trans rfl; have hfz11_0 := zkz BK101.out 0; have hfz11_1 := zkz BK101.out 1))
 go_ret
 exact ⟨by first | rfl | (simp [errW_none, errW_some] <;> rfl) | (simp [*, errW_none, errW_some] <;> rfl), by repeat (first | (with_reducible first | exact HB.out | apply zba | apply zbn | apply zb1 | refine zbs ?_ GE101.out) | exact HB.out)⟩
def isobathref07_calls.l0 : Nat → List Bool → Int → Int → Int → Int → Option (Int)
 | 0, _, _, _, _, _ => none
 | k + 1, x0, x1, x5, x6, x7 => if x7 < (x0.length : Int) then (if 0 ≤ x7 then (if rdOf false x0 x7 = true then (if (wrap64 (x6 + 1)) = x1 then (isobathref07_calls.l0 k x0 x1 (wrap64 (x5 + 1)) (wrap64 (x6 + 1)) (wrap64 (x7 + 1))) else (isobathref07_calls.l0 k x0 x1 x5 (wrap64 (x6 + 1)) (wrap64 (x7 + 1)))) else (isobathref07_calls.l0 k x0 x1 x5 0 (wrap64 (x7 + 1)))) else (none)) else (some x5)
def isobathref07_calls.f (k : Nat) (l0 : List Bool) (a1 : Int) : Option (Int) := isobathref07_calls.l0 k l0 a1 0 0 0
set_option maxHeartbeats 8000000 in
set_option maxRecDepth 100000 in
theorem isobathref07_calls.calls (k : Nat) (A0 : Option Addr) (c0 : Nat) (l0 : List Bool) (a1 : Int) (r : Int) (w : World) (hr0 : Kd.C Kd.bool w A0 l0.length l0) (hc0 : l0.length ≤ c0) (h : isobathref07_calls.f k l0 a1 = some r) :
  Calls Try.prog 89 #[.slice A0 l0.length c0, .int .i64 a1] w fun e w' => e = .returned (.int .i64 r) ∧ Drawn0 w w' := by
 have HR0 := zam hr0
 have HC0 := zam hc0
 clear hr0 hc0
 have H : (isobathref07_calls.l0 k l0 a1 0 0 0) = some r := h
 clear h
 have H' := zam H
 clear H
 go_enter Try.func89, Try.ntmps89
 go_wp2
 go_loopg [5, 6, 7] k (fun kq v5 v6 v7 w' => ∃ (x5_1 : Int) (x6_1 : Int) (x7_1 : Int), v5 = .int .i64 x5_1 ∧ v6 = .int .i64 x6_1 ∧ v7 = .int .i64 x7_1 ∧ Aside0 (isobathref07_calls.l0 kq l0 a1 x5_1 x6_1 x7_1 = some r) ∧ Aside0 (kq ≤ k) ∧ Drawn0 w w')
 case atStart => exact ⟨(0), (0), (0), (by first | rfl | (simp; done) | (simp [*]; done)), (by first | rfl | (simp; done) | (simp [*]; done)), (by first | rfl | (simp; done) | (simp [*]; done)), H', ⟨Nat.le_refl _⟩, by repeat (first | exact Drawn0.refl _ | apply Drawn0.step)⟩
 case round =>
  clear H'
  try clear p2
  obtain ⟨x5_1, x6_1, x7_1, rfl, rfl, rfl, HA, HK1, ⟨m1, rfl⟩⟩ := hrel
  cases gk with
  | zero => exact absurd HA.out (by simp [isobathref07_calls.l0])
  | succ k1 =>
   have H := HA.out
   clear HA
   simp only [isobathref07_calls.l0] at H
   by_cases c3 : x7_1 < (l0.length : Int)
   ·rw [if_pos c3] at H
    have c3b0 : decide (x7_1 < (l0.length : Int)) = true := zdt c3
    clear c3
    by_cases c4 : 0 ≤ x7_1
    ·rw [if_pos c4] at H
     have c4b0 : decide (0 ≤ x7_1) = true := zdt c4
     clear c4
     obtain ⟨bq5, hbq5⟩ : ∃ b_ : Bool, b_ = (rdOf false l0 x7_1) := ⟨_, rfl⟩
     replace H : (if bq5 = true then (if (wrap64 (x6_1 + 1)) = a1 then (isobathref07_calls.l0 k1 l0 a1 (wrap64 (x5_1 + 1)) (wrap64 (x6_1 + 1)) (wrap64 (x7_1 + 1))) else (isobathref07_calls.l0 k1 l0 a1 x5_1 (wrap64 (x6_1 + 1)) (wrap64 (x7_1 + 1)))) else (isobathref07_calls.l0 k1 l0 a1 x5_1 0 (wrap64 (x7_1 + 1)))) = some r := by rw [← hbq5] at H; exact H
     have Nbq5 := zam hbq5
     clear hbq5
     by_cases c6 : bq5 = true
     ·subst c6
      have H1 : (if (wrap64 (x6_1 + 1)) = a1 then (isobathref07_calls.l0 k1 l0 a1 (wrap64 (x5_1 + 1)) (wrap64 (x6_1 + 1)) (wrap64 (x7_1 + 1))) else (isobathref07_calls.l0 k1 l0 a1 x5_1 (wrap64 (x6_1 + 1)) (wrap64 (x7_1 + 1)))) = some r := by rw [if_pos rfl] at H; exact H
      clear H
      have H := H1
      clear H1
      by_cases c7 : (wrap64 (x6_1 + 1)) = a1
      ·rw [if_pos c7] at H
       have c7b0 : ((wrap64 (x6_1 + 1)) == a1) = true := beq_iff_eq.mpr c7
       have c7b1 : ((wrap64 (x6_1 + 1)) != a1) = false := bne_eq_false_iff_eq.mpr c7
       clear c7
       have H' := zam H
       clear H
       have p101 : 0 ≤ (x7_1 : Int) := zod (by first | (with_reducible assumption) | assumption)
       have q101 : x7_1 < (l0.length : Int) := zod (by first | (with_reducible assumption) | assumption)
       obtain ⟨ad101, e101, hx101_0⟩ := Kd.at_bool HR0.out x7_1 p101 q101
       (try rw [← Nbq5.out] at hx101_0)
       cases e101
       replace p101 := eq_true p101
       replace q101 := eq_true q101
       go_wp2
       go_roundg k1
       case measure => have := HK1.out; omega
       case rel => exact ⟨(wrap64 (x5_1 + 1)), (wrap64 (x6_1 + 1)), (wrap64 (x7_1 + 1)), (by first | rfl | (simp; done) | (simp [*]; done)), (by first | rfl | (simp; done) | (simp [*]; done)), (by first | rfl | (simp; done) | (simp [*]; done)), H', ⟨by have := HK1.out; omega⟩, by repeat (first | exact Drawn0.refl _ | apply Drawn0.step)⟩
      rw [if_neg c7] at H
      have c7b0 : ((wrap64 (x6_1 + 1)) == a1) = false := beq_eq_false_iff_ne.mpr c7
      have c7b1 : ((wrap64 (x6_1 + 1)) != a1) = true := bne_iff_ne.mpr c7
      have H' := zam H
      clear H
      have p101 : 0 ≤ (x7_1 : Int) := zod (by first | (with_reducible assumption) | assumption)
      have q101 : x7_1 < (l0.length : Int) := zod (by first | (with_reducible assumption) | assumption)
      obtain ⟨ad101, e101, hx101_0⟩ := Kd.at_bool HR0.out x7_1 p101 q101
      (try rw [← Nbq5.out] at hx101_0)
      cases e101
      replace p101 := eq_true p101
      replace q101 := eq_true q101
      go_wp2
      go_roundg k1
      case measure => have := HK1.out; omega
      case rel => exact ⟨(x5_1), (wrap64 (x6_1 + 1)), (wrap64 (x7_1 + 1)), (by first | rfl | (simp; done) | (simp [*]; done)), (by first | rfl | (simp; done) | (simp [*]; done)), (by first | rfl | (simp; done) | (simp [*]; done)), H', ⟨by have := HK1.out; omega⟩, by repeat (first | exact Drawn0.refl _ | apply Drawn0.step)⟩
     replace c6 := Bool.eq_false_iff.mpr c6
     subst c6
     have H1 : (isobathref07_calls.l0 k1 l0 a1 x5_1 0 (wrap64 (x7_1 + 1))) = some r := by rw [if_neg (show ¬ (false = true) by decide)] at H; exact H
     clear H
     have H := H1
     clear H1
     have H' := zam H
     clear H
     have p101 : 0 ≤ (x7_1 : Int) := zod (by first | (with_reducible assumption) | assumption)
     have q101 : x7_1 < (l0.length : Int) := zod (by first | (with_reducible assumption) | assumption)
     obtain ⟨ad101, e101, hx101_0⟩ := Kd.at_bool HR0.out x7_1 p101 q101
     (try rw [← Nbq5.out] at hx101_0)
     cases e101
     replace p101 := eq_true p101
     replace q101 := eq_true q101
     go_wp2
     go_roundg k1
     case measure => have := HK1.out; omega
     case rel => exact ⟨(x5_1), (0), (wrap64 (x7_1 + 1)), (by first | rfl | (simp; done) | (simp [*]; done)), (by first | rfl | (simp; done) | (simp [*]; done)), (by first | rfl | (simp; done) | (simp [*]; done)), H', ⟨by have := HK1.out; omega⟩, by repeat (first | exact Drawn0.refl _ | apply Drawn0.step)⟩
    rw [if_neg c4] at H
    exact absurd H (by simp)
   rw [if_neg c3] at H
   have c3b0 : decide (x7_1 < (l0.length : Int)) = false := zdf c3
   clear c3
   obtain rfl := zsi H
   go_wp2
   go_ret
   exact ⟨by first | rfl | (simp; done) | (simp [*]; done), by repeat (first | exact Drawn0.refl _ | apply Drawn0.step)⟩
def isobathref07_Calls.f (k : Nat) (l0 : List Bool) (a1 : Int) : Option (Int × Int) := if (l0.length : Int) > 256 then (some (0, 6)) else (if a1 < 1 then (some (0, 3)) else (if a1 > 256 then (some (0, 3)) else ((isobathref07_calls.f k l0 a1).bind fun t101 => (some (t101, 0)))))
set_option maxHeartbeats 8000000 in
set_option maxRecDepth 100000 in
theorem isobathref07_Calls.calls (k : Nat) (A0 : Option Addr) (c0 : Nat) (l0 : List Bool) (a1 : Int) (r1 : Int) (r2 : Int) (w : World) (hr0 : Kd.C Kd.bool w A0 l0.length l0) (hc0 : l0.length ≤ c0) (h : isobathref07_Calls.f k l0 a1 = some (r1, r2)) :
  Calls Try.prog 44 #[.slice A0 l0.length c0, .int .i64 a1] w fun e w' => e = .returned (.tuple #[.int .i64 r1, .int .i64 r2]) ∧ Drawn0 w w' := by
 have HR0 := zam hr0
 have HC0 := zam hc0
 clear hr0 hc0
 have H : (if (l0.length : Int) > 256 then (some (0, 6)) else (if a1 < 1 then (some (0, 3)) else (if a1 > 256 then (some (0, 3)) else ((isobathref07_calls.f k l0 a1).bind fun t101 => (some (t101, 0)))))) = some (r1, r2) := h
 clear h
 by_cases c3 : (l0.length : Int) > 256
 ·rw [if_pos c3] at H
  have c3b0 : decide (256 < (l0.length : Int)) = true := zdt c3
  have c3b1 : decide (256 < l0.length) = true := zdt (by omega)
  clear c3
  simp only [Option.some.injEq, Prod.mk.injEq] at H
  obtain ⟨rfl, rfl⟩ := H
  go_enter Try.func44, Try.ntmps44
  go_wp2
  go_ret2
  exact ⟨by first | rfl | (simp; done) | (simp [*]; done), by repeat (first | exact Drawn0.refl _ | apply Drawn0.step)⟩
 rw [if_neg c3] at H
 have c3b0 : decide (256 < (l0.length : Int)) = false := zdf c3
 have c3b1 : decide (256 < l0.length) = false := zdf (by omega)
 clear c3
 by_cases c4 : a1 < 1
 ·rw [if_pos c4] at H
  have c4b0 : decide (a1 < 1) = true := zdt c4
  clear c4
  simp only [Option.some.injEq, Prod.mk.injEq] at H
  obtain ⟨rfl, rfl⟩ := H
  go_enter Try.func44, Try.ntmps44
  go_wp2
  go_ret2
  exact ⟨by first | rfl | (simp; done) | (simp [*]; done), by repeat (first | exact Drawn0.refl _ | apply Drawn0.step)⟩
 rw [if_neg c4] at H
 have c4b0 : decide (a1 < 1) = false := zdf c4
 clear c4
 by_cases c5 : a1 > 256
 ·rw [if_pos c5] at H
  have c5b0 : decide (256 < a1) = true := zdt c5
  clear c5
  simp only [Option.some.injEq, Prod.mk.injEq] at H
  obtain ⟨rfl, rfl⟩ := H
  go_enter Try.func44, Try.ntmps44
  go_wp2
  go_ret2
  exact ⟨by first | rfl | (simp; done) | (simp [*]; done), by repeat (first | exact Drawn0.refl _ | apply Drawn0.step)⟩
 rw [if_neg c5] at H
 have c5b0 : decide (256 < a1) = false := zdf c5
 clear c5
 replace H := Option.bind_eq_some_iff.mp H
 obtain ⟨t101, A60, H⟩ := H
 replace H : (some (t101, 0)) = some (r1, r2) := H
 have A6 := zam A60
 clear A60
 simp only [Option.some.injEq, Prod.mk.injEq] at H
 obtain ⟨rfl, rfl⟩ := H
 go_enter Try.func44, Try.ntmps44
 go_wp2_with (first | ((with_reducible refine zgc (f := 89) rfl ?_); refine goesL_ (some 17) rfl rfl Try.func89 (by kernel_rfl) rfl #[.slice A0 l0.length c0, .int .i64 a1] rfl (by (try simp only [zmt, List.map_cons, List.map_nil]); first | done | rfl | (simp only [zld, zlt]; rfl)) ?_; (with_reducible refine (isobathref07_calls.calls k _ _ l0 a1 t101 _ ?side1 ?side2 A6.out).mono ?_); (case side1 => repeat (first | exact HR0.out | (with_reducible refine Kd.C_alloc ?_ _) | (with_reducible refine Kd.C_drewN ?_ _) | (with_reducible refine Kd.C_drew ?_))); (case side2 => exact HC0.out); rintro e w' ⟨rfl, ⟨nd, rfl⟩⟩; refine ⟨_, rfl, ?_⟩))
 go_ret2
 exact ⟨by first | rfl | (simp; done) | (simp [*]; done), by repeat (first | exact Drawn0.refl _ | apply Drawn0.step)⟩
def isobathref07_track.l0 : Nat → List (S24) → Int → Option (Int)
 | 0, _, _ => none
 | k + 1, x0, x3 => if x3 < (x0.length : Int) then (if 0 ≤ x3 then ((isobathref01_Valid.f ((rd_T24 x0 x3).f0) ((rd_T24 x0 x3).f1)).bind fun t102 => (if t102 = true then (isobathref07_track.l0 k x0 (wrap64 (x3 + 1))) else (some 2))) else (none)) else (some 0)
def isobathref07_track.f (k : Nat) (l0 : List (S24)) : Option (Int) := if (l0.length : Int) > 256 then (some 6) else (isobathref07_track.l0 k l0 0)
set_option maxHeartbeats 8000000 in
set_option maxRecDepth 100000 in
theorem isobathref07_track.calls (k : Nat) (A0 : Option Addr) (c0 : Nat) (l0 : List (S24)) (r : Int) (w : World) (hr0 : Kd.C k24 w A0 l0.length l0) (hc0 : l0.length ≤ c0) (h : isobathref07_track.f k l0 = some r) :
  Calls Try.prog 88 #[.slice A0 l0.length c0] w fun e w' => e = .returned (.int .i64 r) ∧ Below w.heap.size w w' := by
 have hu24 := Try.underlying24
 have HR0 := zam hr0
 have HC0 := zam hc0
 clear hr0 hc0
 have HB := zam (Below.refl w.heap.size w)
 have H : (if (l0.length : Int) > 256 then (some 6) else (isobathref07_track.l0 k l0 0)) = some r := h
 clear h
 by_cases c2 : (l0.length : Int) > 256
 ·rw [if_pos c2] at H
  have c2b0 : decide (256 < (l0.length : Int)) = true := zdt c2
  have c2b1 : decide (256 < l0.length) = true := zdt (by omega)
  clear c2
  obtain rfl := zsi H
  go_enter Try.func88, Try.ntmps88
  go_wp2
  go_ret
  exact ⟨by first | rfl | (simp [errW_none, errW_some] <;> rfl) | (simp [*, errW_none, errW_some] <;> rfl), by repeat (first | (with_reducible first | exact HB.out | apply zba | apply zbn | apply zb1) | exact HB.out)⟩
 rw [if_neg c2] at H
 have c2b0 : decide (256 < (l0.length : Int)) = false := zdf c2
 have c2b1 : decide (256 < l0.length) = false := zdf (by omega)
 clear c2
 have H' := zam H
 clear H
 go_enter Try.func88, Try.ntmps88
 go_wp2
 go_loopg [3] k (fun kq v3 w' => ∃ (x3_1 : Int), v3 = .int .i64 x3_1 ∧ Aside0 (isobathref07_track.l0 kq l0 x3_1 = some r) ∧ Aside0 (kq ≤ k) ∧ Aside0 (Below w.heap.size w w'))
 case atStart => exact ⟨(0), (by first | rfl | (simp; done) | (simp [*]; done)), H', ⟨Nat.le_refl _⟩, ⟨by repeat (first | (with_reducible first | exact HB.out | apply zba | apply zbn | apply zb1) | exact HB.out)⟩⟩
 case round =>
  clear H'
  try clear c2
  try clear c2b0
  try clear c2b1
  try clear p2
  obtain ⟨x3_1, rfl, HA, HK1, HB⟩ := hrel
  cases gk with
  | zero => exact absurd HA.out (by simp [isobathref07_track.l0])
  | succ k1 =>
   have H := HA.out
   clear HA
   simp only [isobathref07_track.l0] at H
   by_cases c3 : x3_1 < (l0.length : Int)
   ·rw [if_pos c3] at H
    have c3b0 : decide (x3_1 < (l0.length : Int)) = true := zdt c3
    clear c3
    by_cases c4 : 0 ≤ x3_1
    ·rw [if_pos c4] at H
     have c4b0 : decide (0 ≤ x3_1) = true := zdt c4
     clear c4
     replace H := Option.bind_eq_some_iff.mp H
     obtain ⟨t102, A50, H⟩ := H
     replace H : (if t102 = true then (isobathref07_track.l0 k1 l0 (wrap64 (x3_1 + 1))) else (some 2)) = some r := H
     have A5 := zam A50
     clear A50
     by_cases c6 : t102 = true
     ·subst c6
      have H1 : (isobathref07_track.l0 k1 l0 (wrap64 (x3_1 + 1))) = some r := by rw [if_pos rfl] at H; exact H
      clear H
      have H := H1
      clear H1
      have H' := zam H
      clear H
      have p101 : 0 ≤ (x3_1 : Int) := zod (by first | (with_reducible assumption) | assumption)
      have q101 : x3_1 < (l0.length : Int) := zod (by first | (with_reducible assumption) | assumption)
      obtain ⟨ad101, e101, hx101_0, hx101_1⟩ := at_T24 HR0.out x3_1 p101 q101
      cases e101
      replace hx101_0 := (HB.out.cell (zwb w _ hx101_0)).trans hx101_0
      replace hx101_1 := (HB.out.cell (zwb w _ hx101_1)).trans hx101_1
      replace p101 := eq_true p101
      replace q101 := eq_true q101
      go_wp2_with (first | ((with_reducible refine zgc (f := 18) rfl ?_); refine goesL_ (some 17) rfl rfl Try.func18 (by kernel_rfl) rfl #[.agg #[.int .i64 ((rd_T24 l0 x3_1).f0), .int .i64 ((rd_T24 l0 x3_1).f1)]] rfl (by (try simp only [zmt, List.map_cons, List.map_nil]); first | done | rfl | (simp only [zld, zlt]; rfl)) ?_; (with_reducible refine (isobathref01_Valid.calls ((rd_T24 l0 x3_1).f0) ((rd_T24 l0 x3_1).f1) true _ A5.out).mono ?_); rintro e w7 ⟨rfl, hb⟩; refine ⟨_, rfl, ?_⟩; have n0_ := zam (zbt (by repeat (first | (with_reducible first | exact HB.out | apply zba | apply zbn | apply zb1) | exact HB.out)) hb); clear HB; have HB := n0_; clear n0_; (try clear hb); (try clear hb2); (try clear hk); (try clear hi)))
      go_roundg k1
      case measure => have := HK1.out; omega
      case rel => exact ⟨(wrap64 (x3_1 + 1)), (by first | rfl | (simp; done) | (simp [*]; done)), H', ⟨by have := HK1.out; omega⟩, ⟨by repeat (first | (with_reducible first | exact HB.out | apply zba | apply zbn | apply zb1) | exact HB.out)⟩⟩
     replace c6 := Bool.eq_false_iff.mpr c6
     subst c6
     have H1 : (some 2) = some r := by rw [if_neg (show ¬ (false = true) by decide)] at H; exact H
     clear H
     have H := H1
     clear H1
     obtain rfl := zsi H
     have p101 : 0 ≤ (x3_1 : Int) := zod (by first | (with_reducible assumption) | assumption)
     have q101 : x3_1 < (l0.length : Int) := zod (by first | (with_reducible assumption) | assumption)
     obtain ⟨ad101, e101, hx101_0, hx101_1⟩ := at_T24 HR0.out x3_1 p101 q101
     cases e101
     replace hx101_0 := (HB.out.cell (zwb w _ hx101_0)).trans hx101_0
     replace hx101_1 := (HB.out.cell (zwb w _ hx101_1)).trans hx101_1
     replace p101 := eq_true p101
     replace q101 := eq_true q101
     go_wp2_with (first | ((with_reducible refine zgc (f := 18) rfl ?_); refine goesL_ (some 17) rfl rfl Try.func18 (by kernel_rfl) rfl #[.agg #[.int .i64 ((rd_T24 l0 x3_1).f0), .int .i64 ((rd_T24 l0 x3_1).f1)]] rfl (by (try simp only [zmt, List.map_cons, List.map_nil]); first | done | rfl | (simp only [zld, zlt]; rfl)) ?_; (with_reducible refine (isobathref01_Valid.calls ((rd_T24 l0 x3_1).f0) ((rd_T24 l0 x3_1).f1) false _ A5.out).mono ?_); rintro e w8 ⟨rfl, hb⟩; refine ⟨_, rfl, ?_⟩; have n0_ := zam (zbt (by repeat (first | (with_reducible first | exact HB.out | apply zba | apply zbn | apply zb1) | exact HB.out)) hb); clear HB; have HB := n0_; clear n0_; (try clear hb); (try clear hb2); (try clear hk); (try clear hi)))
     go_ret
     exact ⟨by first | rfl | (simp [errW_none, errW_some] <;> rfl) | (simp [*, errW_none, errW_some] <;> rfl), by repeat (first | (with_reducible first | exact HB.out | apply zba | apply zbn | apply zb1) | exact HB.out)⟩
    rw [if_neg c4] at H
    exact absurd H (by simp)
   rw [if_neg c3] at H
   have c3b0 : decide (x3_1 < (l0.length : Int)) = false := zdf c3
   clear c3
   obtain rfl := zsi H
   go_wp2
   go_ret
   exact ⟨by first | rfl | (simp [errW_none, errW_some] <;> rfl) | (simp [*, errW_none, errW_some] <;> rfl), by repeat (first | (with_reducible first | exact HB.out | apply zba | apply zbn | apply zb1) | exact HB.out)⟩
def isobathref07_Loud.f (k : Nat) (l0 : List (S24)) (a1 : Int) : Option (List Int × Int) := (isobathref07_track.f k l0).bind fun t101 => (if t101 = 0 then (if a1 < (-1073741824) then (isobathref07_Loud.j0 k l0 a1 true) else (isobathref07_Loud.j0 k l0 a1 (decide (a1 > 1073741824)))) else ((isobathref07_track.f k l0).bind fun t102 => (some (([] : List Int), t102))))
set_option maxHeartbeats 8000000 in
set_option maxRecDepth 100000 in
theorem isobathref07_Loud.calls (k : Nat) (A0 : Option Addr) (c0 : Nat) (l0 : List (S24)) (a1 : Int) (r1 : List Int) (r2 : Int) (w : World) (hr0 : Kd.C k24 w A0 l0.length l0) (hc0 : l0.length ≤ c0) (h : isobathref07_Loud.f k l0 a1 = some (r1, r2)) :
  Calls Try.prog 43 #[.slice A0 l0.length c0, .int .i64 a1] w fun e w' => ∃ v0_ : Value, e = .returned (.tuple #[v0_, .int .i64 r2]) ∧ Kd.R (Kd.int .i64) 50 w' w.heap.size (fun _ => True) v0_ r1 ∧ Below w.heap.size w w' := by
 have HR0 := zam hr0
 have HC0 := zam hc0
 clear hr0 hc0
 have HB := zam (Below.refl w.heap.size w)
 have H : ((isobathref07_track.f k l0).bind fun t101 => (if t101 = 0 then (if a1 < (-1073741824) then (isobathref07_Loud.j0 k l0 a1 true) else (isobathref07_Loud.j0 k l0 a1 (decide (a1 > 1073741824)))) else ((isobathref07_track.f k l0).bind fun t102 => (some (([] : List Int), t102))))) = some (r1, r2) := h
 clear h
 replace H := Option.bind_eq_some_iff.mp H
 obtain ⟨t101, A30, H⟩ := H
 replace H : (if t101 = 0 then (if a1 < (-1073741824) then (isobathref07_Loud.j0 k l0 a1 true) else (isobathref07_Loud.j0 k l0 a1 (decide (a1 > 1073741824)))) else ((isobathref07_track.f k l0).bind fun t102 => (some (([] : List Int), t102)))) = some (r1, r2) := H
 have A3 := zam A30
 clear A30
 by_cases c4 : t101 = 0
 ·rw [if_pos c4] at H
  have c4b0 : (t101 == 0) = true := beq_iff_eq.mpr c4
  have c4b1 : (t101 != 0) = false := bne_eq_false_iff_eq.mpr c4
  clear c4
  have HC5 := zam H
  clear H
  go_enter Try.func43, Try.ntmps43
  go_upto_region 3 with (first | ((with_reducible refine zgc (f := 88) rfl ?_); refine goesL_ (some 9) rfl rfl Try.func88 (by kernel_rfl) rfl #[.slice A0 l0.length c0] rfl (by (try simp only [zmt, List.map_cons, List.map_nil]); first | done | rfl | (simp only [zld, zlt]; rfl)) ?_; (with_reducible refine (isobathref07_track.calls k _ _ l0 t101 _ ?side1 ?side2 A3.out).mono ?_); (case side1 => repeat (first | exact HR0.out | (with_reducible refine Kd.C_alloc ?_ _) | (with_reducible refine Kd.C_drewN ?_ _) | (with_reducible refine Kd.C_drew ?_))); (case side2 => exact HC0.out); rintro e w6 ⟨rfl, hb⟩; refine ⟨_, rfl, ?_⟩; have n0_ := zam (zbt (by repeat (first | (with_reducible first | exact HB.out | apply zba | apply zbn | apply zb1) | exact HB.out)) hb); clear HB; have HB := n0_; clear n0_; (try clear hb); (try clear hb2); (try clear hk); (try clear hi)))
  (try simp only [Act.put, zsa, zsz, zss])
  go_cut [18] (fun v18 wc => ∃ (kq : Nat) (x18_4 : Bool), v18 = .bool x18_4 ∧ Aside0 (isobathref07_Loud.j0 kq l0 a1 x18_4 = some (r1, r2)) ∧ Aside0 (kq ≤ k) ∧ Aside0 (Below w.heap.size w wc))
  case first =>
   have H := HC5.out
   clear HC5
   by_cases c7 : a1 < (-1073741824)
   ·rw [if_pos c7] at H
    have c7b0 : decide (a1 < (-1073741824)) = true := zdt c7
    clear c7
    (first | rw [c7b0] | (simp only [i64_w, i32_w]; rw [c7b0]) | skip)
    have H' := zam H
    clear H
    go_wp2
    go_meet
    case rel => exact ⟨_, (true), (by first | rfl | (simp; done) | (simp [*]; done)), H', ⟨by first | omega | exact Nat.le_refl _⟩, ⟨by repeat (first | (with_reducible first | exact HB.out | apply zba | apply zbn | apply zb1) | exact HB.out)⟩⟩
   rw [if_neg c7] at H
   have c7b0 : decide (a1 < (-1073741824)) = false := zdf c7
   clear c7
   (first | rw [c7b0] | (simp only [i64_w, i32_w]; rw [c7b0]) | skip)
   have H' := zam H
   clear H
   go_wp2
   go_meet
   case rel => exact ⟨_, (decide (a1 > 1073741824)), (by first | rfl | (simp; done) | (simp [*]; done)), H', ⟨by first | omega | exact Nat.le_refl _⟩, ⟨by repeat (first | (with_reducible first | exact HB.out | apply zba | apply zbn | apply zb1) | exact HB.out)⟩⟩
  case rest =>
   clear HC5
   try clear p2
   try clear c4
   try clear c4b0
   try clear c4b1
   try clear c7
   try clear c7b0
   obtain ⟨kq, x18_4, rfl, HA, HJ4, HB⟩ := hcut
   cases kq with
   | zero => exact absurd HA.out (by simp [isobathref07_Loud.j0])
   | succ kj4 =>
    have H := HA.out
    clear HA
    simp only [isobathref07_Loud.j0] at H
    by_cases c8 : x18_4 = true
    ·subst c8
     have H1 : (some (([] : List Int), 3)) = some (r1, r2) := by rw [if_pos rfl] at H; exact H
     clear H
     have H := H1
     clear H1
     simp only [Option.some.injEq, Prod.mk.injEq] at H
     obtain ⟨rfl, rfl⟩ := H
     go_wp2
     go_ret2
     exact ⟨_, by first | rfl | (simp [errW_none, errW_some] <;> rfl) | (simp [*, errW_none, errW_some] <;> rfl), by first | exact Kd.R_nil _ _ _ _ _ | exact Kd.N_nil _ _ _ _ _ | exact Kd.V_nil _ _ _ _ _ | exact Kd.Q_nil _ _ _ _ _ | exact Kd.S_nil _ _ _ _ _, by repeat (first | (with_reducible first | exact HB.out | apply zba | apply zbn | apply zb1) | exact HB.out)⟩
    replace c8 := Bool.eq_false_iff.mpr c8
    subst c8
    have H1 : (isobathref07_Loud.l0 kj4 l0 a1 ([] : List Int) 0) = some (r1, r2) := by rw [if_neg (show ¬ (false = true) by decide)] at H; exact H
    clear H
    have H := H1
    clear H1
    have H' := zam H
    clear H
    go_wp2
    go_loopg [6, 7] kj4 (fun kq v6 v7 w' => ∃ (x6_2 : List Int) (x7_2 : Int), v7 = .int .i64 x7_2 ∧ Aside0 (isobathref07_Loud.l0 kq l0 a1 x6_2 x7_2 = some (r1, r2)) ∧ Aside0 (kq ≤ kj4) ∧ Aside0 (Kd.R (Kd.int .i64) 50 w' w.heap.size (fun _ => True) v6 x6_2) ∧ Aside0 (Below w.heap.size w w'))
    case atStart => exact ⟨(([] : List Int)), (0), (by first | rfl | (simp; done) | (simp [*]; done)), H', ⟨Nat.le_refl _⟩, ⟨by first | exact Kd.R_nil _ _ _ _ _ | exact Kd.N_nil _ _ _ _ _ | exact Kd.V_nil _ _ _ _ _ | exact Kd.Q_nil _ _ _ _ _ | exact Kd.S_nil _ _ _ _ _⟩, ⟨by repeat (first | (with_reducible first | exact HB.out | apply zba | apply zbn | apply zb1) | exact HB.out)⟩⟩
    case round =>
     clear H'
     try clear p2
     try clear c4
     try clear c4b0
     try clear c4b1
     try clear c7
     try clear c7b0
     try clear c8
     try clear p2
     obtain ⟨x6_2, x7_2, rfl, HA, HK2, HO_6, HB⟩ := hrel
     cases gk with
     | zero => exact absurd HA.out (by simp [isobathref07_Loud.l0])
     | succ k2 =>
      have H := HA.out
      clear HA
      simp only [isobathref07_Loud.l0] at H
      by_cases c9 : x7_2 < (l0.length : Int)
      ·rw [if_pos c9] at H
       have c9b0 : decide (x7_2 < (l0.length : Int)) = true := zdt c9
       clear c9
       by_cases c10 : 0 ≤ x7_2
       ·rw [if_pos c10] at H
        have c10b0 : decide (0 ≤ x7_2) = true := zdt c10
        clear c10
        by_cases c11 : ((rd_T24 l0 x7_2).f0) ≥ a1
        ·rw [if_pos c11] at H
         have c11b0 : decide (a1 ≤ ((rd_T24 l0 x7_2).f0)) = true := zdt c11
         clear c11
         by_cases c12 : x6_2.length < 17592186044416
         ·rw [if_pos c12] at H
          have LMc12 := zam c12
          clear c12
          obtain ⟨y104, hy104⟩ : ∃ y_ : List Int, y_ = (x6_2 ++ [2]) := ⟨_, rfl⟩
          replace H : (isobathref07_Loud.l0 k2 l0 a1 y104 (wrap64 (x7_2 + 1))) = some (r1, r2) := by first | (rw [hy104]; with_reducible exact H) | (have H2_ := (Option.bind_some _ _).symm.trans H; rw [hy104]; with_reducible exact H2_) | (have H2_ := (Option.bind_some _ _).symm.trans H; with_reducible exact H2_) | with_reducible exact H | (rw [hy104]; exact H) | exact H
          have Ny104 := zam hy104
          clear hy104
          have H' := zam H
          clear H
          have p103 : 0 ≤ (x7_2 : Int) := zod (by first | (with_reducible assumption) | assumption)
          have q103 : x7_2 < (l0.length : Int) := zod (by first | (with_reducible assumption) | assumption)
          obtain ⟨ad103, e103, hx103_0, hx103_1⟩ := at_T24 HR0.out x7_2 p103 q103
          cases e103
          replace hx103_0 := (HB.out.cell (zwb w _ hx103_0)).trans hx103_0
          replace hx103_1 := (HB.out.cell (zwb w _ hx103_1)).trans hx103_1
          replace p103 := eq_true p103
          replace q103 := eq_true q103
          go_wp2_with (first | ((with_reducible refine gate_builtin (b := .append) (xs := #[.tmp 36, .tmp 37]) rfl ?_); at_builtin; refine Kd.R_append (Kd.int .i64) (w0 := w) w.heap.size rfl (.tmp 36) (.tmp 37) 66 50 (.int .i64 0) 8 rfl Try.underlying66 info50 rfl (by decide) (by omega) u6 x6_2 2 [.int .i64 2] (fun _ => True) (fun _ => False) rfl rfl ?aP (fun _ hk => hk.elim) ?aF ?aO ?aB ?aS ?aL ?_; (case aP => exact rfl); (case aB => exact (by repeat (first | (with_reducible first | exact HB.out | apply zba | apply zbn | apply zb1) | exact HB.out))); (case aF => exact (fun _ _ => trivial)); (case aO => exact (by (with_reducible repeat (first | apply zRa | apply zRn | apply zRd)); exact HO_6.out)); (case aS => exact (zbz (by repeat (first | (with_reducible first | exact HB.out | apply zba | apply zbn | apply zb1) | exact HB.out)))); (case aL => have := LMc12.out; omega); intro v105 w13 ho hb hg hat; rw [← Ny104.out] at ho; have n0_ := zam (hb); have n1_ := zam (ho); clear HB; clear HO_6; have HB := n0_; have HO106 := n1_; clear n0_ n1_; clear ho hb hg hat))
          go_roundg k2
          case measure => have := HJ4.out; have := HK2.out; omega
          case rel => exact ⟨(y104), (wrap64 (x7_2 + 1)), (by first | rfl | (simp; done) | (simp [*]; done)), H', ⟨by have := HJ4.out; have := HK2.out; omega⟩, ⟨by (with_reducible repeat (first | apply zRa | apply zRn | apply zRd)); exact HO106.out⟩, ⟨by repeat (first | (with_reducible first | exact HB.out | apply zba | apply zbn | apply zb1) | exact HB.out)⟩⟩
         rw [if_neg c12] at H
         exact absurd H (by simp)
        rw [if_neg c11] at H
        have c11b0 : decide (a1 ≤ ((rd_T24 l0 x7_2).f0)) = false := zdf c11
        clear c11
        by_cases c14 : ((rd_T24 l0 x7_2).f1) < a1
        ·rw [if_pos c14] at H
         have c14b0 : decide (((rd_T24 l0 x7_2).f1) < a1) = true := zdt c14
         clear c14
         by_cases c15 : x6_2.length < 17592186044416
         ·rw [if_pos c15] at H
          have LMc15 := zam c15
          clear c15
          obtain ⟨y108, hy108⟩ : ∃ y_ : List Int, y_ = (x6_2 ++ [0]) := ⟨_, rfl⟩
          replace H : (isobathref07_Loud.l0 k2 l0 a1 y108 (wrap64 (x7_2 + 1))) = some (r1, r2) := by first | (rw [hy108]; with_reducible exact H) | (have H2_ := (Option.bind_some _ _).symm.trans H; rw [hy108]; with_reducible exact H2_) | (have H2_ := (Option.bind_some _ _).symm.trans H; with_reducible exact H2_) | with_reducible exact H | (rw [hy108]; exact H) | exact H
          have Ny108 := zam hy108
          clear hy108
          have H' := zam H
          clear H
          have p103 : 0 ≤ (x7_2 : Int) := zod (by first | (with_reducible assumption) | assumption)
          have q103 : x7_2 < (l0.length : Int) := zod (by first | (with_reducible assumption) | assumption)
          obtain ⟨ad103, e103, hx103_0, hx103_1⟩ := at_T24 HR0.out x7_2 p103 q103
          cases e103
          replace hx103_0 := (HB.out.cell (zwb w _ hx103_0)).trans hx103_0
          replace hx103_1 := (HB.out.cell (zwb w _ hx103_1)).trans hx103_1
          replace p103 := eq_true p103
          replace q103 := eq_true q103
          have p107 : 0 ≤ (x7_2 : Int) := zod (by first | (with_reducible assumption) | assumption)
          have q107 : x7_2 < (l0.length : Int) := zod (by first | (with_reducible assumption) | assumption)
          obtain ⟨ad107, e107, hx107_0, hx107_1⟩ := at_T24 HR0.out x7_2 p107 q107
          obtain rfl : ad103 = ad107 := (by injection e107)
          replace hx107_0 := (HB.out.cell (zwb w _ hx107_0)).trans hx107_0
          replace hx107_1 := (HB.out.cell (zwb w _ hx107_1)).trans hx107_1
          replace p107 := eq_true p107
          replace q107 := eq_true q107
          go_wp2_with (first | ((with_reducible refine gate_builtin (b := .append) (xs := #[.tmp 47, .tmp 48]) rfl ?_); at_builtin; refine Kd.R_append (Kd.int .i64) (w0 := w) w.heap.size rfl (.tmp 47) (.tmp 48) 66 50 (.int .i64 0) 8 rfl Try.underlying66 info50 rfl (by decide) (by omega) u6 x6_2 0 [.int .i64 0] (fun _ => True) (fun _ => False) rfl rfl ?aP (fun _ hk => hk.elim) ?aF ?aO ?aB ?aS ?aL ?_; (case aP => exact rfl); (case aB => exact (by repeat (first | (with_reducible first | exact HB.out | apply zba | apply zbn | apply zb1) | exact HB.out))); (case aF => exact (fun _ _ => trivial)); (case aO => exact (by (with_reducible repeat (first | apply zRa | apply zRn | apply zRd)); exact HO_6.out)); (case aS => exact (zbz (by repeat (first | (with_reducible first | exact HB.out | apply zba | apply zbn | apply zb1) | exact HB.out)))); (case aL => have := LMc15.out; omega); intro v109 w16 ho hb hg hat; rw [← Ny108.out] at ho; have n0_ := zam (hb); have n1_ := zam (ho); clear HB; clear HO_6; have HB := n0_; have HO110 := n1_; clear n0_ n1_; clear ho hb hg hat))
          go_roundg k2
          case measure => have := HJ4.out; have := HK2.out; omega
          case rel => exact ⟨(y108), (wrap64 (x7_2 + 1)), (by first | rfl | (simp; done) | (simp [*]; done)), H', ⟨by have := HJ4.out; have := HK2.out; omega⟩, ⟨by (with_reducible repeat (first | apply zRa | apply zRn | apply zRd)); exact HO110.out⟩, ⟨by repeat (first | (with_reducible first | exact HB.out | apply zba | apply zbn | apply zb1) | exact HB.out)⟩⟩
         rw [if_neg c15] at H
         exact absurd H (by simp)
        rw [if_neg c14] at H
        have c14b0 : decide (((rd_T24 l0 x7_2).f1) < a1) = false := zdf c14
        clear c14
        by_cases c17 : x6_2.length < 17592186044416
        ·rw [if_pos c17] at H
         have LMc17 := zam c17
         clear c17
         obtain ⟨y111, hy111⟩ : ∃ y_ : List Int, y_ = (x6_2 ++ [1]) := ⟨_, rfl⟩
         replace H : (isobathref07_Loud.l0 k2 l0 a1 y111 (wrap64 (x7_2 + 1))) = some (r1, r2) := by first | (rw [hy111]; with_reducible exact H) | (have H2_ := (Option.bind_some _ _).symm.trans H; rw [hy111]; with_reducible exact H2_) | (have H2_ := (Option.bind_some _ _).symm.trans H; with_reducible exact H2_) | with_reducible exact H | (rw [hy111]; exact H) | exact H
         have Ny111 := zam hy111
         clear hy111
         have H' := zam H
         clear H
         have p103 : 0 ≤ (x7_2 : Int) := zod (by first | (with_reducible assumption) | assumption)
         have q103 : x7_2 < (l0.length : Int) := zod (by first | (with_reducible assumption) | assumption)
         obtain ⟨ad103, e103, hx103_0, hx103_1⟩ := at_T24 HR0.out x7_2 p103 q103
         cases e103
         replace hx103_0 := (HB.out.cell (zwb w _ hx103_0)).trans hx103_0
         replace hx103_1 := (HB.out.cell (zwb w _ hx103_1)).trans hx103_1
         replace p103 := eq_true p103
         replace q103 := eq_true q103
         have p107 : 0 ≤ (x7_2 : Int) := zod (by first | (with_reducible assumption) | assumption)
         have q107 : x7_2 < (l0.length : Int) := zod (by first | (with_reducible assumption) | assumption)
         obtain ⟨ad107, e107, hx107_0, hx107_1⟩ := at_T24 HR0.out x7_2 p107 q107
         obtain rfl : ad103 = ad107 := (by injection e107)
         replace hx107_0 := (HB.out.cell (zwb w _ hx107_0)).trans hx107_0
         replace hx107_1 := (HB.out.cell (zwb w _ hx107_1)).trans hx107_1
         replace p107 := eq_true p107
         replace q107 := eq_true q107
         go_wp2_with (first | ((with_reducible refine gate_builtin (b := .append) (xs := #[.tmp 25, .tmp 26]) rfl ?_); at_builtin; refine Kd.R_append (Kd.int .i64) (w0 := w) w.heap.size rfl (.tmp 25) (.tmp 26) 66 50 (.int .i64 0) 8 rfl Try.underlying66 info50 rfl (by decide) (by omega) u6 x6_2 1 [.int .i64 1] (fun _ => True) (fun _ => False) rfl rfl ?aP (fun _ hk => hk.elim) ?aF ?aO ?aB ?aS ?aL ?_; (case aP => exact rfl); (case aB => exact (by repeat (first | (with_reducible first | exact HB.out | apply zba | apply zbn | apply zb1) | exact HB.out))); (case aF => exact (fun _ _ => trivial)); (case aO => exact (by (with_reducible repeat (first | apply zRa | apply zRn | apply zRd)); exact HO_6.out)); (case aS => exact (zbz (by repeat (first | (with_reducible first | exact HB.out | apply zba | apply zbn | apply zb1) | exact HB.out)))); (case aL => have := LMc17.out; omega); intro v112 w18 ho hb hg hat; rw [← Ny111.out] at ho; have n0_ := zam (hb); have n1_ := zam (ho); clear HB; clear HO_6; have HB := n0_; have HO113 := n1_; clear n0_ n1_; clear ho hb hg hat))
         go_roundg k2
         case measure => have := HJ4.out; have := HK2.out; omega
         case rel => exact ⟨(y111), (wrap64 (x7_2 + 1)), (by first | rfl | (simp; done) | (simp [*]; done)), H', ⟨by have := HJ4.out; have := HK2.out; omega⟩, ⟨by (with_reducible repeat (first | apply zRa | apply zRn | apply zRd)); exact HO113.out⟩, ⟨by repeat (first | (with_reducible first | exact HB.out | apply zba | apply zbn | apply zb1) | exact HB.out)⟩⟩
        rw [if_neg c17] at H
        exact absurd H (by simp)
       rw [if_neg c10] at H
       exact absurd H (by simp)
      rw [if_neg c9] at H
      have c9b0 : decide (x7_2 < (l0.length : Int)) = false := zdf c9
      clear c9
      simp only [Option.some.injEq, Prod.mk.injEq] at H
      obtain ⟨rfl, rfl⟩ := H
      go_wp2
      go_ret2
      exact ⟨_, by first | rfl | (simp [errW_none, errW_some] <;> rfl) | (simp [*, errW_none, errW_some] <;> rfl), by (with_reducible repeat (first | apply zRa | apply zRn | apply zRd)); exact HO_6.out, by repeat (first | (with_reducible first | exact HB.out | apply zba | apply zbn | apply zb1) | exact HB.out)⟩
 rw [if_neg c4] at H
 have c4b0 : (t101 == 0) = false := beq_eq_false_iff_ne.mpr c4
 have c4b1 : (t101 != 0) = true := bne_iff_ne.mpr c4
 replace H := Option.bind_eq_some_iff.mp H
 obtain ⟨t102, A190, H⟩ := H
 replace H : (some (([] : List Int), t102)) = some (r1, r2) := H
 have A19 := zam A190
 clear A190
 simp only [Option.some.injEq, Prod.mk.injEq] at H
 obtain ⟨rfl, rfl⟩ := H
 go_enter Try.func43, Try.ntmps43
 go_wp2_with (first | ((with_reducible refine zgc (f := 88) rfl ?_); refine goesL_ (some 9) rfl rfl Try.func88 (by kernel_rfl) rfl #[.slice A0 l0.length c0] rfl (by (try simp only [zmt, List.map_cons, List.map_nil]); first | done | rfl | (simp only [zld, zlt]; rfl)) ?_; (with_reducible refine (isobathref07_track.calls k _ _ l0 t101 _ ?side1 ?side2 A3.out).mono ?_); (case side1 => repeat (first | exact HR0.out | (with_reducible refine Kd.C_alloc ?_ _) | (with_reducible refine Kd.C_drewN ?_ _) | (with_reducible refine Kd.C_drew ?_))); (case side2 => exact HC0.out); rintro e w20 ⟨rfl, hb⟩; refine ⟨_, rfl, ?_⟩; have n0_ := zam (zbt (by repeat (first | (with_reducible first | exact HB.out | apply zba | apply zbn | apply zb1) | exact HB.out)) hb); clear HB; have HB := n0_; clear n0_; (try clear hb); (try clear hb2); (try clear hk); (try clear hi)) | ((with_reducible refine zgc (f := 88) rfl ?_); refine goesL_ (some 12) rfl rfl Try.func88 (by kernel_rfl) rfl #[.slice A0 l0.length c0] rfl (by (try simp only [zmt, List.map_cons, List.map_nil]); first | done | rfl | (simp only [zld, zlt]; rfl)) ?_; (with_reducible refine (isobathref07_track.calls k _ _ l0 t102 _ ?side1 ?side2 A19.out).mono ?_); (case side1 => repeat (first | exact (Kd.C_below HR0.out HB.out) | (with_reducible refine Kd.C_alloc ?_ _) | (with_reducible refine Kd.C_drewN ?_ _) | (with_reducible refine Kd.C_drew ?_))); (case side2 => exact HC0.out); rintro e w21 ⟨rfl, hb⟩; refine ⟨_, rfl, ?_⟩; have n0_ := zam (zbt (by repeat (first | (with_reducible first | exact HB.out | apply zba | apply zbn | apply zb1) | exact HB.out)) hb); clear HB; have HB := n0_; clear n0_; (try clear hb); (try clear hb2); (try clear hk); (try clear hi)))
 go_ret2
 exact ⟨_, by first | rfl | (simp [errW_none, errW_some] <;> rfl) | (simp [*, errW_none, errW_some] <;> rfl), by first | exact Kd.R_nil _ _ _ _ _ | exact Kd.N_nil _ _ _ _ _ | exact Kd.V_nil _ _ _ _ _ | exact Kd.Q_nil _ _ _ _ _ | exact Kd.S_nil _ _ _ _ _, by repeat (first | (with_reducible first | exact HB.out | apply zba | apply zbn | apply zb1) | exact HB.out)⟩
def isobathref07_answers.l0 : Nat → List Int → Int → Int → Option (Int)
 | 0, _, _, _ => none
 | k + 1, x0, x1, x5 => if x5 < (x0.length : Int) then (if 0 ≤ x5 then (if (rd x0 x5) < 0 then (some 2) else (if (rd x0 x5) > 2 then (some 2) else (isobathref07_answers.l0 k x0 x1 (wrap64 (x5 + 1))))) else (none)) else (if x1 < 1 then (some 3) else (if x1 > 256 then (some 3) else (some 0)))
def isobathref07_answers.f (k : Nat) (l0 : List Int) (a1 : Int) : Option (Int) := if (l0.length : Int) > 256 then (some 6) else (isobathref07_answers.l0 k l0 a1 0)
set_option maxHeartbeats 8000000 in
set_option maxRecDepth 100000 in
theorem isobathref07_answers.calls (k : Nat) (A0 : Option Addr) (c0 : Nat) (l0 : List Int) (a1 : Int) (r : Int) (w : World) (hr0 : Kd.C (Kd.int .i64) w A0 l0.length l0) (hc0 : l0.length ≤ c0) (h : isobathref07_answers.f k l0 a1 = some r) :
  Calls Try.prog 76 #[.slice A0 l0.length c0, .int .i64 a1] w fun e w' => e = .returned (.int .i64 r) ∧ Drawn0 w w' := by
 have HR0 := zam hr0
 have HC0 := zam hc0
 clear hr0 hc0
 have H : (if (l0.length : Int) > 256 then (some 6) else (isobathref07_answers.l0 k l0 a1 0)) = some r := h
 clear h
 by_cases c3 : (l0.length : Int) > 256
 ·rw [if_pos c3] at H
  have c3b0 : decide (256 < (l0.length : Int)) = true := zdt c3
  have c3b1 : decide (256 < l0.length) = true := zdt (by omega)
  clear c3
  obtain rfl := zsi H
  go_enter Try.func76, Try.ntmps76
  go_wp2
  go_ret
  exact ⟨by first | rfl | (simp; done) | (simp [*]; done), by repeat (first | exact Drawn0.refl _ | apply Drawn0.step)⟩
 rw [if_neg c3] at H
 have c3b0 : decide (256 < (l0.length : Int)) = false := zdf c3
 have c3b1 : decide (256 < l0.length) = false := zdf (by omega)
 clear c3
 have H' := zam H
 clear H
 go_enter Try.func76, Try.ntmps76
 go_wp2
 go_loopg [5] k (fun kq v5 w' => ∃ (x5_1 : Int), v5 = .int .i64 x5_1 ∧ Aside0 (isobathref07_answers.l0 kq l0 a1 x5_1 = some r) ∧ Aside0 (kq ≤ k) ∧ Drawn0 w w')
 case atStart => exact ⟨(0), (by first | rfl | (simp; done) | (simp [*]; done)), H', ⟨Nat.le_refl _⟩, by repeat (first | exact Drawn0.refl _ | apply Drawn0.step)⟩
 case round =>
  clear H'
  try clear p2
  try clear c3
  try clear c3b0
  try clear c3b1
  obtain ⟨x5_1, rfl, HA, HK1, ⟨m1, rfl⟩⟩ := hrel
  cases gk with
  | zero => exact absurd HA.out (by simp [isobathref07_answers.l0])
  | succ k1 =>
   have H := HA.out
   clear HA
   simp only [isobathref07_answers.l0] at H
   by_cases c4 : x5_1 < (l0.length : Int)
   ·rw [if_pos c4] at H
    have c4b0 : decide (x5_1 < (l0.length : Int)) = true := zdt c4
    clear c4
    by_cases c5 : 0 ≤ x5_1
    ·rw [if_pos c5] at H
     have c5b0 : decide (0 ≤ x5_1) = true := zdt c5
     clear c5
     by_cases c6 : (rd l0 x5_1) < 0
     ·rw [if_pos c6] at H
      have c6b0 : decide ((rd l0 x5_1) < 0) = true := zdt c6
      clear c6
      obtain rfl := zsi H
      have p101 : 0 ≤ (x5_1 : Int) := zod (by first | (with_reducible assumption) | assumption)
      have q101 : x5_1 < (l0.length : Int) := zod (by first | (with_reducible assumption) | assumption)
      obtain ⟨ad101, e101, hx101_0⟩ := Kd.at_int HR0.out x5_1 p101 q101
      cases e101
      replace p101 := eq_true p101
      replace q101 := eq_true q101
      go_wp2
      go_ret
      exact ⟨by first | rfl | (simp; done) | (simp [*]; done), by repeat (first | exact Drawn0.refl _ | apply Drawn0.step)⟩
     rw [if_neg c6] at H
     have c6b0 : decide ((rd l0 x5_1) < 0) = false := zdf c6
     clear c6
     by_cases c7 : (rd l0 x5_1) > 2
     ·rw [if_pos c7] at H
      have c7b0 : decide (2 < (rd l0 x5_1)) = true := zdt c7
      clear c7
      obtain rfl := zsi H
      have p101 : 0 ≤ (x5_1 : Int) := zod (by first | (with_reducible assumption) | assumption)
      have q101 : x5_1 < (l0.length : Int) := zod (by first | (with_reducible assumption) | assumption)
      obtain ⟨ad101, e101, hx101_0⟩ := Kd.at_int HR0.out x5_1 p101 q101
      cases e101
      replace p101 := eq_true p101
      replace q101 := eq_true q101
      have p102 : 0 ≤ (x5_1 : Int) := zod (by first | (with_reducible assumption) | assumption)
      have q102 : x5_1 < (l0.length : Int) := zod (by first | (with_reducible assumption) | assumption)
      obtain ⟨ad102, e102, hx102_0⟩ := Kd.at_int HR0.out x5_1 p102 q102
      obtain rfl : ad101 = ad102 := (by injection e102)
      replace p102 := eq_true p102
      replace q102 := eq_true q102
      go_wp2
      go_ret
      exact ⟨by first | rfl | (simp; done) | (simp [*]; done), by repeat (first | exact Drawn0.refl _ | apply Drawn0.step)⟩
     rw [if_neg c7] at H
     have c7b0 : decide (2 < (rd l0 x5_1)) = false := zdf c7
     clear c7
     have H' := zam H
     clear H
     have p101 : 0 ≤ (x5_1 : Int) := zod (by first | (with_reducible assumption) | assumption)
     have q101 : x5_1 < (l0.length : Int) := zod (by first | (with_reducible assumption) | assumption)
     obtain ⟨ad101, e101, hx101_0⟩ := Kd.at_int HR0.out x5_1 p101 q101
     cases e101
     replace p101 := eq_true p101
     replace q101 := eq_true q101
     have p102 : 0 ≤ (x5_1 : Int) := zod (by first | (with_reducible assumption) | assumption)
     have q102 : x5_1 < (l0.length : Int) := zod (by first | (with_reducible assumption) | assumption)
     obtain ⟨ad102, e102, hx102_0⟩ := Kd.at_int HR0.out x5_1 p102 q102
     obtain rfl : ad101 = ad102 := (by injection e102)
     replace p102 := eq_true p102
     replace q102 := eq_true q102
     go_wp2
     go_roundg k1
     case measure => have := HK1.out; omega
     case rel => exact ⟨(wrap64 (x5_1 + 1)), (by first | rfl | (simp; done) | (simp [*]; done)), H', ⟨by have := HK1.out; omega⟩, by repeat (first | exact Drawn0.refl _ | apply Drawn0.step)⟩
    rw [if_neg c5] at H
    exact absurd H (by simp)
   rw [if_neg c4] at H
   have c4b0 : decide (x5_1 < (l0.length : Int)) = false := zdf c4
   clear c4
   by_cases c8 : a1 < 1
   ·rw [if_pos c8] at H
    have c8b0 : decide (a1 < 1) = true := zdt c8
    clear c8
    obtain rfl := zsi H
    go_wp2
    go_ret
    exact ⟨by first | rfl | (simp; done) | (simp [*]; done), by repeat (first | exact Drawn0.refl _ | apply Drawn0.step)⟩
   rw [if_neg c8] at H
   have c8b0 : decide (a1 < 1) = false := zdf c8
   clear c8
   by_cases c9 : a1 > 256
   ·rw [if_pos c9] at H
    have c9b0 : decide (256 < a1) = true := zdt c9
    clear c9
    obtain rfl := zsi H
    go_wp2
    go_ret
    exact ⟨by first | rfl | (simp; done) | (simp [*]; done), by repeat (first | exact Drawn0.refl _ | apply Drawn0.step)⟩
   rw [if_neg c9] at H
   have c9b0 : decide (256 < a1) = false := zdf c9
   clear c9
   obtain rfl := zsi H
   go_wp2
   go_ret
   exact ⟨by first | rfl | (simp; done) | (simp [*]; done), by repeat (first | exact Drawn0.refl _ | apply Drawn0.step)⟩
def sound_Calls.f (k : Nat) (l0 : List Bool) (a1 : Int) : Option (Int × Int) := if (l0.length : Int) > 256 then (some (0, 6)) else (if a1 < 1 then (sound_Calls.j0 k l0 a1 0 true) else (sound_Calls.j0 k l0 a1 0 (decide (a1 > 256))))
set_option maxHeartbeats 8000000 in
set_option maxRecDepth 100000 in
theorem sound_Calls.calls (k : Nat) (A0 : Option Addr) (c0 : Nat) (l0 : List Bool) (a1 : Int) (r1 : Int) (r2 : Int) (w : World) (hr0 : Kd.C Kd.bool w A0 l0.length l0) (hc0 : l0.length ≤ c0) (h : sound_Calls.f k l0 a1 = some (r1, r2)) :
  Calls Try.prog 32 #[.slice A0 l0.length c0, .int .i64 a1] w fun e w' => e = .returned (.tuple #[.int .i64 r1, .int .i64 r2]) ∧ Drawn0 w w' := by
 have HR0 := zam hr0
 have HC0 := zam hc0
 clear hr0 hc0
 have H : (if (l0.length : Int) > 256 then (some (0, 6)) else (if a1 < 1 then (sound_Calls.j0 k l0 a1 0 true) else (sound_Calls.j0 k l0 a1 0 (decide (a1 > 256))))) = some (r1, r2) := h
 clear h
 by_cases c3 : (l0.length : Int) > 256
 ·rw [if_pos c3] at H
  have c3b0 : decide (256 < (l0.length : Int)) = true := zdt c3
  have c3b1 : decide (256 < l0.length) = true := zdt (by omega)
  clear c3
  simp only [Option.some.injEq, Prod.mk.injEq] at H
  obtain ⟨rfl, rfl⟩ := H
  go_enter Try.func32, Try.ntmps32
  go_wp2
  go_ret2
  exact ⟨by first | rfl | (simp; done) | (simp [*]; done), by repeat (first | exact Drawn0.refl _ | apply Drawn0.step)⟩
 rw [if_neg c3] at H
 have c3b0 : decide (256 < (l0.length : Int)) = false := zdf c3
 have c3b1 : decide (256 < l0.length) = false := zdf (by omega)
 clear c3
 have HC4 := zam H
 clear H
 go_enter Try.func32, Try.ntmps32
 go_upto_region 3 with (fail)
 go_cut [17] (fun v17 wc => ∃ (kq : Nat) (x17_3 : Bool), v17 = .bool x17_3 ∧ Aside0 (sound_Calls.j0 kq l0 a1 0 x17_3 = some (r1, r2)) ∧ Aside0 (kq ≤ k) ∧ Drawn0 w wc)
 case first =>
  have H := HC4.out
  clear HC4
  by_cases c5 : a1 < 1
  ·rw [if_pos c5] at H
   have c5b0 : decide (a1 < 1) = true := zdt c5
   clear c5
   (first | rw [c5b0] | (simp only [i64_w, i32_w]; rw [c5b0]) | skip)
   have H' := zam H
   clear H
   go_wp2
   go_meet
   case rel => exact ⟨_, (true), (by first | rfl | (simp; done) | (simp [*]; done)), H', ⟨by first | omega | exact Nat.le_refl _⟩, by repeat (first | exact Drawn0.refl _ | apply Drawn0.step)⟩
  rw [if_neg c5] at H
  have c5b0 : decide (a1 < 1) = false := zdf c5
  clear c5
  (first | rw [c5b0] | (simp only [i64_w, i32_w]; rw [c5b0]) | skip)
  have H' := zam H
  clear H
  go_wp2
  go_meet
  case rel => exact ⟨_, (decide (a1 > 256)), (by first | rfl | (simp; done) | (simp [*]; done)), H', ⟨by first | omega | exact Nat.le_refl _⟩, by repeat (first | exact Drawn0.refl _ | apply Drawn0.step)⟩
 case rest =>
  clear HC4
  try clear p2
  try clear c3
  try clear c3b0
  try clear c3b1
  try clear c5
  try clear c5b0
  obtain ⟨kq, x17_3, rfl, HA, HJ3, ⟨mc3, rfl⟩⟩ := hcut
  cases kq with
  | zero => exact absurd HA.out (by simp [sound_Calls.j0])
  | succ kj3 =>
   have H := HA.out
   clear HA
   simp only [sound_Calls.j0] at H
   by_cases c6 : x17_3 = true
   ·subst c6
    have H1 : (some (0, 3)) = some (r1, r2) := by rw [if_pos rfl] at H; exact H
    clear H
    have H := H1
    clear H1
    simp only [Option.some.injEq, Prod.mk.injEq] at H
    obtain ⟨rfl, rfl⟩ := H
    go_wp2
    go_ret2
    exact ⟨by first | rfl | (simp; done) | (simp [*]; done), by repeat (first | exact Drawn0.refl _ | apply Drawn0.step)⟩
   replace c6 := Bool.eq_false_iff.mpr c6
   subst c6
   have H1 : (sound_Calls.l0 kj3 a1 0 0 l0 (l0.length : Int) 0) = some (r1, r2) := by rw [if_neg (show ¬ (false = true) by decide)] at H; exact H
   clear H
   have H := H1
   clear H1
   have H' := zam H
   clear H
   go_wp2
   go_loopg [4, 6, 20] kj3 (fun kq v4 v6 v20 w' => ∃ (x4_2 : Int) (x6_2 : Int) (x20_2 : Int), v4 = .int .i64 x4_2 ∧ v6 = .int .i64 x6_2 ∧ v20 = .int .i64 x20_2 ∧ Aside0 (sound_Calls.l0 kq a1 x4_2 x6_2 l0 (l0.length : Int) x20_2 = some (r1, r2)) ∧ Aside0 (kq ≤ kj3) ∧ Drawn0 w w')
   case atStart => exact ⟨(0), (0), (0), (by first | rfl | (simp; done) | (simp [*]; done)), (by first | rfl | (simp; done) | (simp [*]; done)), (by first | rfl | (simp; done) | (simp [*]; done)), H', ⟨Nat.le_refl _⟩, by repeat (first | exact Drawn0.refl _ | apply Drawn0.step)⟩
   case round =>
    clear H'
    try clear p2
    try clear c3
    try clear c3b0
    try clear c3b1
    try clear c5
    try clear c5b0
    try clear c6
    try clear p2
    obtain ⟨x4_2, x6_2, x20_2, rfl, rfl, rfl, HA, HK2, ⟨m2, rfl⟩⟩ := hrel
    cases gk with
    | zero => exact absurd HA.out (by simp [sound_Calls.l0])
    | succ k2 =>
     have H := HA.out
     clear HA
     simp only [sound_Calls.l0] at H
     by_cases c7 : x20_2 < (l0.length : Int)
     ·rw [if_pos c7] at H
      have c7b0 : decide (x20_2 < (l0.length : Int)) = true := zdt c7
      clear c7
      by_cases c8 : 0 ≤ x20_2
      ·rw [if_pos c8] at H
       have c8b0 : decide (0 ≤ x20_2) = true := zdt c8
       clear c8
       by_cases c9 : x20_2 < (l0.length : Int)
       ·rw [if_pos c9] at H
        have c9b0 : decide (x20_2 < (l0.length : Int)) = true := zdt c9
        clear c9
        obtain ⟨bq10, hbq10⟩ : ∃ b_ : Bool, b_ = (rdOf false l0 x20_2) := ⟨_, rfl⟩
        replace H : (if bq10 = true then (if (wrap64 (x6_2 + 1)) = a1 then (sound_Calls.l0 k2 a1 (wrap64 (x4_2 + 1)) (wrap64 (x6_2 + 1)) l0 (l0.length : Int) (wrap64 (x20_2 + 1))) else (sound_Calls.l0 k2 a1 x4_2 (wrap64 (x6_2 + 1)) l0 (l0.length : Int) (wrap64 (x20_2 + 1)))) else (sound_Calls.l0 k2 a1 x4_2 0 l0 (l0.length : Int) (wrap64 (x20_2 + 1)))) = some (r1, r2) := by rw [← hbq10] at H; exact H
        have Nbq10 := zam hbq10
        clear hbq10
        by_cases c11 : bq10 = true
        ·subst c11
         have H1 : (if (wrap64 (x6_2 + 1)) = a1 then (sound_Calls.l0 k2 a1 (wrap64 (x4_2 + 1)) (wrap64 (x6_2 + 1)) l0 (l0.length : Int) (wrap64 (x20_2 + 1))) else (sound_Calls.l0 k2 a1 x4_2 (wrap64 (x6_2 + 1)) l0 (l0.length : Int) (wrap64 (x20_2 + 1)))) = some (r1, r2) := by rw [if_pos rfl] at H; exact H
         clear H
         have H := H1
         clear H1
         by_cases c12 : (wrap64 (x6_2 + 1)) = a1
         ·rw [if_pos c12] at H
          have c12b0 : ((wrap64 (x6_2 + 1)) == a1) = true := beq_iff_eq.mpr c12
          have c12b1 : ((wrap64 (x6_2 + 1)) != a1) = false := bne_eq_false_iff_eq.mpr c12
          clear c12
          have H' := zam H
          clear H
          have p101 : 0 ≤ (x20_2 : Int) := zod (by first | (with_reducible assumption) | assumption)
          have q101 : x20_2 < (l0.length : Int) := zod (by first | (with_reducible assumption) | assumption)
          obtain ⟨ad101, e101, hx101_0⟩ := Kd.at_bool HR0.out x20_2 p101 q101
          (try rw [← Nbq10.out] at hx101_0)
          cases e101
          replace p101 := eq_true p101
          replace q101 := eq_true q101
          go_wp2
          go_roundg k2
          case measure => have := HJ3.out; have := HK2.out; omega
          case rel => exact ⟨(wrap64 (x4_2 + 1)), (wrap64 (x6_2 + 1)), (wrap64 (x20_2 + 1)), (by first | rfl | (simp; done) | (simp [*]; done)), (by first | rfl | (simp; done) | (simp [*]; done)), (by first | rfl | (simp; done) | (simp [*]; done)), H', ⟨by have := HJ3.out; have := HK2.out; omega⟩, by repeat (first | exact Drawn0.refl _ | apply Drawn0.step)⟩
         rw [if_neg c12] at H
         have c12b0 : ((wrap64 (x6_2 + 1)) == a1) = false := beq_eq_false_iff_ne.mpr c12
         have c12b1 : ((wrap64 (x6_2 + 1)) != a1) = true := bne_iff_ne.mpr c12
         have H' := zam H
         clear H
         have p101 : 0 ≤ (x20_2 : Int) := zod (by first | (with_reducible assumption) | assumption)
         have q101 : x20_2 < (l0.length : Int) := zod (by first | (with_reducible assumption) | assumption)
         obtain ⟨ad101, e101, hx101_0⟩ := Kd.at_bool HR0.out x20_2 p101 q101
         (try rw [← Nbq10.out] at hx101_0)
         cases e101
         replace p101 := eq_true p101
         replace q101 := eq_true q101
         go_wp2
         go_roundg k2
         case measure => have := HJ3.out; have := HK2.out; omega
         case rel => exact ⟨(x4_2), (wrap64 (x6_2 + 1)), (wrap64 (x20_2 + 1)), (by first | rfl | (simp; done) | (simp [*]; done)), (by first | rfl | (simp; done) | (simp [*]; done)), (by first | rfl | (simp; done) | (simp [*]; done)), H', ⟨by have := HJ3.out; have := HK2.out; omega⟩, by repeat (first | exact Drawn0.refl _ | apply Drawn0.step)⟩
        replace c11 := Bool.eq_false_iff.mpr c11
        subst c11
        have H1 : (sound_Calls.l0 k2 a1 x4_2 0 l0 (l0.length : Int) (wrap64 (x20_2 + 1))) = some (r1, r2) := by rw [if_neg (show ¬ (false = true) by decide)] at H; exact H
        clear H
        have H := H1
        clear H1
        have H' := zam H
        clear H
        have p101 : 0 ≤ (x20_2 : Int) := zod (by first | (with_reducible assumption) | assumption)
        have q101 : x20_2 < (l0.length : Int) := zod (by first | (with_reducible assumption) | assumption)
        obtain ⟨ad101, e101, hx101_0⟩ := Kd.at_bool HR0.out x20_2 p101 q101
        (try rw [← Nbq10.out] at hx101_0)
        cases e101
        replace p101 := eq_true p101
        replace q101 := eq_true q101
        go_wp2
        go_roundg k2
        case measure => have := HJ3.out; have := HK2.out; omega
        case rel => exact ⟨(x4_2), (0), (wrap64 (x20_2 + 1)), (by first | rfl | (simp; done) | (simp [*]; done)), (by first | rfl | (simp; done) | (simp [*]; done)), (by first | rfl | (simp; done) | (simp [*]; done)), H', ⟨by have := HJ3.out; have := HK2.out; omega⟩, by repeat (first | exact Drawn0.refl _ | apply Drawn0.step)⟩
       rw [if_neg c9] at H
       exact absurd H (by simp)
      rw [if_neg c8] at H
      exact absurd H (by simp)
     rw [if_neg c7] at H
     have c7b0 : decide (x20_2 < (l0.length : Int)) = false := zdf c7
     clear c7
     simp only [Option.some.injEq, Prod.mk.injEq] at H
     obtain ⟨rfl, rfl⟩ := H
     go_wp2
     go_ret2
     exact ⟨by first | rfl | (simp; done) | (simp [*]; done), by repeat (first | exact Drawn0.refl _ | apply Drawn0.step)⟩
def sound_Loud.l0 : Nat → Int → List Int → List (S24) → Int → Int → Option (List Int × Int)
 | 0, _, _, _, _, _ => none
 | k + 1, x1, x7, x21, x22, x23 => if x23 < x22 then (if 0 ≤ x23 then (if x23 < (x21.length : Int) then (if x23 < (x7.length : Int) then ((some (x7.set (x23 : Int).toNat 1 : List Int)).bind fun y108 => (if ((rd_T24 x21 x23).f0) ≥ x1 then ((some (y108.set (x23 : Int).toNat 2 : List Int)).bind fun y109 => (if ((rd_T24 x21 x23).f1) < x1 then (sound_Loud.l0 k x1 (y109.set (x23 : Int).toNat 0) x21 x22 (wrap64 (x23 + 1))) else (sound_Loud.l0 k x1 y109 x21 x22 (wrap64 (x23 + 1))))) else (if ((rd_T24 x21 x23).f1) < x1 then (sound_Loud.l0 k x1 (y108.set (x23 : Int).toNat 0) x21 x22 (wrap64 (x23 + 1))) else (sound_Loud.l0 k x1 y108 x21 x22 (wrap64 (x23 + 1)))))) else (none)) else (none)) else (none)) else (some (x7, 0))
def sound_Loud.f (k : Nat) (l0 : List (S24)) (a1 : Int) : Option (List Int × Int) := (sound_checkTrack.f k l0).bind fun t101 => (if t101 = 0 then ((sound_between.f a1 (-1073741824) 1073741824).bind fun t102 => (if t102 = true then (if 0 ≤ (l0.length : Int) then (if ((l0.length : Int) : Int).toNat ≤ 35184372088832 then (sound_Loud.l0 k a1 (List.replicate ((l0.length : Int) : Int).toNat 0) l0 (l0.length : Int) 0) else (none)) else (none)) else (some (([] : List Int), 3)))) else (some (([] : List Int), t101)))
set_option maxHeartbeats 8000000 in
set_option maxRecDepth 100000 in
theorem sound_Loud.calls (k : Nat) (A0 : Option Addr) (c0 : Nat) (l0 : List (S24)) (a1 : Int) (r1 : List Int) (r2 : Int) (w : World) (hr0 : Kd.C k24 w A0 l0.length l0) (hc0 : l0.length ≤ c0) (h : sound_Loud.f k l0 a1 = some (r1, r2)) :
  Calls Try.prog 29 #[.slice A0 l0.length c0, .int .i64 a1] w fun e w' => ∃ v0_ : Value, e = .returned (.tuple #[v0_, .int .i64 r2]) ∧ Kd.R (Kd.int .i64) 50 w' w.heap.size (fun _ => True) v0_ r1 ∧ Below w.heap.size w w' := by
 have hu24 := Try.underlying24
 have HR0 := zam hr0
 have HC0 := zam hc0
 clear hr0 hc0
 have HB := zam (Below.refl w.heap.size w)
 have H : ((sound_checkTrack.f k l0).bind fun t101 => (if t101 = 0 then ((sound_between.f a1 (-1073741824) 1073741824).bind fun t102 => (if t102 = true then (if 0 ≤ (l0.length : Int) then (if ((l0.length : Int) : Int).toNat ≤ 35184372088832 then (sound_Loud.l0 k a1 (List.replicate ((l0.length : Int) : Int).toNat 0) l0 (l0.length : Int) 0) else (none)) else (none)) else (some (([] : List Int), 3)))) else (some (([] : List Int), t101)))) = some (r1, r2) := h
 clear h
 replace H := Option.bind_eq_some_iff.mp H
 obtain ⟨t101, A30, H⟩ := H
 replace H : (if t101 = 0 then ((sound_between.f a1 (-1073741824) 1073741824).bind fun t102 => (if t102 = true then (if 0 ≤ (l0.length : Int) then (if ((l0.length : Int) : Int).toNat ≤ 35184372088832 then (sound_Loud.l0 k a1 (List.replicate ((l0.length : Int) : Int).toNat 0) l0 (l0.length : Int) 0) else (none)) else (none)) else (some (([] : List Int), 3)))) else (some (([] : List Int), t101))) = some (r1, r2) := H
 have A3 := zam A30
 clear A30
 by_cases c4 : t101 = 0
 ·rw [if_pos c4] at H
  have c4b0 : (t101 == 0) = true := beq_iff_eq.mpr c4
  have c4b1 : (t101 != 0) = false := bne_eq_false_iff_eq.mpr c4
  clear c4
  replace H := Option.bind_eq_some_iff.mp H
  obtain ⟨t102, A50, H⟩ := H
  replace H : (if t102 = true then (if 0 ≤ (l0.length : Int) then (if ((l0.length : Int) : Int).toNat ≤ 35184372088832 then (sound_Loud.l0 k a1 (List.replicate ((l0.length : Int) : Int).toNat 0) l0 (l0.length : Int) 0) else (none)) else (none)) else (some (([] : List Int), 3))) = some (r1, r2) := H
  have A5 := zam A50
  clear A50
  by_cases c6 : t102 = true
  ·subst c6
   have H1 : (if 0 ≤ (l0.length : Int) then (if ((l0.length : Int) : Int).toNat ≤ 35184372088832 then (sound_Loud.l0 k a1 (List.replicate ((l0.length : Int) : Int).toNat 0) l0 (l0.length : Int) 0) else (none)) else (none)) = some (r1, r2) := by rw [if_pos rfl] at H; exact H
   clear H
   have H := H1
   clear H1
   by_cases c7 : 0 ≤ (l0.length : Int)
   ·rw [if_pos c7] at H
    have c7b0 := eq_true c7
    have c7b1 : decide (0 ≤ (l0.length : Int)) = true := zdt c7
    clear c7
    by_cases c8 : ((l0.length : Int) : Int).toNat ≤ 35184372088832
    ·rw [if_pos c8] at H
     have c8b0 := eq_true c8
     have c8b1 : decide (((l0.length : Int) : Int).toNat ≤ 35184372088832) = true := zdt c8
     clear c8
     obtain ⟨y103, hy103⟩ : ∃ y_ : List Int, y_ = (List.replicate ((l0.length : Int) : Int).toNat 0) := ⟨_, rfl⟩
     replace H : (sound_Loud.l0 k a1 y103 l0 (l0.length : Int) 0) = some (r1, r2) := by first | (rw [hy103]; with_reducible exact H) | (have H2_ := (Option.bind_some _ _).symm.trans H; rw [hy103]; with_reducible exact H2_) | (have H2_ := (Option.bind_some _ _).symm.trans H; with_reducible exact H2_) | with_reducible exact H | (rw [hy103]; exact H) | exact H
     have Ny103 := zam hy103
     clear hy103
     have H' := zam H
     clear H
     go_enter Try.func29, Try.ntmps29
     go_wp2_with (first | ((with_reducible refine zgc (f := 71) rfl ?_); refine goesL_ (some 11) rfl rfl Try.func71 (by kernel_rfl) rfl #[.slice A0 l0.length c0] rfl (by (try simp only [zmt, List.map_cons, List.map_nil]); first | done | rfl | (simp only [zld, zlt]; rfl)) ?_; (with_reducible refine (sound_checkTrack.calls k _ _ l0 t101 _ ?side1 ?side2 A3.out).mono ?_); (case side1 => repeat (first | exact HR0.out | (with_reducible refine Kd.C_alloc ?_ _) | (with_reducible refine Kd.C_drewN ?_ _) | (with_reducible refine Kd.C_drew ?_))); (case side2 => exact HC0.out); rintro e w9 ⟨rfl, hb⟩; refine ⟨_, rfl, ?_⟩; have n0_ := zam (zbt (by repeat (first | (with_reducible first | exact HB.out | apply zba | apply zbn | apply zb1) | exact HB.out)) hb); clear HB; have HB := n0_; clear n0_; (try clear hb); (try clear hb2); (try clear hk); (try clear hi)) | ((with_reducible refine zgc (f := 72) rfl ?_); refine goesL_ (some 16) rfl rfl Try.func72 (by kernel_rfl) rfl #[.int .i64 a1, .int .i64 (-1073741824), .int .i64 1073741824] rfl (by (try simp only [zmt, List.map_cons, List.map_nil]); first | done | rfl | (simp only [zld, zlt]; rfl)) ?_; (with_reducible refine (sound_between.calls a1 (-1073741824) 1073741824 true _ A5.out).mono ?_); rintro e w' ⟨rfl, ⟨nd, rfl⟩⟩; refine ⟨_, rfl, ?_⟩) | ((with_reducible refine zgd (N := 20) rfl ?_); refine Kd.R_make (Kd.int .i64) _ 50 rfl (N := 20) rfl 66 _ _ rfl (l0.length : Int) rfl rfl Try.underlying66 (.int .i64 0) 8 info50 rfl (by decide) (by omega) 0 (ok := fun _ => True) (okp := fun _ => True) rfl (fun _ hk => hk) trivial (zod (by first | (with_reducible assumption) | assumption)) (Nat.le_trans (Nat.mul_le_mul_right _ (zod (by first | (with_reducible assumption) | assumption) : (l0.length : Int).toNat ≤ 35184372088832)) (by omega)) (Below.refl _ _) (Nat.le_refl _) ?_; intro v104 w10 ho11 hb hg_ hnew_; clear hg_ hnew_; (first | rw [← Ny103.out] at ho11 | (simp only [Int.reduceToNat] at ho11; rw [← Ny103.out] at ho11)); have n0_ := zam (Kd.R_lower ho11 (zbz (by repeat (first | (with_reducible first | exact HB.out | apply zba | apply zbn | apply zb1) | exact HB.out)))); have n1_ := zam (zbt (by repeat (first | (with_reducible first | exact HB.out | apply zba | apply zbn | apply zb1) | exact HB.out)) hb); clear HB; have HO105 := n0_; have HB := n1_; clear n0_ n1_; clear hb ho11))
     go_loopg [23] k (fun kq v23 w' => ∃ (x7_1 : List Int) (x23_1 : Int), v23 = .int .i64 x23_1 ∧ Aside0 (sound_Loud.l0 kq a1 x7_1 l0 (l0.length : Int) x23_1 = some (r1, r2)) ∧ Aside0 (kq ≤ k) ∧ Aside0 (Kd.R (Kd.int .i64) 50 w' w.heap.size (fun _ => True) v104 x7_1) ∧ Aside0 (Below w.heap.size w w'))
     case atStart => exact ⟨(y103), (0), (by first | rfl | (simp; done) | (simp [*]; done)), H', ⟨Nat.le_refl _⟩, ⟨by (with_reducible repeat (first | apply zRa | apply zRn | apply zRd)); exact HO105.out⟩, ⟨by repeat (first | (with_reducible first | exact HB.out | apply zba | apply zbn | apply zb1) | exact HB.out)⟩⟩
     case round =>
      clear H'
      try clear c2
      try clear p2
      try clear c4
      try clear c4b0
      try clear c4b1
      try clear c6
      try clear c7
      try clear c7b0
      try clear c7b1
      try clear c8
      try clear c8b0
      try clear c8b1
      obtain ⟨x7_1, x23_1, rfl, HA, HK1, HO_7, HB⟩ := hrel
      cases gk with
      | zero => exact absurd HA.out (by simp [sound_Loud.l0])
      | succ k1 =>
       have H := HA.out
       clear HA
       simp only [sound_Loud.l0] at H
       by_cases c12 : x23_1 < (l0.length : Int)
       ·rw [if_pos c12] at H
        have c12b0 : decide (x23_1 < (l0.length : Int)) = true := zdt c12
        clear c12
        by_cases c13 : 0 ≤ x23_1
        ·rw [if_pos c13] at H
         have c13b0 : decide (0 ≤ x23_1) = true := zdt c13
         clear c13
         by_cases c14 : x23_1 < (l0.length : Int)
         ·rw [if_pos c14] at H
          have c14b0 : decide (x23_1 < (l0.length : Int)) = true := zdt c14
          clear c14
          by_cases c15 : x23_1 < (x7_1.length : Int)
          ·rw [if_pos c15] at H
           have c15b0 : decide (x23_1 < (x7_1.length : Int)) = true := zdt c15
           clear c15
           obtain ⟨y108, hy108⟩ : ∃ y_ : List Int, y_ = (x7_1.set (x23_1 : Int).toNat 1) := ⟨_, rfl⟩
           replace H : (if ((rd_T24 l0 x23_1).f0) ≥ a1 then ((some (y108.set (x23_1 : Int).toNat 2 : List Int)).bind fun y109 => (if ((rd_T24 l0 x23_1).f1) < a1 then (sound_Loud.l0 k1 a1 (y109.set (x23_1 : Int).toNat 0) l0 (l0.length : Int) (wrap64 (x23_1 + 1))) else (sound_Loud.l0 k1 a1 y109 l0 (l0.length : Int) (wrap64 (x23_1 + 1))))) else (if ((rd_T24 l0 x23_1).f1) < a1 then (sound_Loud.l0 k1 a1 (y108.set (x23_1 : Int).toNat 0) l0 (l0.length : Int) (wrap64 (x23_1 + 1))) else (sound_Loud.l0 k1 a1 y108 l0 (l0.length : Int) (wrap64 (x23_1 + 1))))) = some (r1, r2) := by first | (rw [hy108]; with_reducible exact H) | (have H2_ := (Option.bind_some _ _).symm.trans H; rw [hy108]; with_reducible exact H2_) | (have H2_ := (Option.bind_some _ _).symm.trans H; with_reducible exact H2_) | with_reducible exact H | (rw [hy108]; exact H) | exact H
           have Ny108 := zam hy108
           clear hy108
           by_cases c17 : ((rd_T24 l0 x23_1).f0) ≥ a1
           ·rw [if_pos c17] at H
            have c17b0 : decide (a1 ≤ ((rd_T24 l0 x23_1).f0)) = true := zdt c17
            clear c17
            obtain ⟨y109, hy109⟩ : ∃ y_ : List Int, y_ = (y108.set (x23_1 : Int).toNat 2) := ⟨_, rfl⟩
            replace H : (if ((rd_T24 l0 x23_1).f1) < a1 then (sound_Loud.l0 k1 a1 (y109.set (x23_1 : Int).toNat 0) l0 (l0.length : Int) (wrap64 (x23_1 + 1))) else (sound_Loud.l0 k1 a1 y109 l0 (l0.length : Int) (wrap64 (x23_1 + 1)))) = some (r1, r2) := by first | (rw [hy109]; with_reducible exact H) | (have H2_ := (Option.bind_some _ _).symm.trans H; rw [hy109]; with_reducible exact H2_) | (have H2_ := (Option.bind_some _ _).symm.trans H; with_reducible exact H2_) | with_reducible exact H | (rw [hy109]; exact H) | exact H
            have Ny109 := zam hy109
            clear hy109
            by_cases c19 : ((rd_T24 l0 x23_1).f1) < a1
            ·rw [if_pos c19] at H
             have c19b0 : decide (((rd_T24 l0 x23_1).f1) < a1) = true := zdt c19
             clear c19
             obtain ⟨y110, hy110⟩ : ∃ y_ : List Int, y_ = (y109.set (x23_1 : Int).toNat 0) := ⟨_, rfl⟩
             replace H : (sound_Loud.l0 k1 a1 y110 l0 (l0.length : Int) (wrap64 (x23_1 + 1))) = some (r1, r2) := by first | (rw [hy110]; with_reducible exact H) | (have H2_ := (Option.bind_some _ _).symm.trans H; rw [hy110]; with_reducible exact H2_) | (have H2_ := (Option.bind_some _ _).symm.trans H; with_reducible exact H2_) | with_reducible exact H | (rw [hy110]; exact H) | exact H
             have Ny110 := zam hy110
             clear hy110
             have H' := zam H
             clear H
             have p106 : 0 ≤ (x23_1 : Int) := zod (by first | (with_reducible assumption) | assumption)
             have q106 : x23_1 < (l0.length : Int) := zod (by first | (with_reducible assumption) | assumption)
             obtain ⟨ad106, e106, hx106_0, hx106_1⟩ := at_T24 HR0.out x23_1 p106 q106
             cases e106
             replace hx106_0 := (HB.out.cell (zwb w _ hx106_0)).trans hx106_0
             replace hx106_1 := (HB.out.cell (zwb w _ hx106_1)).trans hx106_1
             replace p106 := eq_true p106
             replace q106 := eq_true q106
             go_wp2_with (first | ((with_reducible refine zgd (N := 9) rfl ?_); refine box_event ?hg (N := 9) ?hd (cs := #[.int .i64 0, .int .i64 0]) (t := 24) ?hr ?_; (case hd => rfl); (case hg => rfl); (case hr => first | (go_simp; done) | (go_simp; rfl)); intro gb107 hg w21 hbox hb; have n0_ := zam (Kd.R_below (by (with_reducible repeat (first | apply zRa | apply zRn | apply zRd)); exact HO_7.out) hb); have n1_ := zam (zbt (by repeat (first | (with_reducible first | exact HB.out | apply zba | apply zbn | apply zb1) | exact HB.out)) hb); have n2_ := zam (hbox); have n3_ := zam ((by rw [hg]; exact (zbz (by repeat (first | (with_reducible first | exact HB.out | apply zba | apply zbn | apply zb1) | exact HB.out))) : w.heap.size ≤ gb107)); have n4_ := zam ((by rw [hg]; exact (zbz (by repeat (first | (with_reducible first | exact HB.out | apply zba | apply zbn | apply zb1) | exact HB.out))) : w.heap.size ≤ gb107)); clear HO_7; clear HB; have HO_7 := n0_; have HB := n1_; have BK107 := n2_; have GW107 := n3_; have GE107 := n4_; clear n0_ n1_ n2_ n3_ n4_; clear hb hbox hg; have hcz22_0 : w21.cell? ⟨gb107, 0, none⟩ = some (.int .i64 0) := (zkc BK107.out 0).trans rfl; have hcz22_1 : w21.cell? ⟨gb107, 1, none⟩ = some (.int .i64 0) := (zkc BK107.out 1).trans rfl; have hfz22_0 := zkz BK107.out 0; have hfz22_1 := zkz BK107.out 1) | ((with_reducible refine gate_store (t := 24) (p := 9) rfl ?_); refine store_event (t := 24) (p := 9) (v := ?vo_w23) (w1 := ((w21.setCell ⟨gb107, 0, none⟩ (.int .i64 ((rd_T24 l0 x23_1).f0))).setCell ⟨gb107, 1, none⟩ (.int .i64 ((rd_T24 l0 x23_1).f1)))) ?hg ?ho ?hn ?hr ?_; (case ho => rfl); (case hg => rfl); (case hn => rfl); (case hr => first | (go_simp; done) | (go_simp; rfl)); intro w23 hw; have n0_ : Aside0 (Kd.R (Kd.int .i64) 50 w23 w.heap.size (fun _ => True) v104 x7_1) := ⟨(by rw [hw]; exact (by (with_reducible repeat (first | apply zRa | apply zRn | apply zRd)); exact Kd.R_mono (Kd.R_far (p := ⟨gb107, 1, none⟩) (Kd.R_far (p := ⟨gb107, 0, none⟩) (Kd.R_types HO_7.out BK107.out (by decide)) (fun _ hk => hk.2) (.int .i64 ((rd_T24 l0 x23_1).f0))) (fun _ hk => hk.2) (.int .i64 ((rd_T24 l0 x23_1).f1))) (fun _ hk => trivial)))⟩; have n1_ : Aside0 (w23.heap[gb107]? = some (.cells #[.int .i64 ((rd_T24 l0 x23_1).f0), .int .i64 ((rd_T24 l0 x23_1).f1)] 24 (0, 0))) := ⟨(by rw [hw]; exact (by (with_reducible repeat (first | refine zkn ?_ _ | refine zkd ?_ | refine zka ?_ _)); refine blk_put (cs := #[.int .i64 ((rd_T24 l0 x23_1).f0), .int .i64 0]) ?_ 1 _ rfl; (with_reducible repeat (first | refine zkn ?_ _ | refine zkd ?_ | refine zka ?_ _)); refine blk_put (cs := #[.int .i64 0, .int .i64 0]) ?_ 0 _ rfl; (with_reducible repeat (first | refine zkn ?_ _ | refine zkd ?_ | refine zka ?_ _)); exact BK107.out))⟩; have n2_ : Aside0 (Below w.heap.size w w23) := ⟨(by rw [hw]; exact (by repeat (first | (with_reducible first | exact HB.out | apply zba | apply zbn | apply zb1 | refine zbs ?_ GE107.out) | exact HB.out)))⟩; clear hw; clear HO_7; clear BK107; clear HB; have HO_7 := n0_; have BK107 := n1_; have HB := n2_; clear n0_ n1_ n2_; have p16 : 0 ≤ (x23_1 : Int) := zod (by first | (with_reducible assumption) | assumption); have q16 : (x23_1 : Int) < ((x7_1.length : Int) : Int) := zod (by first | (with_reducible assumption) | assumption); obtain ⟨go16, co16, eo16, gb16, gl16, cl16, HG16⟩ := Kd.R_form HO_7.out (by omega); (first | cases eo16 | (injection eo16 with ea_ en_ ec_; (first | subst ea_ | (injection ea_ with ea_; subst ea_)); subst ec_; clear en_)); have GB16 := zam gb16; have GG16 := zam HG16; clear gb16 gl16 HG16; obtain ⟨hx16_0, hf16_0⟩ := Kd.R_celln 0 HO_7.out (x23_1 : Int) p16 q16; replace p16 := eq_true p16; replace q16 := eq_true q16; obtain ⟨hy24_, hz24_⟩ := Kd.R_celln 0 HO_7.out (x23_1 : Int) (zod (by first | (with_reducible assumption) | assumption)) (zod (by first | (with_reducible assumption) | assumption)); have HP24 := Kd.R_putg HO_7.out (x23_1 : Int) 1) | ((with_reducible refine gate_store (t := 50) (p := 30) rfl ?_); refine store_event (t := 50) (p := 30) (v := ?vo_w25) (w1 := (w23.setCell ⟨go16, (x23_1 : Int).toNat, none⟩ (.int .i64 1))) ?hg ?ho ?hn ?hr ?_; (case ho => rfl); (case hg => rfl); (case hn => rfl); (case hr => first | (go_simp; done) | (go_simp; rfl)); intro w25 hw; have hg : w23.grownBy w25 (some go16) := (by rw [hw]; exact HP24.2); have hp_ : Kd.R (Kd.int .i64) 50 w25 w.heap.size (fun _ => True) (.slice (some ⟨go16, 0, none⟩) x7_1.length co16) y108 := (by rw [hw, Ny108.out]; exact HP24.1); clear HP24; have n0_ := zam (hp_); have n1_ := zam (blk_grown (g := gb107) (o := .cells #[.int .i64 ((rd_T24 l0 x23_1).f0), .int .i64 ((rd_T24 l0 x23_1).f1)] 24 (0, 0)) (by (with_reducible repeat (first | refine zkn ?_ _ | refine zkd ?_ | refine zka ?_ _)); exact BK107.out) hg (Kd.R_ne HO_7.out BK107.out (by decide))); have n2_ := zam ((by rw [hw]; exact zbs (HB.out) GB16.out : Below w.heap.size w w25)); clear HO_7; clear BK107; clear HB; have HO_7 := n0_; have BK107 := n1_; have HB := n2_; clear n0_ n1_ n2_; clear hg hw hp_; have hcz26_0 : w25.cell? ⟨gb107, 0, none⟩ = some (.int .i64 ((rd_T24 l0 x23_1).f0)) := (zkc BK107.out 0).trans rfl; have hcz26_1 : w25.cell? ⟨gb107, 1, none⟩ = some (.int .i64 ((rd_T24 l0 x23_1).f1)) := (zkc BK107.out 1).trans rfl; have hfz26_0 := zkz BK107.out 0; have hfz26_1 := zkz BK107.out 1; have p18 : 0 ≤ (x23_1 : Int) := zod (by first | (with_reducible assumption) | assumption); have q18 : (x23_1 : Int) < ((x7_1.length : Int) : Int) := zod (by first | (with_reducible assumption) | assumption); obtain ⟨hx18_0, hf18_0⟩ := Kd.R_celln 0 HO_7.out (x23_1 : Int) p18 q18; replace p18 := eq_true p18; replace q18 := eq_true q18; obtain ⟨hy27_, hz27_⟩ := Kd.R_celln 0 HO_7.out (x23_1 : Int) (zod (by first | (with_reducible assumption) | assumption)) (zod (by first | (with_reducible assumption) | assumption)); have HP27 := Kd.R_putg HO_7.out (x23_1 : Int) 2) | ((with_reducible refine gate_store (t := 50) (p := 37) rfl ?_); refine store_event (t := 50) (p := 37) (v := ?vo_w28) (w1 := (w25.setCell ⟨go16, (x23_1 : Int).toNat, none⟩ (.int .i64 2))) ?hg ?ho ?hn ?hr ?_; (case ho => rfl); (case hg => rfl); (case hn => rfl); (case hr => first | (go_simp; done) | (go_simp; rfl)); intro w28 hw; have hg : w25.grownBy w28 (some go16) := (by rw [hw]; exact HP27.2); have hp_ : Kd.R (Kd.int .i64) 50 w28 w.heap.size (fun _ => True) (.slice (some ⟨go16, 0, none⟩) x7_1.length co16) y109 := (by rw [hw, Ny109.out]; exact HP27.1); clear HP27; have n0_ := zam (hp_); have n1_ := zam (blk_grown (g := gb107) (o := .cells #[.int .i64 ((rd_T24 l0 x23_1).f0), .int .i64 ((rd_T24 l0 x23_1).f1)] 24 (0, 0)) (by (with_reducible repeat (first | refine zkn ?_ _ | refine zkd ?_ | refine zka ?_ _)); exact BK107.out) hg (Kd.R_ne HO_7.out BK107.out (by decide))); have n2_ := zam ((by rw [hw]; exact zbs (HB.out) GB16.out : Below w.heap.size w w28)); clear HO_7; clear BK107; clear HB; have HO_7 := n0_; have BK107 := n1_; have HB := n2_; clear n0_ n1_ n2_; clear hg hw hp_; have hcz29_0 : w28.cell? ⟨gb107, 0, none⟩ = some (.int .i64 ((rd_T24 l0 x23_1).f0)) := (zkc BK107.out 0).trans rfl; have hcz29_1 : w28.cell? ⟨gb107, 1, none⟩ = some (.int .i64 ((rd_T24 l0 x23_1).f1)) := (zkc BK107.out 1).trans rfl; have hfz29_0 := zkz BK107.out 0; have hfz29_1 := zkz BK107.out 1; have p20 : 0 ≤ (x23_1 : Int) := zod (by first | (with_reducible assumption) | assumption); have q20 : (x23_1 : Int) < ((x7_1.length : Int) : Int) := zod (by first | (with_reducible assumption) | assumption); obtain ⟨hx20_0, hf20_0⟩ := Kd.R_celln 0 HO_7.out (x23_1 : Int) p20 q20; replace p20 := eq_true p20; replace q20 := eq_true q20; obtain ⟨hy30_, hz30_⟩ := Kd.R_celln 0 HO_7.out (x23_1 : Int) (zod (by first | (with_reducible assumption) | assumption)) (zod (by first | (with_reducible assumption) | assumption)); have HP30 := Kd.R_putg HO_7.out (x23_1 : Int) 0) | ((with_reducible refine gate_store (t := 50) (p := 44) rfl ?_); refine store_event (t := 50) (p := 44) (v := ?vo_w31) (w1 := (w28.setCell ⟨go16, (x23_1 : Int).toNat, none⟩ (.int .i64 0))) ?hg ?ho ?hn ?hr ?_; (case ho => rfl); (case hg => rfl); (case hn => rfl); (case hr => first | (go_simp; done) | (go_simp; rfl)); intro w31 hw; have hg : w28.grownBy w31 (some go16) := (by rw [hw]; exact HP30.2); have hp_ : Kd.R (Kd.int .i64) 50 w31 w.heap.size (fun _ => True) (.slice (some ⟨go16, 0, none⟩) x7_1.length co16) y110 := (by rw [hw, Ny110.out]; exact HP30.1); clear HP30; have n0_ := zam (hp_); have n1_ := zam (blk_grown (g := gb107) (o := .cells #[.int .i64 ((rd_T24 l0 x23_1).f0), .int .i64 ((rd_T24 l0 x23_1).f1)] 24 (0, 0)) (by (with_reducible repeat (first | refine zkn ?_ _ | refine zkd ?_ | refine zka ?_ _)); exact BK107.out) hg (Kd.R_ne HO_7.out BK107.out (by decide))); have n2_ := zam ((by rw [hw]; exact zbs (HB.out) GB16.out : Below w.heap.size w w31)); clear HO_7; clear BK107; clear HB; have HO_7 := n0_; have BK107 := n1_; have HB := n2_; clear n0_ n1_ n2_; clear hg hw hp_))
             go_roundg k1
             case measure => have := HK1.out; omega
             case rel => exact ⟨(y110), (wrap64 (x23_1 + 1)), (by first | rfl | (simp; done) | (simp [*]; done)), H', ⟨by have := HK1.out; omega⟩, ⟨by (with_reducible repeat (first | apply zRa | apply zRn | apply zRd)); exact HO_7.out⟩, ⟨by repeat (first | (with_reducible first | exact HB.out | apply zba | apply zbn | apply zb1 | refine zbs ?_ GE107.out) | exact HB.out)⟩⟩
            rw [if_neg c19] at H
            have c19b0 : decide (((rd_T24 l0 x23_1).f1) < a1) = false := zdf c19
            clear c19
            have H' := zam H
            clear H
            have p106 : 0 ≤ (x23_1 : Int) := zod (by first | (with_reducible assumption) | assumption)
            have q106 : x23_1 < (l0.length : Int) := zod (by first | (with_reducible assumption) | assumption)
            obtain ⟨ad106, e106, hx106_0, hx106_1⟩ := at_T24 HR0.out x23_1 p106 q106
            cases e106
            replace hx106_0 := (HB.out.cell (zwb w _ hx106_0)).trans hx106_0
            replace hx106_1 := (HB.out.cell (zwb w _ hx106_1)).trans hx106_1
            replace p106 := eq_true p106
            replace q106 := eq_true q106
            go_wp2_with (first | ((with_reducible refine zgd (N := 9) rfl ?_); refine box_event ?hg (N := 9) ?hd (cs := #[.int .i64 0, .int .i64 0]) (t := 24) ?hr ?_; (case hd => rfl); (case hg => rfl); (case hr => first | (go_simp; done) | (go_simp; rfl)); intro gb107 hg w32 hbox hb; have n0_ := zam (Kd.R_below (by (with_reducible repeat (first | apply zRa | apply zRn | apply zRd)); exact HO_7.out) hb); have n1_ := zam (zbt (by repeat (first | (with_reducible first | exact HB.out | apply zba | apply zbn | apply zb1) | exact HB.out)) hb); have n2_ := zam (hbox); have n3_ := zam ((by rw [hg]; exact (zbz (by repeat (first | (with_reducible first | exact HB.out | apply zba | apply zbn | apply zb1) | exact HB.out))) : w.heap.size ≤ gb107)); have n4_ := zam ((by rw [hg]; exact (zbz (by repeat (first | (with_reducible first | exact HB.out | apply zba | apply zbn | apply zb1) | exact HB.out))) : w.heap.size ≤ gb107)); clear HO_7; clear HB; have HO_7 := n0_; have HB := n1_; have BK107 := n2_; have GW107 := n3_; have GE107 := n4_; clear n0_ n1_ n2_ n3_ n4_; clear hb hbox hg; have hcz33_0 : w32.cell? ⟨gb107, 0, none⟩ = some (.int .i64 0) := (zkc BK107.out 0).trans rfl; have hcz33_1 : w32.cell? ⟨gb107, 1, none⟩ = some (.int .i64 0) := (zkc BK107.out 1).trans rfl; have hfz33_0 := zkz BK107.out 0; have hfz33_1 := zkz BK107.out 1) | ((with_reducible refine gate_store (t := 24) (p := 9) rfl ?_); refine store_event (t := 24) (p := 9) (v := ?vo_w34) (w1 := ((w32.setCell ⟨gb107, 0, none⟩ (.int .i64 ((rd_T24 l0 x23_1).f0))).setCell ⟨gb107, 1, none⟩ (.int .i64 ((rd_T24 l0 x23_1).f1)))) ?hg ?ho ?hn ?hr ?_; (case ho => rfl); (case hg => rfl); (case hn => rfl); (case hr => first | (go_simp; done) | (go_simp; rfl)); intro w34 hw; have n0_ : Aside0 (Kd.R (Kd.int .i64) 50 w34 w.heap.size (fun _ => True) v104 x7_1) := ⟨(by rw [hw]; exact (by (with_reducible repeat (first | apply zRa | apply zRn | apply zRd)); exact Kd.R_mono (Kd.R_far (p := ⟨gb107, 1, none⟩) (Kd.R_far (p := ⟨gb107, 0, none⟩) (Kd.R_types HO_7.out BK107.out (by decide)) (fun _ hk => hk.2) (.int .i64 ((rd_T24 l0 x23_1).f0))) (fun _ hk => hk.2) (.int .i64 ((rd_T24 l0 x23_1).f1))) (fun _ hk => trivial)))⟩; have n1_ : Aside0 (w34.heap[gb107]? = some (.cells #[.int .i64 ((rd_T24 l0 x23_1).f0), .int .i64 ((rd_T24 l0 x23_1).f1)] 24 (0, 0))) := ⟨(by rw [hw]; exact (by (with_reducible repeat (first | refine zkn ?_ _ | refine zkd ?_ | refine zka ?_ _)); refine blk_put (cs := #[.int .i64 ((rd_T24 l0 x23_1).f0), .int .i64 0]) ?_ 1 _ rfl; (with_reducible repeat (first | refine zkn ?_ _ | refine zkd ?_ | refine zka ?_ _)); refine blk_put (cs := #[.int .i64 0, .int .i64 0]) ?_ 0 _ rfl; (with_reducible repeat (first | refine zkn ?_ _ | refine zkd ?_ | refine zka ?_ _)); exact BK107.out))⟩; have n2_ : Aside0 (Below w.heap.size w w34) := ⟨(by rw [hw]; exact (by repeat (first | (with_reducible first | exact HB.out | apply zba | apply zbn | apply zb1 | refine zbs ?_ GE107.out) | exact HB.out)))⟩; clear hw; clear HO_7; clear BK107; clear HB; have HO_7 := n0_; have BK107 := n1_; have HB := n2_; clear n0_ n1_ n2_; have p16 : 0 ≤ (x23_1 : Int) := zod (by first | (with_reducible assumption) | assumption); have q16 : (x23_1 : Int) < ((x7_1.length : Int) : Int) := zod (by first | (with_reducible assumption) | assumption); obtain ⟨go16, co16, eo16, gb16, gl16, cl16, HG16⟩ := Kd.R_form HO_7.out (by omega); (first | cases eo16 | (injection eo16 with ea_ en_ ec_; (first | subst ea_ | (injection ea_ with ea_; subst ea_)); subst ec_; clear en_)); have GB16 := zam gb16; have GG16 := zam HG16; clear gb16 gl16 HG16; obtain ⟨hx16_0, hf16_0⟩ := Kd.R_celln 0 HO_7.out (x23_1 : Int) p16 q16; replace p16 := eq_true p16; replace q16 := eq_true q16; obtain ⟨hy35_, hz35_⟩ := Kd.R_celln 0 HO_7.out (x23_1 : Int) (zod (by first | (with_reducible assumption) | assumption)) (zod (by first | (with_reducible assumption) | assumption)); have HP35 := Kd.R_putg HO_7.out (x23_1 : Int) 1) | ((with_reducible refine gate_store (t := 50) (p := 30) rfl ?_); refine store_event (t := 50) (p := 30) (v := ?vo_w36) (w1 := (w34.setCell ⟨go16, (x23_1 : Int).toNat, none⟩ (.int .i64 1))) ?hg ?ho ?hn ?hr ?_; (case ho => rfl); (case hg => rfl); (case hn => rfl); (case hr => first | (go_simp; done) | (go_simp; rfl)); intro w36 hw; have hg : w34.grownBy w36 (some go16) := (by rw [hw]; exact HP35.2); have hp_ : Kd.R (Kd.int .i64) 50 w36 w.heap.size (fun _ => True) (.slice (some ⟨go16, 0, none⟩) x7_1.length co16) y108 := (by rw [hw, Ny108.out]; exact HP35.1); clear HP35; have n0_ := zam (hp_); have n1_ := zam (blk_grown (g := gb107) (o := .cells #[.int .i64 ((rd_T24 l0 x23_1).f0), .int .i64 ((rd_T24 l0 x23_1).f1)] 24 (0, 0)) (by (with_reducible repeat (first | refine zkn ?_ _ | refine zkd ?_ | refine zka ?_ _)); exact BK107.out) hg (Kd.R_ne HO_7.out BK107.out (by decide))); have n2_ := zam ((by rw [hw]; exact zbs (HB.out) GB16.out : Below w.heap.size w w36)); clear HO_7; clear BK107; clear HB; have HO_7 := n0_; have BK107 := n1_; have HB := n2_; clear n0_ n1_ n2_; clear hg hw hp_; have hcz37_0 : w36.cell? ⟨gb107, 0, none⟩ = some (.int .i64 ((rd_T24 l0 x23_1).f0)) := (zkc BK107.out 0).trans rfl; have hcz37_1 : w36.cell? ⟨gb107, 1, none⟩ = some (.int .i64 ((rd_T24 l0 x23_1).f1)) := (zkc BK107.out 1).trans rfl; have hfz37_0 := zkz BK107.out 0; have hfz37_1 := zkz BK107.out 1; have p18 : 0 ≤ (x23_1 : Int) := zod (by first | (with_reducible assumption) | assumption); have q18 : (x23_1 : Int) < ((x7_1.length : Int) : Int) := zod (by first | (with_reducible assumption) | assumption); obtain ⟨hx18_0, hf18_0⟩ := Kd.R_celln 0 HO_7.out (x23_1 : Int) p18 q18; replace p18 := eq_true p18; replace q18 := eq_true q18; obtain ⟨hy38_, hz38_⟩ := Kd.R_celln 0 HO_7.out (x23_1 : Int) (zod (by first | (with_reducible assumption) | assumption)) (zod (by first | (with_reducible assumption) | assumption)); have HP38 := Kd.R_putg HO_7.out (x23_1 : Int) 2) | ((with_reducible refine gate_store (t := 50) (p := 37) rfl ?_); refine store_event (t := 50) (p := 37) (v := ?vo_w39) (w1 := (w36.setCell ⟨go16, (x23_1 : Int).toNat, none⟩ (.int .i64 2))) ?hg ?ho ?hn ?hr ?_; (case ho => rfl); (case hg => rfl); (case hn => rfl); (case hr => first | (go_simp; done) | (go_simp; rfl)); intro w39 hw; have hg : w36.grownBy w39 (some go16) := (by rw [hw]; exact HP38.2); have hp_ : Kd.R (Kd.int .i64) 50 w39 w.heap.size (fun _ => True) (.slice (some ⟨go16, 0, none⟩) x7_1.length co16) y109 := (by rw [hw, Ny109.out]; exact HP38.1); clear HP38; have n0_ := zam (hp_); have n1_ := zam (blk_grown (g := gb107) (o := .cells #[.int .i64 ((rd_T24 l0 x23_1).f0), .int .i64 ((rd_T24 l0 x23_1).f1)] 24 (0, 0)) (by (with_reducible repeat (first | refine zkn ?_ _ | refine zkd ?_ | refine zka ?_ _)); exact BK107.out) hg (Kd.R_ne HO_7.out BK107.out (by decide))); have n2_ := zam ((by rw [hw]; exact zbs (HB.out) GB16.out : Below w.heap.size w w39)); clear HO_7; clear BK107; clear HB; have HO_7 := n0_; have BK107 := n1_; have HB := n2_; clear n0_ n1_ n2_; clear hg hw hp_; have hcz40_0 : w39.cell? ⟨gb107, 0, none⟩ = some (.int .i64 ((rd_T24 l0 x23_1).f0)) := (zkc BK107.out 0).trans rfl; have hcz40_1 : w39.cell? ⟨gb107, 1, none⟩ = some (.int .i64 ((rd_T24 l0 x23_1).f1)) := (zkc BK107.out 1).trans rfl; have hfz40_0 := zkz BK107.out 0; have hfz40_1 := zkz BK107.out 1))
            go_roundg k1
            case measure => have := HK1.out; omega
            case rel => exact ⟨(y109), (wrap64 (x23_1 + 1)), (by first | rfl | (simp; done) | (simp [*]; done)), H', ⟨by have := HK1.out; omega⟩, ⟨by (with_reducible repeat (first | apply zRa | apply zRn | apply zRd)); exact HO_7.out⟩, ⟨by repeat (first | (with_reducible first | exact HB.out | apply zba | apply zbn | apply zb1 | refine zbs ?_ GE107.out) | exact HB.out)⟩⟩
           rw [if_neg c17] at H
           have c17b0 : decide (a1 ≤ ((rd_T24 l0 x23_1).f0)) = false := zdf c17
           clear c17
           by_cases c41 : ((rd_T24 l0 x23_1).f1) < a1
           ·rw [if_pos c41] at H
            have c41b0 : decide (((rd_T24 l0 x23_1).f1) < a1) = true := zdt c41
            clear c41
            obtain ⟨y111, hy111⟩ : ∃ y_ : List Int, y_ = (y108.set (x23_1 : Int).toNat 0) := ⟨_, rfl⟩
            replace H : (sound_Loud.l0 k1 a1 y111 l0 (l0.length : Int) (wrap64 (x23_1 + 1))) = some (r1, r2) := by first | (rw [hy111]; with_reducible exact H) | (have H2_ := (Option.bind_some _ _).symm.trans H; rw [hy111]; with_reducible exact H2_) | (have H2_ := (Option.bind_some _ _).symm.trans H; with_reducible exact H2_) | with_reducible exact H | (rw [hy111]; exact H) | exact H
            have Ny111 := zam hy111
            clear hy111
            have H' := zam H
            clear H
            have p106 : 0 ≤ (x23_1 : Int) := zod (by first | (with_reducible assumption) | assumption)
            have q106 : x23_1 < (l0.length : Int) := zod (by first | (with_reducible assumption) | assumption)
            obtain ⟨ad106, e106, hx106_0, hx106_1⟩ := at_T24 HR0.out x23_1 p106 q106
            cases e106
            replace hx106_0 := (HB.out.cell (zwb w _ hx106_0)).trans hx106_0
            replace hx106_1 := (HB.out.cell (zwb w _ hx106_1)).trans hx106_1
            replace p106 := eq_true p106
            replace q106 := eq_true q106
            go_wp2_with (first | ((with_reducible refine zgd (N := 9) rfl ?_); refine box_event ?hg (N := 9) ?hd (cs := #[.int .i64 0, .int .i64 0]) (t := 24) ?hr ?_; (case hd => rfl); (case hg => rfl); (case hr => first | (go_simp; done) | (go_simp; rfl)); intro gb107 hg w43 hbox hb; have n0_ := zam (Kd.R_below (by (with_reducible repeat (first | apply zRa | apply zRn | apply zRd)); exact HO_7.out) hb); have n1_ := zam (zbt (by repeat (first | (with_reducible first | exact HB.out | apply zba | apply zbn | apply zb1) | exact HB.out)) hb); have n2_ := zam (hbox); have n3_ := zam ((by rw [hg]; exact (zbz (by repeat (first | (with_reducible first | exact HB.out | apply zba | apply zbn | apply zb1) | exact HB.out))) : w.heap.size ≤ gb107)); have n4_ := zam ((by rw [hg]; exact (zbz (by repeat (first | (with_reducible first | exact HB.out | apply zba | apply zbn | apply zb1) | exact HB.out))) : w.heap.size ≤ gb107)); clear HO_7; clear HB; have HO_7 := n0_; have HB := n1_; have BK107 := n2_; have GW107 := n3_; have GE107 := n4_; clear n0_ n1_ n2_ n3_ n4_; clear hb hbox hg; have hcz44_0 : w43.cell? ⟨gb107, 0, none⟩ = some (.int .i64 0) := (zkc BK107.out 0).trans rfl; have hcz44_1 : w43.cell? ⟨gb107, 1, none⟩ = some (.int .i64 0) := (zkc BK107.out 1).trans rfl; have hfz44_0 := zkz BK107.out 0; have hfz44_1 := zkz BK107.out 1) | ((with_reducible refine gate_store (t := 24) (p := 9) rfl ?_); refine store_event (t := 24) (p := 9) (v := ?vo_w45) (w1 := ((w43.setCell ⟨gb107, 0, none⟩ (.int .i64 ((rd_T24 l0 x23_1).f0))).setCell ⟨gb107, 1, none⟩ (.int .i64 ((rd_T24 l0 x23_1).f1)))) ?hg ?ho ?hn ?hr ?_; (case ho => rfl); (case hg => rfl); (case hn => rfl); (case hr => first | (go_simp; done) | (go_simp; rfl)); intro w45 hw; have n0_ : Aside0 (Kd.R (Kd.int .i64) 50 w45 w.heap.size (fun _ => True) v104 x7_1) := ⟨(by rw [hw]; exact (by (with_reducible repeat (first | apply zRa | apply zRn | apply zRd)); exact Kd.R_mono (Kd.R_far (p := ⟨gb107, 1, none⟩) (Kd.R_far (p := ⟨gb107, 0, none⟩) (Kd.R_types HO_7.out BK107.out (by decide)) (fun _ hk => hk.2) (.int .i64 ((rd_T24 l0 x23_1).f0))) (fun _ hk => hk.2) (.int .i64 ((rd_T24 l0 x23_1).f1))) (fun _ hk => trivial)))⟩; have n1_ : Aside0 (w45.heap[gb107]? = some (.cells #[.int .i64 ((rd_T24 l0 x23_1).f0), .int .i64 ((rd_T24 l0 x23_1).f1)] 24 (0, 0))) := ⟨(by rw [hw]; exact (by (with_reducible repeat (first | refine zkn ?_ _ | refine zkd ?_ | refine zka ?_ _)); refine blk_put (cs := #[.int .i64 ((rd_T24 l0 x23_1).f0), .int .i64 0]) ?_ 1 _ rfl; (with_reducible repeat (first | refine zkn ?_ _ | refine zkd ?_ | refine zka ?_ _)); refine blk_put (cs := #[.int .i64 0, .int .i64 0]) ?_ 0 _ rfl; (with_reducible repeat (first | refine zkn ?_ _ | refine zkd ?_ | refine zka ?_ _)); exact BK107.out))⟩; have n2_ : Aside0 (Below w.heap.size w w45) := ⟨(by rw [hw]; exact (by repeat (first | (with_reducible first | exact HB.out | apply zba | apply zbn | apply zb1 | refine zbs ?_ GE107.out) | exact HB.out)))⟩; clear hw; clear HO_7; clear BK107; clear HB; have HO_7 := n0_; have BK107 := n1_; have HB := n2_; clear n0_ n1_ n2_; have p16 : 0 ≤ (x23_1 : Int) := zod (by first | (with_reducible assumption) | assumption); have q16 : (x23_1 : Int) < ((x7_1.length : Int) : Int) := zod (by first | (with_reducible assumption) | assumption); obtain ⟨go16, co16, eo16, gb16, gl16, cl16, HG16⟩ := Kd.R_form HO_7.out (by omega); (first | cases eo16 | (injection eo16 with ea_ en_ ec_; (first | subst ea_ | (injection ea_ with ea_; subst ea_)); subst ec_; clear en_)); have GB16 := zam gb16; have GG16 := zam HG16; clear gb16 gl16 HG16; obtain ⟨hx16_0, hf16_0⟩ := Kd.R_celln 0 HO_7.out (x23_1 : Int) p16 q16; replace p16 := eq_true p16; replace q16 := eq_true q16; obtain ⟨hy46_, hz46_⟩ := Kd.R_celln 0 HO_7.out (x23_1 : Int) (zod (by first | (with_reducible assumption) | assumption)) (zod (by first | (with_reducible assumption) | assumption)); have HP46 := Kd.R_putg HO_7.out (x23_1 : Int) 1) | ((with_reducible refine gate_store (t := 50) (p := 30) rfl ?_); refine store_event (t := 50) (p := 30) (v := ?vo_w47) (w1 := (w45.setCell ⟨go16, (x23_1 : Int).toNat, none⟩ (.int .i64 1))) ?hg ?ho ?hn ?hr ?_; (case ho => rfl); (case hg => rfl); (case hn => rfl); (case hr => first | (go_simp; done) | (go_simp; rfl)); intro w47 hw; have hg : w45.grownBy w47 (some go16) := (by rw [hw]; exact HP46.2); have hp_ : Kd.R (Kd.int .i64) 50 w47 w.heap.size (fun _ => True) (.slice (some ⟨go16, 0, none⟩) x7_1.length co16) y108 := (by rw [hw, Ny108.out]; exact HP46.1); clear HP46; have n0_ := zam (hp_); have n1_ := zam (blk_grown (g := gb107) (o := .cells #[.int .i64 ((rd_T24 l0 x23_1).f0), .int .i64 ((rd_T24 l0 x23_1).f1)] 24 (0, 0)) (by (with_reducible repeat (first | refine zkn ?_ _ | refine zkd ?_ | refine zka ?_ _)); exact BK107.out) hg (Kd.R_ne HO_7.out BK107.out (by decide))); have n2_ := zam ((by rw [hw]; exact zbs (HB.out) GB16.out : Below w.heap.size w w47)); clear HO_7; clear BK107; clear HB; have HO_7 := n0_; have BK107 := n1_; have HB := n2_; clear n0_ n1_ n2_; clear hg hw hp_; have hcz48_0 : w47.cell? ⟨gb107, 0, none⟩ = some (.int .i64 ((rd_T24 l0 x23_1).f0)) := (zkc BK107.out 0).trans rfl; have hcz48_1 : w47.cell? ⟨gb107, 1, none⟩ = some (.int .i64 ((rd_T24 l0 x23_1).f1)) := (zkc BK107.out 1).trans rfl; have hfz48_0 := zkz BK107.out 0; have hfz48_1 := zkz BK107.out 1; have p42 : 0 ≤ (x23_1 : Int) := zod (by first | (with_reducible assumption) | assumption); have q42 : (x23_1 : Int) < ((x7_1.length : Int) : Int) := zod (by first | (with_reducible assumption) | assumption); obtain ⟨hx42_0, hf42_0⟩ := Kd.R_celln 0 HO_7.out (x23_1 : Int) p42 q42; replace p42 := eq_true p42; replace q42 := eq_true q42; obtain ⟨hy49_, hz49_⟩ := Kd.R_celln 0 HO_7.out (x23_1 : Int) (zod (by first | (with_reducible assumption) | assumption)) (zod (by first | (with_reducible assumption) | assumption)); have HP49 := Kd.R_putg HO_7.out (x23_1 : Int) 0) | ((with_reducible refine gate_store (t := 50) (p := 44) rfl ?_); refine store_event (t := 50) (p := 44) (v := ?vo_w50) (w1 := (w47.setCell ⟨go16, (x23_1 : Int).toNat, none⟩ (.int .i64 0))) ?hg ?ho ?hn ?hr ?_; (case ho => rfl); (case hg => rfl); (case hn => rfl); (case hr => first | (go_simp; done) | (go_simp; rfl)); intro w50 hw; have hg : w47.grownBy w50 (some go16) := (by rw [hw]; exact HP49.2); have hp_ : Kd.R (Kd.int .i64) 50 w50 w.heap.size (fun _ => True) (.slice (some ⟨go16, 0, none⟩) x7_1.length co16) y111 := (by rw [hw, Ny111.out]; exact HP49.1); clear HP49; have n0_ := zam (hp_); have n1_ := zam (blk_grown (g := gb107) (o := .cells #[.int .i64 ((rd_T24 l0 x23_1).f0), .int .i64 ((rd_T24 l0 x23_1).f1)] 24 (0, 0)) (by (with_reducible repeat (first | refine zkn ?_ _ | refine zkd ?_ | refine zka ?_ _)); exact BK107.out) hg (Kd.R_ne HO_7.out BK107.out (by decide))); have n2_ := zam ((by rw [hw]; exact zbs (HB.out) GB16.out : Below w.heap.size w w50)); clear HO_7; clear BK107; clear HB; have HO_7 := n0_; have BK107 := n1_; have HB := n2_; clear n0_ n1_ n2_; clear hg hw hp_))
            go_roundg k1
            case measure => have := HK1.out; omega
            case rel => exact ⟨(y111), (wrap64 (x23_1 + 1)), (by first | rfl | (simp; done) | (simp [*]; done)), H', ⟨by have := HK1.out; omega⟩, ⟨by (with_reducible repeat (first | apply zRa | apply zRn | apply zRd)); exact HO_7.out⟩, ⟨by repeat (first | (with_reducible first | exact HB.out | apply zba | apply zbn | apply zb1 | refine zbs ?_ GE107.out) | exact HB.out)⟩⟩
           rw [if_neg c41] at H
           have c41b0 : decide (((rd_T24 l0 x23_1).f1) < a1) = false := zdf c41
           clear c41
           have H' := zam H
           clear H
           have p106 : 0 ≤ (x23_1 : Int) := zod (by first | (with_reducible assumption) | assumption)
           have q106 : x23_1 < (l0.length : Int) := zod (by first | (with_reducible assumption) | assumption)
           obtain ⟨ad106, e106, hx106_0, hx106_1⟩ := at_T24 HR0.out x23_1 p106 q106
           cases e106
           replace hx106_0 := (HB.out.cell (zwb w _ hx106_0)).trans hx106_0
           replace hx106_1 := (HB.out.cell (zwb w _ hx106_1)).trans hx106_1
           replace p106 := eq_true p106
           replace q106 := eq_true q106
           go_wp2_with (first | ((with_reducible refine zgd (N := 9) rfl ?_); refine box_event ?hg (N := 9) ?hd (cs := #[.int .i64 0, .int .i64 0]) (t := 24) ?hr ?_; (case hd => rfl); (case hg => rfl); (case hr => first | (go_simp; done) | (go_simp; rfl)); intro gb107 hg w51 hbox hb; have n0_ := zam (Kd.R_below (by (with_reducible repeat (first | apply zRa | apply zRn | apply zRd)); exact HO_7.out) hb); have n1_ := zam (zbt (by repeat (first | (with_reducible first | exact HB.out | apply zba | apply zbn | apply zb1) | exact HB.out)) hb); have n2_ := zam (hbox); have n3_ := zam ((by rw [hg]; exact (zbz (by repeat (first | (with_reducible first | exact HB.out | apply zba | apply zbn | apply zb1) | exact HB.out))) : w.heap.size ≤ gb107)); have n4_ := zam ((by rw [hg]; exact (zbz (by repeat (first | (with_reducible first | exact HB.out | apply zba | apply zbn | apply zb1) | exact HB.out))) : w.heap.size ≤ gb107)); clear HO_7; clear HB; have HO_7 := n0_; have HB := n1_; have BK107 := n2_; have GW107 := n3_; have GE107 := n4_; clear n0_ n1_ n2_ n3_ n4_; clear hb hbox hg; have hcz52_0 : w51.cell? ⟨gb107, 0, none⟩ = some (.int .i64 0) := (zkc BK107.out 0).trans rfl; have hcz52_1 : w51.cell? ⟨gb107, 1, none⟩ = some (.int .i64 0) := (zkc BK107.out 1).trans rfl; have hfz52_0 := zkz BK107.out 0; have hfz52_1 := zkz BK107.out 1) | ((with_reducible refine gate_store (t := 24) (p := 9) rfl ?_); refine store_event (t := 24) (p := 9) (v := ?vo_w53) (w1 := ((w51.setCell ⟨gb107, 0, none⟩ (.int .i64 ((rd_T24 l0 x23_1).f0))).setCell ⟨gb107, 1, none⟩ (.int .i64 ((rd_T24 l0 x23_1).f1)))) ?hg ?ho ?hn ?hr ?_; (case ho => rfl); (case hg => rfl); (case hn => rfl); (case hr => first | (go_simp; done) | (go_simp; rfl)); intro w53 hw; have n0_ : Aside0 (Kd.R (Kd.int .i64) 50 w53 w.heap.size (fun _ => True) v104 x7_1) := ⟨(by rw [hw]; exact (by (with_reducible repeat (first | apply zRa | apply zRn | apply zRd)); exact Kd.R_mono (Kd.R_far (p := ⟨gb107, 1, none⟩) (Kd.R_far (p := ⟨gb107, 0, none⟩) (Kd.R_types HO_7.out BK107.out (by decide)) (fun _ hk => hk.2) (.int .i64 ((rd_T24 l0 x23_1).f0))) (fun _ hk => hk.2) (.int .i64 ((rd_T24 l0 x23_1).f1))) (fun _ hk => trivial)))⟩; have n1_ : Aside0 (w53.heap[gb107]? = some (.cells #[.int .i64 ((rd_T24 l0 x23_1).f0), .int .i64 ((rd_T24 l0 x23_1).f1)] 24 (0, 0))) := ⟨(by rw [hw]; exact (by (with_reducible repeat (first | refine zkn ?_ _ | refine zkd ?_ | refine zka ?_ _)); refine blk_put (cs := #[.int .i64 ((rd_T24 l0 x23_1).f0), .int .i64 0]) ?_ 1 _ rfl; (with_reducible repeat (first | refine zkn ?_ _ | refine zkd ?_ | refine zka ?_ _)); refine blk_put (cs := #[.int .i64 0, .int .i64 0]) ?_ 0 _ rfl; (with_reducible repeat (first | refine zkn ?_ _ | refine zkd ?_ | refine zka ?_ _)); exact BK107.out))⟩; have n2_ : Aside0 (Below w.heap.size w w53) := ⟨(by rw [hw]; exact (by repeat (first | (with_reducible first | exact HB.out | apply zba | apply zbn | apply zb1 | refine zbs ?_ GE107.out) | exact HB.out)))⟩; clear hw; clear HO_7; clear BK107; clear HB; have HO_7 := n0_; have BK107 := n1_; have HB := n2_; clear n0_ n1_ n2_; have p16 : 0 ≤ (x23_1 : Int) := zod (by first | (with_reducible assumption) | assumption); have q16 : (x23_1 : Int) < ((x7_1.length : Int) : Int) := zod (by first | (with_reducible assumption) | assumption); obtain ⟨go16, co16, eo16, gb16, gl16, cl16, HG16⟩ := Kd.R_form HO_7.out (by omega); (first | cases eo16 | (injection eo16 with ea_ en_ ec_; (first | subst ea_ | (injection ea_ with ea_; subst ea_)); subst ec_; clear en_)); have GB16 := zam gb16; have GG16 := zam HG16; clear gb16 gl16 HG16; obtain ⟨hx16_0, hf16_0⟩ := Kd.R_celln 0 HO_7.out (x23_1 : Int) p16 q16; replace p16 := eq_true p16; replace q16 := eq_true q16; obtain ⟨hy54_, hz54_⟩ := Kd.R_celln 0 HO_7.out (x23_1 : Int) (zod (by first | (with_reducible assumption) | assumption)) (zod (by first | (with_reducible assumption) | assumption)); have HP54 := Kd.R_putg HO_7.out (x23_1 : Int) 1) | ((with_reducible refine gate_store (t := 50) (p := 30) rfl ?_); refine store_event (t := 50) (p := 30) (v := ?vo_w55) (w1 := (w53.setCell ⟨go16, (x23_1 : Int).toNat, none⟩ (.int .i64 1))) ?hg ?ho ?hn ?hr ?_; (case ho => rfl); (case hg => rfl); (case hn => rfl); (case hr => first | (go_simp; done) | (go_simp; rfl)); intro w55 hw; have hg : w53.grownBy w55 (some go16) := (by rw [hw]; exact HP54.2); have hp_ : Kd.R (Kd.int .i64) 50 w55 w.heap.size (fun _ => True) (.slice (some ⟨go16, 0, none⟩) x7_1.length co16) y108 := (by rw [hw, Ny108.out]; exact HP54.1); clear HP54; have n0_ := zam (hp_); have n1_ := zam (blk_grown (g := gb107) (o := .cells #[.int .i64 ((rd_T24 l0 x23_1).f0), .int .i64 ((rd_T24 l0 x23_1).f1)] 24 (0, 0)) (by (with_reducible repeat (first | refine zkn ?_ _ | refine zkd ?_ | refine zka ?_ _)); exact BK107.out) hg (Kd.R_ne HO_7.out BK107.out (by decide))); have n2_ := zam ((by rw [hw]; exact zbs (HB.out) GB16.out : Below w.heap.size w w55)); clear HO_7; clear BK107; clear HB; have HO_7 := n0_; have BK107 := n1_; have HB := n2_; clear n0_ n1_ n2_; clear hg hw hp_; have hcz56_0 : w55.cell? ⟨gb107, 0, none⟩ = some (.int .i64 ((rd_T24 l0 x23_1).f0)) := (zkc BK107.out 0).trans rfl; have hcz56_1 : w55.cell? ⟨gb107, 1, none⟩ = some (.int .i64 ((rd_T24 l0 x23_1).f1)) := (zkc BK107.out 1).trans rfl; have hfz56_0 := zkz BK107.out 0; have hfz56_1 := zkz BK107.out 1))
           go_roundg k1
           case measure => have := HK1.out; omega
           case rel => exact ⟨(y108), (wrap64 (x23_1 + 1)), (by first | rfl | (simp; done) | (simp [*]; done)), H', ⟨by have := HK1.out; omega⟩, ⟨by (with_reducible repeat (first | apply zRa | apply zRn | apply zRd)); exact HO_7.out⟩, ⟨by repeat (first | (with_reducible first | exact HB.out | apply zba | apply zbn | apply zb1 | refine zbs ?_ GE107.out) | exact HB.out)⟩⟩
          rw [if_neg c15] at H
          exact absurd H (by simp)
         rw [if_neg c14] at H
         exact absurd H (by simp)
        rw [if_neg c13] at H
        exact absurd H (by simp)
       rw [if_neg c12] at H
       have c12b0 : decide (x23_1 < (l0.length : Int)) = false := zdf c12
       clear c12
       simp only [Option.some.injEq, Prod.mk.injEq] at H
       obtain ⟨rfl, rfl⟩ := H
       go_wp2
       go_ret2
       exact ⟨_, by first | rfl | (simp [errW_none, errW_some] <;> rfl) | (simp [*, errW_none, errW_some] <;> rfl), by (with_reducible repeat (first | apply zRa | apply zRn | apply zRd)); exact HO_7.out, by repeat (first | (with_reducible first | exact HB.out | apply zba | apply zbn | apply zb1) | exact HB.out)⟩
    rw [if_neg c8] at H
    exact absurd H (by simp)
   rw [if_neg c7] at H
   exact absurd H (by simp)
  replace c6 := Bool.eq_false_iff.mpr c6
  subst c6
  have H1 : (some (([] : List Int), 3)) = some (r1, r2) := by rw [if_neg (show ¬ (false = true) by decide)] at H; exact H
  clear H
  have H := H1
  clear H1
  simp only [Option.some.injEq, Prod.mk.injEq] at H
  obtain ⟨rfl, rfl⟩ := H
  go_enter Try.func29, Try.ntmps29
  go_wp2_with (first | ((with_reducible refine zgc (f := 71) rfl ?_); refine goesL_ (some 11) rfl rfl Try.func71 (by kernel_rfl) rfl #[.slice A0 l0.length c0] rfl (by (try simp only [zmt, List.map_cons, List.map_nil]); first | done | rfl | (simp only [zld, zlt]; rfl)) ?_; (with_reducible refine (sound_checkTrack.calls k _ _ l0 t101 _ ?side1 ?side2 A3.out).mono ?_); (case side1 => repeat (first | exact HR0.out | (with_reducible refine Kd.C_alloc ?_ _) | (with_reducible refine Kd.C_drewN ?_ _) | (with_reducible refine Kd.C_drew ?_))); (case side2 => exact HC0.out); rintro e w57 ⟨rfl, hb⟩; refine ⟨_, rfl, ?_⟩; have n0_ := zam (zbt (by repeat (first | (with_reducible first | exact HB.out | apply zba | apply zbn | apply zb1) | exact HB.out)) hb); clear HB; have HB := n0_; clear n0_; (try clear hb); (try clear hb2); (try clear hk); (try clear hi)) | ((with_reducible refine zgc (f := 72) rfl ?_); refine goesL_ (some 16) rfl rfl Try.func72 (by kernel_rfl) rfl #[.int .i64 a1, .int .i64 (-1073741824), .int .i64 1073741824] rfl (by (try simp only [zmt, List.map_cons, List.map_nil]); first | done | rfl | (simp only [zld, zlt]; rfl)) ?_; (with_reducible refine (sound_between.calls a1 (-1073741824) 1073741824 false _ A5.out).mono ?_); rintro e w' ⟨rfl, ⟨nd, rfl⟩⟩; refine ⟨_, rfl, ?_⟩))
  go_ret2
  exact ⟨_, by first | rfl | (simp [errW_none, errW_some] <;> rfl) | (simp [*, errW_none, errW_some] <;> rfl), by first | exact Kd.R_nil _ _ _ _ _ | exact Kd.N_nil _ _ _ _ _ | exact Kd.V_nil _ _ _ _ _ | exact Kd.Q_nil _ _ _ _ _ | exact Kd.S_nil _ _ _ _ _, by repeat (first | (with_reducible first | exact HB.out | apply zba | apply zbn | apply zb1) | exact HB.out)⟩
 rw [if_neg c4] at H
 have c4b0 : (t101 == 0) = false := beq_eq_false_iff_ne.mpr c4
 have c4b1 : (t101 != 0) = true := bne_iff_ne.mpr c4
 simp only [Option.some.injEq, Prod.mk.injEq] at H
 obtain ⟨rfl, rfl⟩ := H
 go_enter Try.func29, Try.ntmps29
 go_wp2_with (first | ((with_reducible refine zgc (f := 71) rfl ?_); refine goesL_ (some 11) rfl rfl Try.func71 (by kernel_rfl) rfl #[.slice A0 l0.length c0] rfl (by (try simp only [zmt, List.map_cons, List.map_nil]); first | done | rfl | (simp only [zld, zlt]; rfl)) ?_; (with_reducible refine (sound_checkTrack.calls k _ _ l0 t101 _ ?side1 ?side2 A3.out).mono ?_); (case side1 => repeat (first | exact HR0.out | (with_reducible refine Kd.C_alloc ?_ _) | (with_reducible refine Kd.C_drewN ?_ _) | (with_reducible refine Kd.C_drew ?_))); (case side2 => exact HC0.out); rintro e w58 ⟨rfl, hb⟩; refine ⟨_, rfl, ?_⟩; have n0_ := zam (zbt (by repeat (first | (with_reducible first | exact HB.out | apply zba | apply zbn | apply zb1) | exact HB.out)) hb); clear HB; have HB := n0_; clear n0_; (try clear hb); (try clear hb2); (try clear hk); (try clear hi)))
 go_ret2
 exact ⟨_, by first | rfl | (simp [errW_none, errW_some] <;> rfl) | (simp [*, errW_none, errW_some] <;> rfl), by first | exact Kd.R_nil _ _ _ _ _ | exact Kd.N_nil _ _ _ _ _ | exact Kd.V_nil _ _ _ _ _ | exact Kd.Q_nil _ _ _ _ _ | exact Kd.S_nil _ _ _ _ _, by repeat (first | (with_reducible first | exact HB.out | apply zba | apply zbn | apply zb1) | exact HB.out)⟩
theorem Sp.checkTrack_1 (a b : Int) {k : Nat} (hk : 20 ≤ k) : sound_checkTrack_1.f k a b = some (!decide (Bo.v a b)) := by
 unfold sound_checkTrack_1.f bound_Check.f
 rw [Bo.check1 a b hk]
 by_cases h : Bo.v a b
 ·simp [h]
 simp [h]
theorem Sp.track_l0 (xs : List S24) (hl : xs.length ≤ 9223372036854775807) : ∀ (n k i : Nat), i + n = xs.length → n + 20 < k → ∃ t, slices_IndexFunc_Span_sound_checkTrack_1.l0 k xs (xs.length : Int) (i : Int) = some t ∧ (0 ≤ t ↔ (xs.drop i).any (fun s => !Sp.v s) = true)
 | 0, k, i, hi, hk => by
  obtain ⟨k, rfl⟩ : ∃ m, k = m + 1 := ⟨k - 1, by omega⟩
  rw [slices_IndexFunc_Span_sound_checkTrack_1.l0, if_neg (by omega), List.drop_eq_nil_of_le (by omega)]
  exact ⟨_, rfl, by simp⟩
 | n + 1, k, i, hi, hk => by
  obtain ⟨k, rfl⟩ : ∃ m, k = m + 1 := ⟨k - 1, by omega⟩
  have hlt : i < xs.length := by omega
  rw [slices_IndexFunc_Span_sound_checkTrack_1.l0, if_pos (by omega), if_pos (by omega), if_pos (by omega), Sp.rdT xs i hlt, Sp.checkTrack_1 _ _ (by omega), Option.bind_some, drop_cons hlt, List.any_cons]
  by_cases h : Bo.v xs[i].f0 xs[i].f1
  ·rw [if_neg (by simp [h]), wrap_succ hlt hl]
   obtain ⟨t, e, h2⟩ := Sp.track_l0 xs hl n k (i + 1) (by omega) (by omega)
   exact ⟨t, e, by rw [h2]; simp [Sp.v, h]⟩
  rw [if_pos (by simp [h])]
  exact ⟨_, rfl, by simp [Sp.v, h]⟩
theorem Sp.track_b (l : List S24) {k : Nat} (hk : 300 ≤ k) : sound_checkTrack.f k l = some (Sp.track l) := by
 unfold sound_checkTrack.f Sp.track
 by_cases h : (l.length : Int) > 256
 ·rw [if_pos h, if_pos h]
 rw [if_neg h, if_neg h]
 unfold slices_ContainsFunc_Span_sound_checkTrack_1.f slices_IndexFunc_Span_sound_checkTrack_1.f
 obtain ⟨t, e, h2⟩ := Sp.track_l0 l (by omega) l.length k 0 (by omega) (by omega)
 rw [show (0 : Int) = ((0 : Nat) : Int) from rfl, e, Option.bind_some, Option.bind_some]
 rw [List.drop_zero, Sp.any_not] at h2
 by_cases c : l.all Sp.v = true
 ·rw [if_neg (by simp [c] at h2; simpa using h2), if_pos c]
 rw [if_pos (by simp [c] at h2; simpa using h2), if_neg c]
theorem Sp.track_rl (xs : List S24) (hl : xs.length ≤ 9223372036854775807) : ∀ (n k i : Nat), i + n = xs.length → n < k → isobathref07_track.l0 k xs (i : Int) = some (if (xs.drop i).all Sp.v = true then 0 else 2)
 | 0, k, i, hi, hk => by
  obtain ⟨k, rfl⟩ : ∃ m, k = m + 1 := ⟨k - 1, by omega⟩
  rw [isobathref07_track.l0, if_neg (by omega), List.drop_eq_nil_of_le (by omega)]
  rfl
 | n + 1, k, i, hi, hk => by
  obtain ⟨k, rfl⟩ : ∃ m, k = m + 1 := ⟨k - 1, by omega⟩
  have hlt : i < xs.length := by omega
  rw [isobathref07_track.l0, if_pos (by omega), if_pos (by omega), Sp.rdT xs i hlt, Bo.valid, Option.bind_some, drop_cons hlt, List.all_cons]
  by_cases h : Bo.v xs[i].f0 xs[i].f1
  ·rw [if_pos (by simp [h]), wrap_succ hlt hl, Sp.track_rl xs hl n k (i + 1) (by omega) (by omega)]
   simp [Sp.v, h]
  rw [if_neg (by simp [h]), if_neg (by simp [Sp.v, h])]
theorem Sp.track_r (l : List S24) {k : Nat} (hk : 300 ≤ k) : isobathref07_track.f k l = some (Sp.track l) := by
 unfold isobathref07_track.f Sp.track
 by_cases h : (l.length : Int) > 256
 ·rw [if_pos h, if_pos h]
 rw [if_neg h, if_neg h, show (0 : Int) = ((0 : Nat) : Int) from rfl, Sp.track_rl l (by omega) l.length k 0 (by omega) (by omega), List.drop_zero]
 rfl
theorem Sp.set_mid {α : Type} (xs : List α) (a b : α) (n : Nat) : (xs ++ List.replicate (n + 1) a).set xs.length b = (xs ++ [b]) ++ List.replicate n a := by
 rw [List.set_append_right _ _ (by omega), Nat.sub_self, List.replicate_succ]
 simp
theorem Sp.loud_bl (h : Int) (xs : List S24) (hl : xs.length ≤ 9223372036854775807) (hv : ∀ s ∈ xs, s.f0 ≤ s.f1) : ∀ (n k i : Nat), i + n = xs.length → n < k → sound_Loud.l0 k h ((xs.take i).map (Sp.loud1 h) ++ List.replicate n 0) xs (xs.length : Int) (i : Int) = some (xs.map (Sp.loud1 h), 0)
 | 0, k, i, hi, hk => by
  obtain ⟨k, rfl⟩ : ∃ m, k = m + 1 := ⟨k - 1, by omega⟩
  rw [sound_Loud.l0, if_neg (by omega), List.take_of_length_le (by omega)]
  simp
 | n + 1, k, i, hi, hk => by
  obtain ⟨k, rfl⟩ : ∃ m, k = m + 1 := ⟨k - 1, by omega⟩
  have hlt : i < xs.length := by omega
  have hlen : ((xs.take i).map (Sp.loud1 h)).length = i := by simp; omega
  have ih := Sp.loud_bl h xs hl hv n k (i + 1) (by omega) (by omega)
  have hvi := hv xs[i] (List.getElem_mem hlt)
  rw [take_snoc hlt, List.map_append, List.map_cons, List.map_nil] at ih
  have st : ∀ (b c : Int), (((xs.take i).map (Sp.loud1 h) ++ List.replicate (n + 1) 0).set ((i : Int)).toNat b) = ((xs.take i).map (Sp.loud1 h) ++ [b]) ++ List.replicate n 0 := fun b c => by
   have := Sp.set_mid ((xs.take i).map (Sp.loud1 h)) (0 : Int) b n
   rw [hlen] at this
   simpa using this
  have st2 : ∀ (a b : Int), ((((xs.take i).map (Sp.loud1 h) ++ [a]) ++ List.replicate n 0).set ((i : Int)).toNat b) = ((xs.take i).map (Sp.loud1 h) ++ [b]) ++ List.replicate n 0 := fun a b => by
   rw [List.append_assoc, List.set_append_right _ _ (by rw [hlen]; omega), hlen]
   simp
  rw [sound_Loud.l0, if_pos (by omega), if_pos (by omega), if_pos (by omega), if_pos (by simp; omega), Option.bind_some, Sp.rdT xs i hlt, st 1 0, wrap_succ hlt hl]
  have L : Sp.loud1 h xs[i] = if xs[i].f1 < h then 0 else if xs[i].f0 ≥ h then 2 else 1 := rfl
  rw [L] at ih
  by_cases c1 : xs[i].f0 ≥ h
  ·have c2 : ¬ xs[i].f1 < h := by omega
   rw [if_pos c1, Option.bind_some, if_neg c2, st2 1 2]
   rw [if_neg c2, if_pos c1] at ih
   exact ih
  rw [if_neg c1]
  by_cases c2 : xs[i].f1 < h
  ·rw [if_pos c2, st2 1 0]
   rw [if_pos c2] at ih
   exact ih
  rw [if_neg c2]
  rw [if_neg c2, if_neg c1] at ih
  exact ih
theorem Sp.track_ok {l : List S24} (h : Sp.track l = 0) : l.length ≤ 256 ∧ ∀ s ∈ l, Bo.v s.f0 s.f1 := by
 unfold Sp.track at h
 split at h
 ·cases h
 split at h
 ·next h1 h2 =>
  refine ⟨by omega, fun s hs => ?_⟩
  have := List.all_eq_true.1 h2 s hs
  simpa [Sp.v] using this
 cases h
theorem Sp.between (x lo hi : Int) : sound_between.f x lo hi = some (decide (lo ≤ x ∧ x ≤ hi)) := by
 unfold sound_between.f
 by_cases h : lo ≤ x
 ·rw [if_pos (by omega)]
  simp [h]
 rw [if_neg (by omega)]
 simp [h]
theorem Sp.loud_b (l : List S24) (h : Int) {k : Nat} (hk : 300 ≤ k) : sound_Loud.f k l h = some (Sp.loud l h) := by
 unfold sound_Loud.f Sp.loud
 rw [Sp.track_b l hk, Option.bind_some]
 by_cases c : Sp.track l = 0
 ·rw [if_pos c, if_pos c, Sp.between, Option.bind_some]
  obtain ⟨h1, h2⟩ := Sp.track_ok c
  by_cases d : -1073741824 ≤ h ∧ h ≤ 1073741824
  ·rw [if_pos (by simpa using d), if_pos d, if_pos (by omega), if_pos (by simp; omega)]
   have := Sp.loud_bl h l (by omega) (fun s hs => (h2 s hs).1) l.length k 0 (by omega) (by omega)
   simpa using this
  rw [if_neg (by simpa using d), if_neg d]
 rw [if_neg c, if_neg c]
theorem Sp.loud_rl (h : Int) (xs : List S24) (hl : xs.length ≤ 256) (hv : ∀ s ∈ xs, s.f0 ≤ s.f1) : ∀ (n k i : Nat), i + n = xs.length → n < k → isobathref07_Loud.l0 k xs h ((xs.take i).map (Sp.loud1 h)) (i : Int) = some (xs.map (Sp.loud1 h), 0)
 | 0, k, i, hi, hk => by
  obtain ⟨k, rfl⟩ : ∃ m, k = m + 1 := ⟨k - 1, by omega⟩
  rw [isobathref07_Loud.l0, if_neg (by omega), List.take_of_length_le (by omega)]
 | n + 1, k, i, hi, hk => by
  obtain ⟨k, rfl⟩ : ∃ m, k = m + 1 := ⟨k - 1, by omega⟩
  have hlt : i < xs.length := by omega
  have hlen : ((xs.take i).map (Sp.loud1 h)).length = i := by simp; omega
  have ih := Sp.loud_rl h xs hl hv n k (i + 1) (by omega) (by omega)
  have hvi := hv xs[i] (List.getElem_mem hlt)
  rw [take_snoc hlt, List.map_append, List.map_cons, List.map_nil] at ih
  have hsm : ((xs.take i).map (Sp.loud1 h)).length < 17592186044416 := by omega
  rw [isobathref07_Loud.l0, if_pos (by omega), if_pos (by omega), Sp.rdT xs i hlt, wrap_succ hlt (by omega)]
  have L : Sp.loud1 h xs[i] = if xs[i].f1 < h then 0 else if xs[i].f0 ≥ h then 2 else 1 := rfl
  rw [L] at ih
  by_cases c1 : xs[i].f0 ≥ h
  ·have c2 : ¬ xs[i].f1 < h := by omega
   rw [if_pos c1, if_pos hsm]
   rw [if_neg c2, if_pos c1] at ih
   exact ih
  rw [if_neg c1]
  by_cases c2 : xs[i].f1 < h
  ·rw [if_pos c2, if_pos hsm]
   rw [if_pos c2] at ih
   exact ih
  rw [if_neg c2, if_pos hsm]
  rw [if_neg c2, if_neg c1] at ih
  exact ih
theorem Sp.loud_r (l : List S24) (h : Int) {k : Nat} (hk : 301 ≤ k) : isobathref07_Loud.f k l h = some (Sp.loud l h) := by
 obtain ⟨k, rfl⟩ : ∃ m, k = m + 1 := ⟨k - 1, by omega⟩
 unfold isobathref07_Loud.f Sp.loud
 rw [Sp.track_r l (by omega), Option.bind_some, Option.bind_some]
 by_cases c : Sp.track l = 0
 ·rw [if_pos c, if_pos c]
  obtain ⟨h1, h2⟩ := Sp.track_ok c
  by_cases d1 : h < -1073741824
  ·rw [if_pos d1, if_neg (by omega), isobathref07_Loud.j0, if_pos rfl]
  rw [if_neg d1, isobathref07_Loud.j0]
  by_cases d2 : h > 1073741824
  ·rw [if_pos (by simpa using d2), if_neg (by omega)]
  rw [if_neg (by simpa using d2), if_pos (by omega)]
  have := Sp.loud_rl h l h1 (fun s hs => (h2 s hs).1) l.length k 0 (by omega) (by omega)
  simpa using this
 rw [if_neg c, if_neg c]
theorem Sp.rdb (xs : List Bool) (i : Nat) (h : i < xs.length) : rdOf false xs (i : Int) = xs[i] := by simp [rdOf, List.getD, h]
theorem Sp.calls_bl (m : Int) (xs : List Bool) (hl : xs.length ≤ 9223372036854775) : ∀ (n k i : Nat) (c r : Int), i + n = xs.length → n < k → 0 ≤ c → c ≤ i → 0 ≤ r → r ≤ i → sound_Calls.l0 k m c r xs (xs.length : Int) (i : Int) = some (c + Sp.cnt m r (xs.drop i), 0)
 | 0, k, i, c, r, hi, hk, hc, hc', hr, hr' => by
  obtain ⟨k, rfl⟩ : ∃ m, k = m + 1 := ⟨k - 1, by omega⟩
  rw [sound_Calls.l0, if_neg (by omega), List.drop_eq_nil_of_le (by omega), Sp.cnt]
  simp
 | n + 1, k, i, c, r, hi, hk, hc, hc', hr, hr' => by
  obtain ⟨k, rfl⟩ : ∃ m, k = m + 1 := ⟨k - 1, by omega⟩
  have hlt : i < xs.length := by omega
  rw [sound_Calls.l0, if_pos (by omega), if_pos (by omega), if_pos (by omega), Sp.rdb xs i hlt, wrap_succ hlt (by omega), drop_cons hlt, wrap_id (n := r + 1) (by omega) (by omega), wrap_id (n := c + 1) (by omega) (by omega)]
  cases hx : xs[i]
  ·rw [if_neg (by decide), Sp.calls_bl m xs hl n k (i + 1) c 0 (by omega) (by omega) hc (by omega) (by omega) (by omega), Sp.cnt]
  rw [if_pos rfl, Sp.cnt]
  by_cases e : r + 1 = m
  ·rw [if_pos e, if_pos e, Sp.calls_bl m xs hl n k (i + 1) (c + 1) (r + 1) (by omega) (by omega) (by omega) (by omega) (by omega) (by omega), Int.add_assoc]
  rw [if_neg e, if_neg e, Sp.calls_bl m xs hl n k (i + 1) c (r + 1) (by omega) (by omega) (by omega) (by omega) (by omega) (by omega), Int.zero_add]
theorem Sp.calls_rl (m : Int) (xs : List Bool) (hl : xs.length ≤ 9223372036854775) : ∀ (n k i : Nat) (c r : Int), i + n = xs.length → n < k → 0 ≤ c → c ≤ i → 0 ≤ r → r ≤ i → isobathref07_calls.l0 k xs m c r (i : Int) = some (c + Sp.cnt m r (xs.drop i))
 | 0, k, i, c, r, hi, hk, hc, hc', hr, hr' => by
  obtain ⟨k, rfl⟩ : ∃ m, k = m + 1 := ⟨k - 1, by omega⟩
  rw [isobathref07_calls.l0, if_neg (by omega), List.drop_eq_nil_of_le (by omega), Sp.cnt]
  simp
 | n + 1, k, i, c, r, hi, hk, hc, hc', hr, hr' => by
  obtain ⟨k, rfl⟩ : ∃ m, k = m + 1 := ⟨k - 1, by omega⟩
  have hlt : i < xs.length := by omega
  rw [isobathref07_calls.l0, if_pos (by omega), if_pos (by omega), Sp.rdb xs i hlt, wrap_succ hlt (by omega), drop_cons hlt, wrap_id (n := r + 1) (by omega) (by omega), wrap_id (n := c + 1) (by omega) (by omega)]
  cases hx : xs[i]
  ·rw [if_neg (by decide), Sp.calls_rl m xs hl n k (i + 1) c 0 (by omega) (by omega) hc (by omega) (by omega) (by omega), Sp.cnt]
  rw [if_pos rfl, Sp.cnt]
  by_cases e : r + 1 = m
  ·rw [if_pos e, if_pos e, Sp.calls_rl m xs hl n k (i + 1) (c + 1) (r + 1) (by omega) (by omega) (by omega) (by omega) (by omega) (by omega), Int.add_assoc]
  rw [if_neg e, if_neg e, Sp.calls_rl m xs hl n k (i + 1) c (r + 1) (by omega) (by omega) (by omega) (by omega) (by omega) (by omega), Int.zero_add]
theorem Sp.calls_b (l : List Bool) (n : Int) {k : Nat} (hk : 301 ≤ k) : sound_Calls.f k l n = some (Sp.calls l n) := by
 obtain ⟨k, rfl⟩ : ∃ m, k = m + 1 := ⟨k - 1, by omega⟩
 unfold sound_Calls.f Sp.calls
 by_cases h : (l.length : Int) > 256
 ·rw [if_pos h, if_pos h]
 rw [if_neg h, if_neg h]
 have hb := Sp.calls_bl n l (by omega) l.length k 0 0 0 (by omega) (by omega) (by omega) (by omega) (by omega) (by omega)
 rw [List.drop_zero, Int.zero_add] at hb
 by_cases c1 : n < 1
 ·rw [if_pos c1, if_pos (.inl c1), sound_Calls.j0, if_pos rfl]
 rw [if_neg c1, sound_Calls.j0]
 by_cases c2 : n > 256
 ·rw [if_pos (by simpa using c2), if_pos (.inr c2)]
 rw [if_neg (by simpa using c2), if_neg (by omega)]
 exact hb
theorem Sp.calls_r (l : List Bool) (n : Int) {k : Nat} (hk : 301 ≤ k) : isobathref07_Calls.f k l n = some (Sp.calls l n) := by
 unfold isobathref07_Calls.f Sp.calls isobathref07_calls.f
 by_cases h : (l.length : Int) > 256
 ·rw [if_pos h, if_pos h]
 rw [if_neg h, if_neg h]
 have hb := Sp.calls_rl n l (by omega) l.length k 0 0 0 (by omega) (by omega) (by omega) (by omega) (by omega) (by omega)
 rw [List.drop_zero, Int.zero_add] at hb
 by_cases c1 : n < 1
 ·rw [if_pos c1, if_pos (.inl c1)]
 rw [if_neg c1]
 by_cases c2 : n > 256
 ·rw [if_pos c2, if_pos (.inr c2)]
 rw [if_neg c2, if_neg (by omega)]
 exact congrArg (fun o => Option.bind o fun t => some (t, (0 : Int))) hb
theorem Sp.ans_rl (m : Int) (xs : List Int) (hl : xs.length ≤ 9223372036854775807) : ∀ (n k i : Nat), i + n = xs.length → n < k → isobathref07_answers.l0 k xs m (i : Int) = some (if (xs.drop i).all Sp.aOk = true then (if m < 1 ∨ m > 256 then 3 else 0) else 2)
 | 0, k, i, hi, hk => by
  obtain ⟨k, rfl⟩ : ∃ m, k = m + 1 := ⟨k - 1, by omega⟩
  rw [isobathref07_answers.l0, if_neg (by omega), List.drop_eq_nil_of_le (by omega), List.all_nil, if_pos (rfl : true = true)]
  by_cases c1 : m < 1
  ·rw [if_pos c1, if_pos (.inl c1)]
  rw [if_neg c1]
  by_cases c2 : m > 256
  ·rw [if_pos c2, if_pos (.inr c2)]
  rw [if_neg c2, if_neg (by omega)]
 | n + 1, k, i, hi, hk => by
  obtain ⟨k, rfl⟩ : ∃ m, k = m + 1 := ⟨k - 1, by omega⟩
  have hlt : i < xs.length := by omega
  rw [isobathref07_answers.l0, if_pos (by omega), if_pos (by omega), rd_nat hlt, drop_cons hlt, List.all_cons]
  by_cases h1 : xs[i] < 0
  ·have : Sp.aOk xs[i] = false := by unfold Sp.aOk; simp; omega
   rw [if_pos h1, this, if_neg (by simp)]
  rw [if_neg h1]
  by_cases h2 : xs[i] > 2
  ·have : Sp.aOk xs[i] = false := by unfold Sp.aOk; simp; omega
   rw [if_pos h2, this, if_neg (by simp)]
  have : Sp.aOk xs[i] = true := by unfold Sp.aOk; simp; omega
  rw [if_neg h2, this, wrap_succ hlt hl, Sp.ans_rl m xs hl n k (i + 1) (by omega) (by omega), Bool.true_and]
theorem Sp.ans_r (l : List Int) (n : Int) {k : Nat} (hk : 300 ≤ k) : isobathref07_answers.f k l n = some (Sp.ans l n) := by
 unfold isobathref07_answers.f Sp.ans
 by_cases h : (l.length : Int) > 256
 ·rw [if_pos h, if_pos h]
 rw [if_neg h, if_neg h, show (0 : Int) = ((0 : Nat) : Int) from rfl, Sp.ans_rl n l (by omega) l.length k 0 (by omega) (by omega), List.drop_zero]
 rfl
def isobathref07_Choice.f (k : Nat) (l0 : List Int) (a1 : Int) : Option (Int) := (isobathref07_answers.f k l0 a1).bind fun t101 => (some t101)
set_option maxHeartbeats 8000000 in
set_option maxRecDepth 100000 in
theorem isobathref07_Choice.calls (k : Nat) (A0 : Option Addr) (c0 : Nat) (l0 : List Int) (a1 : Int) (r : Int) (w : World) (hr0 : Kd.C (Kd.int .i64) w A0 l0.length l0) (hc0 : l0.length ≤ c0) (h : isobathref07_Choice.f k l0 a1 = some r) :
  Calls Try.prog 31 #[.slice A0 l0.length c0, .int .i64 a1] w fun e w' => e = .returned (.int .i64 r) ∧ Drawn0 w w' := by
 have HR0 := zam hr0
 have HC0 := zam hc0
 clear hr0 hc0
 have H : ((isobathref07_answers.f k l0 a1).bind fun t101 => (some t101)) = some r := h
 clear h
 replace H := Option.bind_eq_some_iff.mp H
 obtain ⟨t101, A30, H⟩ := H
 replace H : (some t101) = some r := H
 have A3 := zam A30
 clear A30
 obtain rfl := zsi H
 go_enter Try.func31, Try.ntmps31
 go_wp2_with (first | ((with_reducible refine zgc (f := 76) rfl ?_); refine goesL_ (some 7) rfl rfl Try.func76 (by kernel_rfl) rfl #[.slice A0 l0.length c0, .int .i64 a1] rfl (by (try simp only [zmt, List.map_cons, List.map_nil]); first | done | rfl | (simp only [zld, zlt]; rfl)) ?_; (with_reducible refine (isobathref07_answers.calls k _ _ l0 a1 t101 _ ?side1 ?side2 A3.out).mono ?_); (case side1 => repeat (first | exact HR0.out | (with_reducible refine Kd.C_alloc ?_ _) | (with_reducible refine Kd.C_drewN ?_ _) | (with_reducible refine Kd.C_drew ?_))); (case side2 => exact HC0.out); rintro e w' ⟨rfl, ⟨nd, rfl⟩⟩; refine ⟨_, rfl, ?_⟩))
 go_ret
 exact ⟨by first | rfl | (simp; done) | (simp [*]; done), by repeat (first | exact Drawn0.refl _ | apply Drawn0.step)⟩
def isobathref07_extreme.f (k : Nat) (l0 : List Int) (a1 : Int) (a2 : Bool) : Option (Int) := if 0 ≤ (wrap64 (a1 + 1)) then (if (wrap64 (a1 + 1) : Int).toNat ≤ 35184372088832 then (isobathref07_extreme.l0 k l0 a1 a2 (List.replicate (wrap64 (a1 + 1) : Int).toNat 0) (wrap64 ((l0.length : Int) - 1))) else (none)) else (none)
theorem isobathref07_extreme.mono_l : ∀ k, (∀ y0 y1 y2 y3 y4, LeO (isobathref07_extreme.l0 k y0 y1 y2 y3 y4) (isobathref07_extreme.l0 (k + 1) y0 y1 y2 y3 y4)) ∧ (∀ y0 y1 y2 y3 y4 y5 y6, LeO (isobathref07_extreme.l1 k y0 y1 y2 y3 y4 y5 y6) (isobathref07_extreme.l1 (k + 1) y0 y1 y2 y3 y4 y5 y6)) ∧ (∀ y0 y1 y2 y3 y4 y5 y6 y7, LeO (isobathref07_extreme.j2 k y0 y1 y2 y3 y4 y5 y6 y7) (isobathref07_extreme.j2 (k + 1) y0 y1 y2 y3 y4 y5 y6 y7))
 | 0 => ⟨fun _ _ _ _ _ r h => by simp [isobathref07_extreme.l0] at h, fun _ _ _ _ _ _ _ r h => by simp [isobathref07_extreme.l1] at h, fun _ _ _ _ _ _ _ _ r h => by simp [isobathref07_extreme.j2] at h⟩
 | k + 1 => by
  obtain ⟨ih0, ih1, ih2⟩ := isobathref07_extreme.mono_l k
  refine ⟨?_, ?_, ?_⟩
  ·intro y0 y1 y2 y3 y4
   unfold isobathref07_extreme.l0
   repeat' first
   | (with_reducible exact ih0 _ _ _ _ _)
   | (with_reducible exact ih1 _ _ _ _ _ _ _)
   | (with_reducible exact ih2 _ _ _ _ _ _ _ _)
   | (with_reducible exact LeO.refl _)
   | (with_reducible exact LeO.none _)
   | (with_reducible refine LeO.ite ?_ ?_)
   | (with_reducible refine LeO.bind ?_ (fun _ => ?_))
   | exact ih0 _ _ _ _ _
   | exact ih1 _ _ _ _ _ _ _
   | exact ih2 _ _ _ _ _ _ _ _
   | exact LeO.none _
   | refine LeO.ite ?_ ?_
   | refine LeO.bind ?_ (fun _ => ?_)
  ·intro y0 y1 y2 y3 y4 y5 y6
   unfold isobathref07_extreme.l1
   repeat' first
   | (with_reducible exact ih0 _ _ _ _ _)
   | (with_reducible exact ih1 _ _ _ _ _ _ _)
   | (with_reducible exact ih2 _ _ _ _ _ _ _ _)
   | (with_reducible exact LeO.refl _)
   | (with_reducible exact LeO.none _)
   | (with_reducible refine LeO.ite ?_ ?_)
   | (with_reducible refine LeO.bind ?_ (fun _ => ?_))
   | exact ih0 _ _ _ _ _
   | exact ih1 _ _ _ _ _ _ _
   | exact ih2 _ _ _ _ _ _ _ _
   | exact LeO.none _
   | refine LeO.ite ?_ ?_
   | refine LeO.bind ?_ (fun _ => ?_)
  intro y0 y1 y2 y3 y4 y5 y6 y7
  unfold isobathref07_extreme.j2
  repeat' first
  | (with_reducible exact ih0 _ _ _ _ _)
  | (with_reducible exact ih1 _ _ _ _ _ _ _)
  | (with_reducible exact ih2 _ _ _ _ _ _ _ _)
  | (with_reducible exact LeO.refl _)
  | (with_reducible exact LeO.none _)
  | (with_reducible refine LeO.ite ?_ ?_)
  | (with_reducible refine LeO.bind ?_ (fun _ => ?_))
  | exact ih0 _ _ _ _ _
  | exact ih1 _ _ _ _ _ _ _
  | exact ih2 _ _ _ _ _ _ _ _
  | exact LeO.none _
  | refine LeO.ite ?_ ?_
  | refine LeO.bind ?_ (fun _ => ?_)
theorem isobathref07_extreme.mono : ∀ a0 a1 a2 k, LeO (isobathref07_extreme.f k a0 a1 a2) (isobathref07_extreme.f (k + 1) a0 a1 a2) := by
 intro a0 a1 a2 k
 obtain ⟨ih0, ih1, ih2⟩ := isobathref07_extreme.mono_l k
 unfold isobathref07_extreme.f
 repeat' first
   | (with_reducible exact ih0 _ _ _ _ _)
   | (with_reducible exact ih1 _ _ _ _ _ _ _)
   | (with_reducible exact ih2 _ _ _ _ _ _ _ _)
   | (with_reducible exact LeO.refl _)
   | (with_reducible exact LeO.none _)
   | (with_reducible refine LeO.ite ?_ ?_)
   | (with_reducible refine LeO.bind ?_ (fun _ => ?_))
   | exact ih0 _ _ _ _ _
   | exact ih1 _ _ _ _ _ _ _
   | exact ih2 _ _ _ _ _ _ _ _
   | exact LeO.none _
   | refine LeO.ite ?_ ?_
   | refine LeO.bind ?_ (fun _ => ?_)
set_option maxHeartbeats 8000000 in
set_option maxRecDepth 100000 in
theorem isobathref07_extreme.calls (k : Nat) (A0 : Option Addr) (c0 : Nat) (l0 : List Int) (a1 : Int) (a2 : Bool) (r : Int) (w : World) (hr0 : Kd.C (Kd.int .i64) w A0 l0.length l0) (hc0 : l0.length ≤ c0) (h : isobathref07_extreme.f k l0 a1 a2 = some r) :
  Calls Try.prog 90 #[.slice A0 l0.length c0, .int .i64 a1, .bool a2] w fun e w' => e = .returned (.int .i64 r) ∧ Below w.heap.size w w' := by
 have HR0 := zam hr0
 have HC0 := zam hc0
 clear hr0 hc0
 have HB := zam (Below.refl w.heap.size w)
 have H : (if 0 ≤ (wrap64 (a1 + 1)) then (if (wrap64 (a1 + 1) : Int).toNat ≤ 35184372088832 then (isobathref07_extreme.l0 k l0 a1 a2 (List.replicate (wrap64 (a1 + 1) : Int).toNat 0) (wrap64 ((l0.length : Int) - 1))) else (none)) else (none)) = some r := h
 clear h
 obtain ⟨ji4, hji4⟩ : ∃ j_ : Int, (wrap64 (a1 + 1)) = j_ := ⟨_, rfl⟩
 replace H : (if 0 ≤ (ji4) then (if (ji4 : Int).toNat ≤ 35184372088832 then (isobathref07_extreme.l0 k l0 a1 a2 (List.replicate (ji4 : Int).toNat 0) (wrap64 ((l0.length : Int) - 1))) else (none)) else (none)) = some r := by first | (rw [hji4] at H; exact H) | (simp only [hji4] at H ⊢; exact H)
 have hji4w : (IntKind.i64.wrap (a1 + 1)) = ji4 := (i64_w _).trans hji4
 by_cases c5 : 0 ≤ (ji4)
 ·rw [if_pos c5] at H
  have c5b0 := eq_true c5
  have c5b1 : decide (0 ≤ (ji4)) = true := zdt c5
  clear c5
  by_cases c6 : (ji4 : Int).toNat ≤ 35184372088832
  ·rw [if_pos c6] at H
   have c6b0 := eq_true c6
   have c6b1 : decide ((ji4 : Int).toNat ≤ 35184372088832) = true := zdt c6
   clear c6
   obtain ⟨y101, hy101⟩ : ∃ y_ : List Int, y_ = (List.replicate (ji4 : Int).toNat 0) := ⟨_, rfl⟩
   replace H : (isobathref07_extreme.l0 k l0 a1 a2 y101 (wrap64 ((l0.length : Int) - 1))) = some r := by first | (rw [hy101]; with_reducible exact H) | (have H2_ := (Option.bind_some _ _).symm.trans H; rw [hy101]; with_reducible exact H2_) | (have H2_ := (Option.bind_some _ _).symm.trans H; with_reducible exact H2_) | with_reducible exact H | (rw [hy101]; exact H) | exact H
   have Ny101 := zam hy101
   clear hy101
   have H' := zam H
   clear H
   go_enter Try.func90, Try.ntmps90
   go_wp2_with (first | ((with_reducible refine zgd (N := 15) rfl ?_); refine Kd.R_make (Kd.int .i64) _ 3 rfl (N := 15) rfl 155 _ _ rfl ji4 rfl rfl Try.underlying155 (.int .i64 0) 8 info3 rfl (by decide) (by omega) 0 (ok := fun _ => True) (okp := fun _ => True) rfl (fun _ hk => hk) trivial (zod (by first | (with_reducible assumption) | assumption)) (Nat.le_trans (Nat.mul_le_mul_right _ (zod (by first | (with_reducible assumption) | assumption) : ji4.toNat ≤ 35184372088832)) (by omega)) (Below.refl _ _) (Nat.le_refl _) ?_; intro v102 w7 ho8 hb hg_ hnew_; clear hg_ hnew_; (first | rw [← Ny101.out] at ho8 | (simp only [Int.reduceToNat] at ho8; rw [← Ny101.out] at ho8)); have n0_ := zam (Kd.R_lower ho8 (zbz (by repeat (first | (with_reducible first | exact HB.out | apply zba | apply zbn | apply zb1) | exact HB.out)))); have n1_ := zam (zbt (by repeat (first | (with_reducible first | exact HB.out | apply zba | apply zbn | apply zb1) | exact HB.out)) hb); clear HB; have HO103 := n0_; have HB := n1_; clear n0_ n1_; clear hb ho8))
   go_loopg [7, 8] k (fun kq v7 v8 w' => ∃ (x7_1 : List Int) (x8_1 : Int), v8 = .int .i64 x8_1 ∧ Aside0 (isobathref07_extreme.l0 kq l0 a1 a2 x7_1 x8_1 = some r) ∧ Aside0 (kq ≤ k) ∧ Aside0 (Kd.R (Kd.int .i64) 3 w' w.heap.size (fun _ => True) v7 x7_1) ∧ Aside0 (Below w.heap.size w w'))
   case atStart => exact ⟨(y101), (wrap64 ((l0.length : Int) - 1)), (by first | rfl | (simp; done) | (simp [*]; done)), H', ⟨Nat.le_refl _⟩, ⟨by (with_reducible repeat (first | apply zRa | apply zRn | apply zRd)); exact HO103.out⟩, ⟨by repeat (first | (with_reducible first | exact HB.out | apply zba | apply zbn | apply zb1) | exact HB.out)⟩⟩
   case round =>
    clear H'
    try clear p2
    try clear c5
    try clear c5b0
    try clear c5b1
    try clear c6
    try clear c6b0
    try clear c6b1
    try clear p6
    obtain ⟨x7_1, x8_1, rfl, HA, HK1, HO_7, HB⟩ := hrel
    cases gk with
    | zero => exact absurd HA.out (by simp [isobathref07_extreme.l0])
    | succ k1 =>
     have H := HA.out
     clear HA
     simp only [isobathref07_extreme.l0] at H
     by_cases c9 : x8_1 ≥ 0
     ·rw [if_pos c9] at H
      have c9b0 : decide (0 ≤ x8_1) = true := zdt c9
      clear c9
      try clear hji4w
      try clear hji4
      obtain ⟨ji10, hji10⟩ : ∃ j_ : Int, (wrap64 (a1 + 1)) = j_ := ⟨_, rfl⟩
      replace H : (if 0 ≤ (ji10) then (if (ji10 : Int).toNat ≤ 35184372088832 then (isobathref07_extreme.l1 k1 l0 a1 a2 x7_1 x8_1 (List.replicate (ji10 : Int).toNat 0) 0) else (none)) else (none)) = some r := by first | (rw [hji10] at H; exact H) | (simp only [hji10] at H ⊢; exact H)
      have hji10w : (IntKind.i64.wrap (a1 + 1)) = ji10 := (i64_w _).trans hji10
      by_cases c11 : 0 ≤ (ji10)
      ·rw [if_pos c11] at H
       have c11b0 := eq_true c11
       have c11b1 : decide (0 ≤ (ji10)) = true := zdt c11
       clear c11
       by_cases c12 : (ji10 : Int).toNat ≤ 35184372088832
       ·rw [if_pos c12] at H
        have c12b0 := eq_true c12
        have c12b1 : decide ((ji10 : Int).toNat ≤ 35184372088832) = true := zdt c12
        clear c12
        obtain ⟨y105, hy105⟩ : ∃ y_ : List Int, y_ = (List.replicate (ji10 : Int).toNat 0) := ⟨_, rfl⟩
        replace H : (isobathref07_extreme.l1 k1 l0 a1 a2 x7_1 x8_1 y105 0) = some r := by first | (rw [hy105]; with_reducible exact H) | (have H2_ := (Option.bind_some _ _).symm.trans H; rw [hy105]; with_reducible exact H2_) | (have H2_ := (Option.bind_some _ _).symm.trans H; with_reducible exact H2_) | with_reducible exact H | (rw [hy105]; exact H) | exact H
        have Ny105 := zam hy105
        clear hy105
        have H' := zam H
        clear H
        go_wp2_with (first | ((with_reducible refine zgd (N := 25) rfl ?_); refine Kd.R_make (Kd.int .i64) _ 3 rfl (N := 25) rfl 155 _ _ rfl ji10 rfl rfl Try.underlying155 (.int .i64 0) 8 info3 rfl (by decide) (by omega) 0 (ok := fun _ => True) (okp := fun _ => True) rfl (fun _ hk => hk) trivial (zod (by first | (with_reducible assumption) | assumption)) (Nat.le_trans (Nat.mul_le_mul_right _ (zod (by first | (with_reducible assumption) | assumption) : ji10.toNat ≤ 35184372088832)) (by omega)) (Below.refl _ _) (Nat.le_refl _) ?_; intro v106 w13 ho14 hb hg_ hnew_; clear hg_ hnew_; (first | rw [← Ny105.out] at ho14 | (simp only [Int.reduceToNat] at ho14; rw [← Ny105.out] at ho14)); have n0_ := zam (Kd.R_elder' (by (with_reducible repeat (first | apply zRa | apply zRn | apply zRd)); exact HO_7.out) (Kd.R_base ho14) hb); have n1_ := zam (Kd.R_lower (Kd.R_new' ho14 (Kd.R_lt (by (with_reducible repeat (first | apply zRa | apply zRn | apply zRd)); exact HO_7.out))) (zbz (by repeat (first | (with_reducible first | exact HB.out | apply zba | apply zbn | apply zb1) | exact HB.out)))); have n2_ := zam (zbt (by repeat (first | (with_reducible first | exact HB.out | apply zba | apply zbn | apply zb1) | exact HB.out)) hb); clear HO_7; clear HB; have HO_7 := n0_; have HO107 := n1_; have HB := n2_; clear n0_ n1_ n2_; clear hb ho14))
        go_loopg [10] k1 (fun kq v10 w' => ∃ (x9_2 : List Int) (x10_2 : Int), v10 = .int .i64 x10_2 ∧ Aside0 (isobathref07_extreme.l1 kq l0 a1 a2 x7_1 x8_1 x9_2 x10_2 = some r) ∧ Aside0 (kq ≤ k1) ∧ Aside0 (Kd.R (Kd.int .i64) 3 w' w.heap.size (fun k_ => some k_ ≠ (v106 : Value).ownBlock) u7 x7_1) ∧ Aside0 (Kd.R (Kd.int .i64) 3 w' w.heap.size (fun k_ => some k_ ≠ (u7 : Value).ownBlock) v106 x9_2) ∧ Aside0 (Below w.heap.size w w'))
        case atStart => exact ⟨(y105), (0), (by first | rfl | (simp; done) | (simp [*]; done)), H', ⟨Nat.le_refl _⟩, ⟨by (with_reducible repeat (first | apply zRa | apply zRn | apply zRd)); exact Kd.R_mono HO_7.out (fun _ hk => hk.2)⟩, ⟨by (with_reducible repeat (first | apply zRa | apply zRn | apply zRd)); exact Kd.R_mono HO107.out (fun _ hk => hk.2)⟩, ⟨by repeat (first | (with_reducible first | exact HB.out | apply zba | apply zbn | apply zb1) | exact HB.out)⟩⟩
        case round =>
         clear H'
         try clear c1
         try clear p2
         try clear c5
         try clear c5b0
         try clear c5b1
         try clear c6
         try clear c6b0
         try clear c6b1
         try clear p6
         try clear c9
         try clear c9b0
         try clear c11
         try clear c11b0
         try clear c11b1
         try clear c12
         try clear c12b0
         try clear c12b1
         try clear p2
         try clear p6
         obtain ⟨x9_2, x10_2, rfl, HA, HK2, HO_7, HO_9, HB⟩ := hrel
         cases gk with
         | zero => exact absurd HA.out (by simp [isobathref07_extreme.l1])
         | succ k2 =>
          have H := HA.out
          clear HA
          simp only [isobathref07_extreme.l1] at H
          by_cases c15 : x10_2 ≤ a1
          ·rw [if_pos c15] at H
           have c15b0 : decide (x10_2 ≤ a1) = true := zdt c15
           clear c15
           obtain ⟨ji16, hji16⟩ : ∃ j_ : Int, (mn (wrap64 (x10_2 + 1)) a1) = j_ := ⟨_, rfl⟩
           replace H : (if 0 ≤ (ji16) then (if (ji16) < (x7_1.length : Int) then (if (wrap64 (x10_2 + 1)) = a1 then (isobathref07_extreme.j2 k2 l0 a1 a2 x7_1 x8_1 x9_2 x10_2 (wrap64 ((rd x7_1 (ji16)) + 1))) else (isobathref07_extreme.j2 k2 l0 a1 a2 x7_1 x8_1 x9_2 x10_2 (rd x7_1 (ji16)))) else (none)) else (none)) = some r := by first | (rw [hji16] at H; exact H) | (simp only [hji16] at H ⊢; exact H)
           have hji16_ : (if a1 < (wrap64 (x10_2 + 1)) then a1 else (wrap64 (x10_2 + 1))) = ji16 := hji16
           by_cases c17 : 0 ≤ (ji16)
           ·rw [if_pos c17] at H
            have c17b0 : decide (0 ≤ (ji16)) = true := zdt c17
            clear c17
            by_cases c18 : (ji16) < (x7_1.length : Int)
            ·rw [if_pos c18] at H
             have c18b0 : decide ((ji16) < (x7_1.length : Int)) = true := zdt c18
             clear c18
             have HC19 := zam H
             clear H
             obtain ⟨Ao20, co20, eo20⟩ := Kd.R_slice HO_7.out
             subst eo20
             have p108 : 0 ≤ ((ji16) : Int) := zod (by first | (with_reducible assumption) | assumption)
             have q108 : (ji16) < (x7_1.length : Int) := zod (by first | (with_reducible assumption) | assumption)
             obtain ⟨ad108, e108, hx108_0⟩ := Kd.at_int (Kd.R_reads' HO_7.out).2.2 (ji16) p108 q108
             cases e108
             replace p108 := eq_true p108
             replace q108 := eq_true q108
             go_upto_if 41 with (fail)
             go_cut [11] (fun v11 wc => ∃ (kq : Nat) (x11_18 : Int), v11 = .int .i64 x11_18 ∧ Aside0 (isobathref07_extreme.j2 kq l0 a1 a2 x7_1 x8_1 x9_2 x10_2 x11_18 = some r) ∧ Aside0 (kq ≤ k2) ∧ Aside0 (Kd.R (Kd.int .i64) 3 wc w.heap.size (fun k_ => some k_ ≠ (v106 : Value).ownBlock) (.slice (some ad108) x7_1.length co20) x7_1) ∧ Aside0 (Kd.R (Kd.int .i64) 3 wc w.heap.size (fun k_ => some k_ ≠ ((.slice (some ad108) x7_1.length co20) : Value).ownBlock) v106 x9_2) ∧ Aside0 (Below w.heap.size w wc))
             case first =>
              have H := HC19.out
              clear HC19
              by_cases c21 : (wrap64 (x10_2 + 1)) = a1
              ·rw [if_pos c21] at H
               have c21b0 : ((wrap64 (x10_2 + 1)) == a1) = true := beq_iff_eq.mpr c21
               have c21b1 : ((wrap64 (x10_2 + 1)) != a1) = false := bne_eq_false_iff_eq.mpr c21
               clear c21
               (first | rw [c21b0] | (simp only [i64_w, i32_w]; rw [c21b0]) | skip)
               have H' := zam H
               clear H
               go_wp2
               go_meet
               case rel => exact ⟨_, (wrap64 ((rd x7_1 (ji16)) + 1)), (by first | rfl | (simp; done) | (simp only [← hji16] <;> (first | rfl | simp)) | (simp [*]; done)), H', ⟨by have := HK1.out; have := HK2.out; first | omega | exact Nat.le_refl _⟩, ⟨by (with_reducible repeat (first | apply zRa | apply zRn | apply zRd)); exact HO_7.out⟩, ⟨by (with_reducible repeat (first | apply zRa | apply zRn | apply zRd)); exact HO_9.out⟩, ⟨by repeat (first | (with_reducible first | exact HB.out | apply zba | apply zbn | apply zb1) | exact HB.out)⟩⟩
              rw [if_neg c21] at H
              have c21b0 : ((wrap64 (x10_2 + 1)) == a1) = false := beq_eq_false_iff_ne.mpr c21
              have c21b1 : ((wrap64 (x10_2 + 1)) != a1) = true := bne_iff_ne.mpr c21
              (first | rw [c21b0] | (simp only [i64_w, i32_w]; rw [c21b0]) | skip)
              have H' := zam H
              clear H
              go_wp2
              go_meet
              case rel => exact ⟨_, (rd x7_1 (ji16)), (by first | rfl | (simp; done) | (simp only [← hji16] <;> (first | rfl | simp)) | (simp [*]; done)), H', ⟨by have := HK1.out; have := HK2.out; first | omega | exact Nat.le_refl _⟩, ⟨by (with_reducible repeat (first | apply zRa | apply zRn | apply zRd)); exact HO_7.out⟩, ⟨by (with_reducible repeat (first | apply zRa | apply zRn | apply zRd)); exact HO_9.out⟩, ⟨by repeat (first | (with_reducible first | exact HB.out | apply zba | apply zbn | apply zb1) | exact HB.out)⟩⟩
             case rest =>
              clear HC19
              try clear c1
              try clear p1
              try clear q1
              try clear hx1
              try clear c2
              try clear p2
              try clear c5
              try clear c5b0
              try clear c5b1
              try clear c6
              try clear c6b0
              try clear c6b1
              try clear p6
              try clear c9
              try clear c9b0
              try clear p10
              try clear q10
              try clear hx10
              try clear c11
              try clear c11b0
              try clear c11b1
              try clear c12
              try clear c12b0
              try clear c12b1
              try clear c15
              try clear c15b0
              try clear c17
              try clear c17b0
              try clear c18
              try clear c18b0
              try clear c21
              try clear c21b0
              try clear c21b1
              try clear hx108_0
              try clear p108
              try clear p2
              try clear p6
              try clear q108
              obtain ⟨kq, x11_18, rfl, HA, HJ18, HO_7, HO_9, HB⟩ := hcut
              cases kq with
              | zero => exact absurd HA.out (by simp [isobathref07_extreme.j2])
              | succ kj18 =>
               have H := HA.out
               clear HA
               simp only [isobathref07_extreme.j2] at H
               by_cases c22 : 0 < (x7_1.length : Int)
               ·rw [if_pos c22] at H
                have c22b0 : decide (0 < (x7_1.length : Int)) = true := zdt c22
                have c22b1 : decide (0 < x7_1.length) = true := zdt (by omega)
                clear c22
                by_cases c23 : 0 ≤ x8_1
                ·rw [if_pos c23] at H
                 have c23b0 : decide (0 ≤ x8_1) = true := zdt c23
                 clear c23
                 by_cases c24 : x8_1 < (l0.length : Int)
                 ·rw [if_pos c24] at H
                  have c24b0 : decide (x8_1 < (l0.length : Int)) = true := zdt c24
                  clear c24
                  by_cases c25 : (rd l0 x8_1) = 2
                  ·rw [if_pos c25] at H
                   have c25b0 : ((rd l0 x8_1) == 2) = true := beq_iff_eq.mpr c25
                   have c25b1 : ((rd l0 x8_1) != 2) = false := bne_eq_false_iff_eq.mpr c25
                   clear c25
                   by_cases c26 : 0 ≤ x10_2
                   ·rw [if_pos c26] at H
                    have c26b0 : decide (0 ≤ x10_2) = true := zdt c26
                    clear c26
                    by_cases c27 : x10_2 < (x9_2.length : Int)
                    ·rw [if_pos c27] at H
                     have c27b0 : decide (x10_2 < (x9_2.length : Int)) = true := zdt c27
                     clear c27
                     obtain ⟨y111, hy111⟩ : ∃ y_ : List Int, y_ = (x9_2.set (x10_2 : Int).toNat x11_18) := ⟨_, rfl⟩
                     replace H : (isobathref07_extreme.l1 kj18 l0 a1 a2 x7_1 x8_1 y111 (wrap64 (x10_2 + 1))) = some r := by first | (rw [hy111]; with_reducible exact H) | (have H2_ := (Option.bind_some _ _).symm.trans H; rw [hy111]; with_reducible exact H2_) | (have H2_ := (Option.bind_some _ _).symm.trans H; with_reducible exact H2_) | with_reducible exact H | (rw [hy111]; exact H) | exact H
                     have Ny111 := zam hy111
                     clear hy111
                     have H' := zam H
                     clear H
                     have p109 : 0 ≤ (0 : Int) := (by omega)
                     have q109 : 0 < (x7_1.length : Int) := zod (by first | (with_reducible assumption) | assumption)
                     obtain ⟨ad109, e109, hx109_0⟩ := Kd.at_int (Kd.R_reads' HO_7.out).2.2 0 p109 q109
                     obtain rfl : ad108 = ad109 := (by injection e109)
                     have qi109 : (0 < x7_1.length) = True := eq_true (by omega)
                     (try rw [show ((0 : Int)).toNat = 0 from rfl] at hx109_0)
                     (try rw [Addr.add_zero'] at hx109_0)
                     replace p109 := eq_true p109
                     replace q109 := eq_true q109
                     have p110 : 0 ≤ (x8_1 : Int) := zod (by first | (with_reducible assumption) | assumption)
                     have q110 : x8_1 < (l0.length : Int) := zod (by first | (with_reducible assumption) | assumption)
                     obtain ⟨ad110, e110, hx110_0⟩ := Kd.at_int HR0.out x8_1 p110 q110
                     cases e110
                     replace hx110_0 := (HB.out.cell (zwb w _ hx110_0)).trans hx110_0
                     replace p110 := eq_true p110
                     replace q110 := eq_true q110
                     have p28 : 0 ≤ (x10_2 : Int) := zod (by first | (with_reducible assumption) | assumption)
                     have q28 : (x10_2 : Int) < ((x9_2.length : Int) : Int) := zod (by first | (with_reducible assumption) | assumption)
                     obtain ⟨go28, co28, eo28, gb28, gl28, cl28, HG28⟩ := Kd.R_form HO_9.out (by omega)
                     (first | cases eo28 | (injection eo28 with ea_ en_ ec_; (first | subst ea_ | (injection ea_ with ea_; subst ea_)); subst ec_; clear en_))
                     have GB28 := zam gb28
                     have GG28 := zam HG28
                     clear gb28 gl28 HG28
                     obtain ⟨hx28_0, hf28_0⟩ := Kd.R_celln 0 HO_9.out (x10_2 : Int) p28 q28
                     replace p28 := eq_true p28
                     replace q28 := eq_true q28
                     have HP29 := Kd.R_putg HO_9.out (x10_2 : Int) x11_18
                     go_wp2_with (first | ((with_reducible refine gate_store (t := 3) (p := 62) rfl ?_); refine store_event (t := 3) (p := 62) (v := ?vo_w30) (w1 := (wc.setCell ⟨go28, (x10_2 : Int).toNat, none⟩ (.int .i64 x11_18))) ?hg ?ho ?hn ?hr ?_; (case ho => rfl); (case hg => rfl); (case hn => rfl); (case hr => first | (go_simp; done) | (go_simp; rfl)); intro w30 hw; have hg : wc.grownBy w30 (some go28) := (by rw [hw]; exact HP29.2); have hp_ : Kd.R (Kd.int .i64) 3 w30 w.heap.size (fun k_ => some k_ ≠ (.slice (some ad108) x7_1.length co20 : Value).ownBlock) (.slice (some ⟨go28, 0, none⟩) x9_2.length co28) y111 := (by rw [hw, Ny111.out]; exact HP29.1); clear HP29; have n0_ := zam (Kd.R_after (v := (.slice (some ⟨go28, 0, none⟩) x9_2.length co28)) (v1 := (.slice (some ⟨go28, 0, none⟩) x9_2.length co28)) (ok := (fun _ => True)) (by (with_reducible repeat (first | apply zRa | apply zRn | apply zRd)); exact Kd.R_mono HO_7.out (fun _ hk => ⟨trivial, hk⟩)) hg (.inl rfl)); have n1_ := zam (hp_); have n2_ := zam ((by rw [hw]; exact zbs (HB.out) GB28.out : Below w.heap.size w w30)); clear HO_7; clear HO_9; clear HB; have HO_7 := n0_; have HO_9 := n1_; have HB := n2_; clear n0_ n1_ n2_; clear hg hw hp_))
                     go_roundg kj18
                     case measure => have := HK1.out; have := HK2.out; have := HJ18.out; omega
                     case rel => exact ⟨(y111), (wrap64 (x10_2 + 1)), (by first | rfl | (simp; done) | (simp [*]; done)), H', ⟨by have := HK1.out; have := HK2.out; have := HJ18.out; omega⟩, ⟨by (with_reducible repeat (first | apply zRa | apply zRn | apply zRd)); exact Kd.R_mono HO_7.out (fun _ hk => hk.2)⟩, ⟨by (with_reducible repeat (first | apply zRa | apply zRn | apply zRd)); exact HO_9.out⟩, ⟨by repeat (first | (with_reducible first | exact HB.out | apply zba | apply zbn | apply zb1) | exact HB.out)⟩⟩
                    rw [if_neg c27] at H
                    exact absurd H (by simp)
                   rw [if_neg c26] at H
                   exact absurd H (by simp)
                  rw [if_neg c25] at H
                  have c25b0 : ((rd l0 x8_1) == 2) = false := beq_eq_false_iff_ne.mpr c25
                  have c25b1 : ((rd l0 x8_1) != 2) = true := bne_iff_ne.mpr c25
                  by_cases c31 : (rd l0 x8_1) = 0
                  ·rw [if_pos c31] at H
                   have c31b0 : ((rd l0 x8_1) == 0) = true := beq_iff_eq.mpr c31
                   have c31b1 : ((rd l0 x8_1) != 0) = false := bne_eq_false_iff_eq.mpr c31
                   clear c31
                   by_cases c32 : 0 ≤ x10_2
                   ·rw [if_pos c32] at H
                    have c32b0 : decide (0 ≤ x10_2) = true := zdt c32
                    clear c32
                    by_cases c33 : x10_2 < (x9_2.length : Int)
                    ·rw [if_pos c33] at H
                     have c33b0 : decide (x10_2 < (x9_2.length : Int)) = true := zdt c33
                     clear c33
                     obtain ⟨y113, hy113⟩ : ∃ y_ : List Int, y_ = (x9_2.set (x10_2 : Int).toNat (rd x7_1 0)) := ⟨_, rfl⟩
                     replace H : (isobathref07_extreme.l1 kj18 l0 a1 a2 x7_1 x8_1 y113 (wrap64 (x10_2 + 1))) = some r := by first | (rw [hy113]; with_reducible exact H) | (have H2_ := (Option.bind_some _ _).symm.trans H; rw [hy113]; with_reducible exact H2_) | (have H2_ := (Option.bind_some _ _).symm.trans H; with_reducible exact H2_) | with_reducible exact H | (rw [hy113]; exact H) | exact H
                     have Ny113 := zam hy113
                     clear hy113
                     have H' := zam H
                     clear H
                     have p109 : 0 ≤ (0 : Int) := (by omega)
                     have q109 : 0 < (x7_1.length : Int) := zod (by first | (with_reducible assumption) | assumption)
                     obtain ⟨ad109, e109, hx109_0⟩ := Kd.at_int (Kd.R_reads' HO_7.out).2.2 0 p109 q109
                     obtain rfl : ad108 = ad109 := (by injection e109)
                     have qi109 : (0 < x7_1.length) = True := eq_true (by omega)
                     (try rw [show ((0 : Int)).toNat = 0 from rfl] at hx109_0)
                     (try rw [Addr.add_zero'] at hx109_0)
                     replace p109 := eq_true p109
                     replace q109 := eq_true q109
                     have p110 : 0 ≤ (x8_1 : Int) := zod (by first | (with_reducible assumption) | assumption)
                     have q110 : x8_1 < (l0.length : Int) := zod (by first | (with_reducible assumption) | assumption)
                     obtain ⟨ad110, e110, hx110_0⟩ := Kd.at_int HR0.out x8_1 p110 q110
                     cases e110
                     replace hx110_0 := (HB.out.cell (zwb w _ hx110_0)).trans hx110_0
                     replace p110 := eq_true p110
                     replace q110 := eq_true q110
                     have p112 : 0 ≤ (x8_1 : Int) := zod (by first | (with_reducible assumption) | assumption)
                     have q112 : x8_1 < (l0.length : Int) := zod (by first | (with_reducible assumption) | assumption)
                     obtain ⟨ad112, e112, hx112_0⟩ := Kd.at_int HR0.out x8_1 p112 q112
                     obtain rfl : ad110 = ad112 := (by injection e112)
                     replace hx112_0 := (HB.out.cell (zwb w _ hx112_0)).trans hx112_0
                     replace p112 := eq_true p112
                     replace q112 := eq_true q112
                     have p34 : 0 ≤ (x10_2 : Int) := zod (by first | (with_reducible assumption) | assumption)
                     have q34 : (x10_2 : Int) < ((x9_2.length : Int) : Int) := zod (by first | (with_reducible assumption) | assumption)
                     obtain ⟨go34, co34, eo34, gb34, gl34, cl34, HG34⟩ := Kd.R_form HO_9.out (by omega)
                     (first | cases eo34 | (injection eo34 with ea_ en_ ec_; (first | subst ea_ | (injection ea_ with ea_; subst ea_)); subst ec_; clear en_))
                     have GB34 := zam gb34
                     have GG34 := zam HG34
                     clear gb34 gl34 HG34
                     obtain ⟨hx34_0, hf34_0⟩ := Kd.R_celln 0 HO_9.out (x10_2 : Int) p34 q34
                     replace p34 := eq_true p34
                     replace q34 := eq_true q34
                     have HP35 := Kd.R_putg HO_9.out (x10_2 : Int) (rd x7_1 0)
                     go_wp2_with (first | ((with_reducible refine gate_store (t := 3) (p := 72) rfl ?_); refine store_event (t := 3) (p := 72) (v := ?vo_w36) (w1 := (wc.setCell ⟨go34, (x10_2 : Int).toNat, none⟩ (.int .i64 (rd x7_1 0)))) ?hg ?ho ?hn ?hr ?_; (case ho => rfl); (case hg => rfl); (case hn => rfl); (case hr => first | (go_simp; done) | (go_simp; rfl)); intro w36 hw; have hg : wc.grownBy w36 (some go34) := (by rw [hw]; exact HP35.2); have hp_ : Kd.R (Kd.int .i64) 3 w36 w.heap.size (fun k_ => some k_ ≠ (.slice (some ad108) x7_1.length co20 : Value).ownBlock) (.slice (some ⟨go34, 0, none⟩) x9_2.length co34) y113 := (by rw [hw, Ny113.out]; exact HP35.1); clear HP35; have n0_ := zam (Kd.R_after (v := (.slice (some ⟨go34, 0, none⟩) x9_2.length co34)) (v1 := (.slice (some ⟨go34, 0, none⟩) x9_2.length co34)) (ok := (fun _ => True)) (by (with_reducible repeat (first | apply zRa | apply zRn | apply zRd)); exact Kd.R_mono HO_7.out (fun _ hk => ⟨trivial, hk⟩)) hg (.inl rfl)); have n1_ := zam (hp_); have n2_ := zam ((by rw [hw]; exact zbs (HB.out) GB34.out : Below w.heap.size w w36)); clear HO_7; clear HO_9; clear HB; have HO_7 := n0_; have HO_9 := n1_; have HB := n2_; clear n0_ n1_ n2_; clear hg hw hp_))
                     go_roundg kj18
                     case measure => have := HK1.out; have := HK2.out; have := HJ18.out; omega
                     case rel => exact ⟨(y113), (wrap64 (x10_2 + 1)), (by first | rfl | (simp; done) | (simp [*]; done)), H', ⟨by have := HK1.out; have := HK2.out; have := HJ18.out; omega⟩, ⟨by (with_reducible repeat (first | apply zRa | apply zRn | apply zRd)); exact Kd.R_mono HO_7.out (fun _ hk => hk.2)⟩, ⟨by (with_reducible repeat (first | apply zRa | apply zRn | apply zRd)); exact HO_9.out⟩, ⟨by repeat (first | (with_reducible first | exact HB.out | apply zba | apply zbn | apply zb1) | exact HB.out)⟩⟩
                    rw [if_neg c33] at H
                    exact absurd H (by simp)
                   rw [if_neg c32] at H
                   exact absurd H (by simp)
                  rw [if_neg c31] at H
                  have c31b0 : ((rd l0 x8_1) == 0) = false := beq_eq_false_iff_ne.mpr c31
                  have c31b1 : ((rd l0 x8_1) != 0) = true := bne_iff_ne.mpr c31
                  by_cases c37 : a2 = true
                  ·subst c37
                   have H1 : (if 0 ≤ x10_2 then (if x10_2 < (x9_2.length : Int) then (isobathref07_extreme.l1 kj18 l0 a1 true x7_1 x8_1 (x9_2.set (x10_2 : Int).toNat (mx x11_18 (rd x7_1 0))) (wrap64 (x10_2 + 1))) else (none)) else (none)) = some r := by rw [if_pos rfl] at H; exact H
                   clear H
                   have H := H1
                   clear H1
                   obtain ⟨ji38, hji38⟩ : ∃ j_ : Int, (mx x11_18 (rd x7_1 0)) = j_ := ⟨_, rfl⟩
                   replace H : (if 0 ≤ x10_2 then (if x10_2 < (x9_2.length : Int) then (isobathref07_extreme.l1 kj18 l0 a1 true x7_1 x8_1 (x9_2.set (x10_2 : Int).toNat (ji38)) (wrap64 (x10_2 + 1))) else (none)) else (none)) = some r := by first | (rw [hji38] at H; exact H) | (simp only [hji38] at H ⊢; exact H)
                   have hji38_ : (if x11_18 < (rd x7_1 0) then (rd x7_1 0) else x11_18) = ji38 := hji38
                   by_cases c39 : 0 ≤ x10_2
                   ·rw [if_pos c39] at H
                    have c39b0 : decide (0 ≤ x10_2) = true := zdt c39
                    clear c39
                    by_cases c40 : x10_2 < (x9_2.length : Int)
                    ·rw [if_pos c40] at H
                     have c40b0 : decide (x10_2 < (x9_2.length : Int)) = true := zdt c40
                     clear c40
                     obtain ⟨y114, hy114⟩ : ∃ y_ : List Int, y_ = (x9_2.set (x10_2 : Int).toNat (ji38)) := ⟨_, rfl⟩
                     replace H : (isobathref07_extreme.l1 kj18 l0 a1 true x7_1 x8_1 y114 (wrap64 (x10_2 + 1))) = some r := by first | (rw [hy114]; with_reducible exact H) | (have H2_ := (Option.bind_some _ _).symm.trans H; rw [hy114]; with_reducible exact H2_) | (have H2_ := (Option.bind_some _ _).symm.trans H; with_reducible exact H2_) | with_reducible exact H | (rw [hy114]; exact H) | exact H
                     have Ny114 := zam hy114
                     clear hy114
                     have H' := zam H
                     clear H
                     have p109 : 0 ≤ (0 : Int) := (by omega)
                     have q109 : 0 < (x7_1.length : Int) := zod (by first | (with_reducible assumption) | assumption)
                     obtain ⟨ad109, e109, hx109_0⟩ := Kd.at_int (Kd.R_reads' HO_7.out).2.2 0 p109 q109
                     obtain rfl : ad108 = ad109 := (by injection e109)
                     have qi109 : (0 < x7_1.length) = True := eq_true (by omega)
                     (try rw [show ((0 : Int)).toNat = 0 from rfl] at hx109_0)
                     (try rw [Addr.add_zero'] at hx109_0)
                     replace p109 := eq_true p109
                     replace q109 := eq_true q109
                     have p110 : 0 ≤ (x8_1 : Int) := zod (by first | (with_reducible assumption) | assumption)
                     have q110 : x8_1 < (l0.length : Int) := zod (by first | (with_reducible assumption) | assumption)
                     obtain ⟨ad110, e110, hx110_0⟩ := Kd.at_int HR0.out x8_1 p110 q110
                     cases e110
                     replace hx110_0 := (HB.out.cell (zwb w _ hx110_0)).trans hx110_0
                     replace p110 := eq_true p110
                     replace q110 := eq_true q110
                     have p112 : 0 ≤ (x8_1 : Int) := zod (by first | (with_reducible assumption) | assumption)
                     have q112 : x8_1 < (l0.length : Int) := zod (by first | (with_reducible assumption) | assumption)
                     obtain ⟨ad112, e112, hx112_0⟩ := Kd.at_int HR0.out x8_1 p112 q112
                     obtain rfl : ad110 = ad112 := (by injection e112)
                     replace hx112_0 := (HB.out.cell (zwb w _ hx112_0)).trans hx112_0
                     replace p112 := eq_true p112
                     replace q112 := eq_true q112
                     have p41 : 0 ≤ (x10_2 : Int) := zod (by first | (with_reducible assumption) | assumption)
                     have q41 : (x10_2 : Int) < ((x9_2.length : Int) : Int) := zod (by first | (with_reducible assumption) | assumption)
                     obtain ⟨go41, co41, eo41, gb41, gl41, cl41, HG41⟩ := Kd.R_form HO_9.out (by omega)
                     (first | cases eo41 | (injection eo41 with ea_ en_ ec_; (first | subst ea_ | (injection ea_ with ea_; subst ea_)); subst ec_; clear en_))
                     have GB41 := zam gb41
                     have GG41 := zam HG41
                     clear gb41 gl41 HG41
                     obtain ⟨hx41_0, hf41_0⟩ := Kd.R_celln 0 HO_9.out (x10_2 : Int) p41 q41
                     replace p41 := eq_true p41
                     replace q41 := eq_true q41
                     have HP42 := Kd.R_putg HO_9.out (x10_2 : Int) ji38
                     go_wp2_with (first | ((with_reducible refine gate_store (t := 3) (p := 80) rfl ?_); refine store_event (t := 3) (p := 80) (v := ?vo_w43) (w1 := (wc.setCell ⟨go41, (x10_2 : Int).toNat, none⟩ (.int .i64 ji38))) ?hg ?ho ?hn ?hr ?_; (case ho => rfl); (case hg => rfl); (case hn => rfl); (case hr => first | (go_simp; done) | (go_simp; rfl)); intro w43 hw; have hg : wc.grownBy w43 (some go41) := (by rw [hw]; exact HP42.2); have hp_ : Kd.R (Kd.int .i64) 3 w43 w.heap.size (fun k_ => some k_ ≠ (.slice (some ad108) x7_1.length co20 : Value).ownBlock) (.slice (some ⟨go41, 0, none⟩) x9_2.length co41) y114 := (by rw [hw, Ny114.out]; exact HP42.1); clear HP42; have n0_ := zam (Kd.R_after (v := (.slice (some ⟨go41, 0, none⟩) x9_2.length co41)) (v1 := (.slice (some ⟨go41, 0, none⟩) x9_2.length co41)) (ok := (fun _ => True)) (by (with_reducible repeat (first | apply zRa | apply zRn | apply zRd)); exact Kd.R_mono HO_7.out (fun _ hk => ⟨trivial, hk⟩)) hg (.inl rfl)); have n1_ := zam (hp_); have n2_ := zam ((by rw [hw]; exact zbs (HB.out) GB41.out : Below w.heap.size w w43)); clear HO_7; clear HO_9; clear HB; have HO_7 := n0_; have HO_9 := n1_; have HB := n2_; clear n0_ n1_ n2_; clear hg hw hp_))
                     go_roundg kj18
                     case measure => have := HK1.out; have := HK2.out; have := HJ18.out; omega
                     case rel => exact ⟨(y114), (wrap64 (x10_2 + 1)), (by first | rfl | (simp; done) | (simp [*]; done)), H', ⟨by have := HK1.out; have := HK2.out; have := HJ18.out; omega⟩, ⟨by (with_reducible repeat (first | apply zRa | apply zRn | apply zRd)); exact Kd.R_mono HO_7.out (fun _ hk => hk.2)⟩, ⟨by (with_reducible repeat (first | apply zRa | apply zRn | apply zRd)); exact HO_9.out⟩, ⟨by repeat (first | (with_reducible first | exact HB.out | apply zba | apply zbn | apply zb1) | exact HB.out)⟩⟩
                    rw [if_neg c40] at H
                    exact absurd H (by simp)
                   rw [if_neg c39] at H
                   exact absurd H (by simp)
                  replace c37 := Bool.eq_false_iff.mpr c37
                  subst c37
                  have H1 : (if 0 ≤ x10_2 then (if x10_2 < (x9_2.length : Int) then (isobathref07_extreme.l1 kj18 l0 a1 false x7_1 x8_1 (x9_2.set (x10_2 : Int).toNat (mn x11_18 (rd x7_1 0))) (wrap64 (x10_2 + 1))) else (none)) else (none)) = some r := by rw [if_neg (show ¬ (false = true) by decide)] at H; exact H
                  clear H
                  have H := H1
                  clear H1
                  obtain ⟨ji44, hji44⟩ : ∃ j_ : Int, (mn x11_18 (rd x7_1 0)) = j_ := ⟨_, rfl⟩
                  replace H : (if 0 ≤ x10_2 then (if x10_2 < (x9_2.length : Int) then (isobathref07_extreme.l1 kj18 l0 a1 false x7_1 x8_1 (x9_2.set (x10_2 : Int).toNat (ji44)) (wrap64 (x10_2 + 1))) else (none)) else (none)) = some r := by first | (rw [hji44] at H; exact H) | (simp only [hji44] at H ⊢; exact H)
                  have hji44_ : (if (rd x7_1 0) < x11_18 then (rd x7_1 0) else x11_18) = ji44 := hji44
                  by_cases c45 : 0 ≤ x10_2
                  ·rw [if_pos c45] at H
                   have c45b0 : decide (0 ≤ x10_2) = true := zdt c45
                   clear c45
                   by_cases c46 : x10_2 < (x9_2.length : Int)
                   ·rw [if_pos c46] at H
                    have c46b0 : decide (x10_2 < (x9_2.length : Int)) = true := zdt c46
                    clear c46
                    obtain ⟨y115, hy115⟩ : ∃ y_ : List Int, y_ = (x9_2.set (x10_2 : Int).toNat (ji44)) := ⟨_, rfl⟩
                    replace H : (isobathref07_extreme.l1 kj18 l0 a1 false x7_1 x8_1 y115 (wrap64 (x10_2 + 1))) = some r := by first | (rw [hy115]; with_reducible exact H) | (have H2_ := (Option.bind_some _ _).symm.trans H; rw [hy115]; with_reducible exact H2_) | (have H2_ := (Option.bind_some _ _).symm.trans H; with_reducible exact H2_) | with_reducible exact H | (rw [hy115]; exact H) | exact H
                    have Ny115 := zam hy115
                    clear hy115
                    have H' := zam H
                    clear H
                    have p109 : 0 ≤ (0 : Int) := (by omega)
                    have q109 : 0 < (x7_1.length : Int) := zod (by first | (with_reducible assumption) | assumption)
                    obtain ⟨ad109, e109, hx109_0⟩ := Kd.at_int (Kd.R_reads' HO_7.out).2.2 0 p109 q109
                    obtain rfl : ad108 = ad109 := (by injection e109)
                    have qi109 : (0 < x7_1.length) = True := eq_true (by omega)
                    (try rw [show ((0 : Int)).toNat = 0 from rfl] at hx109_0)
                    (try rw [Addr.add_zero'] at hx109_0)
                    replace p109 := eq_true p109
                    replace q109 := eq_true q109
                    have p110 : 0 ≤ (x8_1 : Int) := zod (by first | (with_reducible assumption) | assumption)
                    have q110 : x8_1 < (l0.length : Int) := zod (by first | (with_reducible assumption) | assumption)
                    obtain ⟨ad110, e110, hx110_0⟩ := Kd.at_int HR0.out x8_1 p110 q110
                    cases e110
                    replace hx110_0 := (HB.out.cell (zwb w _ hx110_0)).trans hx110_0
                    replace p110 := eq_true p110
                    replace q110 := eq_true q110
                    have p112 : 0 ≤ (x8_1 : Int) := zod (by first | (with_reducible assumption) | assumption)
                    have q112 : x8_1 < (l0.length : Int) := zod (by first | (with_reducible assumption) | assumption)
                    obtain ⟨ad112, e112, hx112_0⟩ := Kd.at_int HR0.out x8_1 p112 q112
                    obtain rfl : ad110 = ad112 := (by injection e112)
                    replace hx112_0 := (HB.out.cell (zwb w _ hx112_0)).trans hx112_0
                    replace p112 := eq_true p112
                    replace q112 := eq_true q112
                    have p47 : 0 ≤ (x10_2 : Int) := zod (by first | (with_reducible assumption) | assumption)
                    have q47 : (x10_2 : Int) < ((x9_2.length : Int) : Int) := zod (by first | (with_reducible assumption) | assumption)
                    obtain ⟨go47, co47, eo47, gb47, gl47, cl47, HG47⟩ := Kd.R_form HO_9.out (by omega)
                    (first | cases eo47 | (injection eo47 with ea_ en_ ec_; (first | subst ea_ | (injection ea_ with ea_; subst ea_)); subst ec_; clear en_))
                    have GB47 := zam gb47
                    have GG47 := zam HG47
                    clear gb47 gl47 HG47
                    obtain ⟨hx47_0, hf47_0⟩ := Kd.R_celln 0 HO_9.out (x10_2 : Int) p47 q47
                    replace p47 := eq_true p47
                    replace q47 := eq_true q47
                    have HP48 := Kd.R_putg HO_9.out (x10_2 : Int) ji44
                    go_wp2_with (first | ((with_reducible refine gate_store (t := 3) (p := 52) rfl ?_); refine store_event (t := 3) (p := 52) (v := ?vo_w49) (w1 := (wc.setCell ⟨go47, (x10_2 : Int).toNat, none⟩ (.int .i64 ji44))) ?hg ?ho ?hn ?hr ?_; (case ho => rfl); (case hg => rfl); (case hn => rfl); (case hr => first | (go_simp; done) | (go_simp; rfl)); intro w49 hw; have hg : wc.grownBy w49 (some go47) := (by rw [hw]; exact HP48.2); have hp_ : Kd.R (Kd.int .i64) 3 w49 w.heap.size (fun k_ => some k_ ≠ (.slice (some ad108) x7_1.length co20 : Value).ownBlock) (.slice (some ⟨go47, 0, none⟩) x9_2.length co47) y115 := (by rw [hw, Ny115.out]; exact HP48.1); clear HP48; have n0_ := zam (Kd.R_after (v := (.slice (some ⟨go47, 0, none⟩) x9_2.length co47)) (v1 := (.slice (some ⟨go47, 0, none⟩) x9_2.length co47)) (ok := (fun _ => True)) (by (with_reducible repeat (first | apply zRa | apply zRn | apply zRd)); exact Kd.R_mono HO_7.out (fun _ hk => ⟨trivial, hk⟩)) hg (.inl rfl)); have n1_ := zam (hp_); have n2_ := zam ((by rw [hw]; exact zbs (HB.out) GB47.out : Below w.heap.size w w49)); clear HO_7; clear HO_9; clear HB; have HO_7 := n0_; have HO_9 := n1_; have HB := n2_; clear n0_ n1_ n2_; clear hg hw hp_))
                    go_roundg kj18
                    case measure => have := HK1.out; have := HK2.out; have := HJ18.out; omega
                    case rel => exact ⟨(y115), (wrap64 (x10_2 + 1)), (by first | rfl | (simp; done) | (simp [*]; done)), H', ⟨by have := HK1.out; have := HK2.out; have := HJ18.out; omega⟩, ⟨by (with_reducible repeat (first | apply zRa | apply zRn | apply zRd)); exact Kd.R_mono HO_7.out (fun _ hk => hk.2)⟩, ⟨by (with_reducible repeat (first | apply zRa | apply zRn | apply zRd)); exact HO_9.out⟩, ⟨by repeat (first | (with_reducible first | exact HB.out | apply zba | apply zbn | apply zb1) | exact HB.out)⟩⟩
                   rw [if_neg c46] at H
                   exact absurd H (by simp)
                  rw [if_neg c45] at H
                  exact absurd H (by simp)
                 rw [if_neg c24] at H
                 exact absurd H (by simp)
                rw [if_neg c23] at H
                exact absurd H (by simp)
               rw [if_neg c22] at H
               exact absurd H (by simp)
            rw [if_neg c18] at H
            exact absurd H (by simp)
           rw [if_neg c17] at H
           exact absurd H (by simp)
          rw [if_neg c15] at H
          have c15b0 : decide (x10_2 ≤ a1) = false := zdf c15
          clear c15
          have H' := zam H
          clear H
          go_wp2
          go_roundg k2
          case measure => have := HK1.out; have := HK2.out; omega
          case rel => exact ⟨(x9_2), (wrap64 (x8_1 - 1)), (by first | rfl | (simp; done) | (simp [*]; done)), H', ⟨by have := HK1.out; have := HK2.out; omega⟩, ⟨by (with_reducible repeat (first | apply zRa | apply zRn | apply zRd)); exact Kd.R_mono HO_9.out (fun _ hk => trivial)⟩, ⟨by repeat (first | (with_reducible first | exact HB.out | apply zba | apply zbn | apply zb1) | exact HB.out)⟩⟩
       rw [if_neg c12] at H
       exact absurd H (by simp)
      rw [if_neg c11] at H
      exact absurd H (by simp)
     rw [if_neg c9] at H
     have c9b0 : decide (0 ≤ x8_1) = false := zdf c9
     clear c9
     by_cases c50 : 0 < (x7_1.length : Int)
     ·rw [if_pos c50] at H
      have c50b0 : decide (0 < (x7_1.length : Int)) = true := zdt c50
      have c50b1 : decide (0 < x7_1.length) = true := zdt (by omega)
      clear c50
      obtain rfl := zsi H
      obtain ⟨Ao51, co51, eo51⟩ := Kd.R_slice HO_7.out
      subst eo51
      have p104 : 0 ≤ (0 : Int) := (by omega)
      have q104 : 0 < (x7_1.length : Int) := zod (by first | (with_reducible assumption) | assumption)
      obtain ⟨ad104, e104, hx104_0⟩ := Kd.at_int (Kd.R_reads' HO_7.out).2.2 0 p104 q104
      cases e104
      have qi104 : (0 < x7_1.length) = True := eq_true (by omega)
      (try rw [show ((0 : Int)).toNat = 0 from rfl] at hx104_0)
      (try rw [Addr.add_zero'] at hx104_0)
      replace p104 := eq_true p104
      replace q104 := eq_true q104
      go_wp2
      go_ret
      exact ⟨by first | rfl | (simp [errW_none, errW_some] <;> rfl) | (simp only [← hji4]; first | rfl | (simp [errW_none, errW_some] <;> rfl)) | (simp [*, errW_none, errW_some] <;> rfl), by repeat (first | (with_reducible first | exact HB.out | apply zba | apply zbn | apply zb1) | exact HB.out)⟩
     rw [if_neg c50] at H
     exact absurd H (by simp)
  rw [if_neg c6] at H
  exact absurd H (by simp)
 rw [if_neg c5] at H
 exact absurd H (by simp)
def isobathref07_Count.f (k : Nat) (l0 : List Int) (a1 : Int) : Option (Int × Int × Int) := (isobathref07_answers.f k l0 a1).bind fun t102 => (if t102 = 0 then ((isobathref07_extreme.f k l0 a1 false).bind fun t103 => ((isobathref07_extreme.f k l0 a1 true).bind fun t104 => (some (t103, t104, 0)))) else ((isobathref07_answers.f k l0 a1).bind fun t105 => (some (0, 0, t105))))
set_option maxHeartbeats 8000000 in
set_option maxRecDepth 100000 in
theorem isobathref07_Count.calls (k : Nat) (A0 : Option Addr) (c0 : Nat) (l0 : List Int) (a1 : Int) (r1 : Int) (r2 : Int) (r3 : Int) (w : World) (hr0 : Kd.C (Kd.int .i64) w A0 l0.length l0) (hc0 : l0.length ≤ c0) (h : isobathref07_Count.f k l0 a1 = some (r1, r2, r3)) :
  Calls Try.prog 45 #[.slice A0 l0.length c0, .int .i64 a1] w fun e w' => e = .returned (.tuple #[.agg #[.int .i64 r1, .int .i64 r2], .int .i64 r3]) ∧ Below w.heap.size w w' := by
 have hu24 := Try.underlying24
 have HR0 := zam hr0
 have HC0 := zam hc0
 clear hr0 hc0
 have HB := zam (Below.refl w.heap.size w)
 have H : ((isobathref07_answers.f k l0 a1).bind fun t102 => (if t102 = 0 then ((isobathref07_extreme.f k l0 a1 false).bind fun t103 => ((isobathref07_extreme.f k l0 a1 true).bind fun t104 => (some (t103, t104, 0)))) else ((isobathref07_answers.f k l0 a1).bind fun t105 => (some (0, 0, t105))))) = some (r1, r2, r3) := h
 clear h
 replace H := Option.bind_eq_some_iff.mp H
 obtain ⟨t102, A30, H⟩ := H
 replace H : (if t102 = 0 then ((isobathref07_extreme.f k l0 a1 false).bind fun t103 => ((isobathref07_extreme.f k l0 a1 true).bind fun t104 => (some (t103, t104, 0)))) else ((isobathref07_answers.f k l0 a1).bind fun t105 => (some (0, 0, t105)))) = some (r1, r2, r3) := H
 have A3 := zam A30
 clear A30
 by_cases c4 : t102 = 0
 ·rw [if_pos c4] at H
  have c4b0 : (t102 == 0) = true := beq_iff_eq.mpr c4
  have c4b1 : (t102 != 0) = false := bne_eq_false_iff_eq.mpr c4
  clear c4
  replace H := Option.bind_eq_some_iff.mp H
  obtain ⟨t103, A50, H⟩ := H
  replace H : ((isobathref07_extreme.f k l0 a1 true).bind fun t104 => (some (t103, t104, 0))) = some (r1, r2, r3) := H
  have A5 := zam A50
  clear A50
  replace H := Option.bind_eq_some_iff.mp H
  obtain ⟨t104, A60, H⟩ := H
  replace H : (some (t103, t104, 0)) = some (r1, r2, r3) := H
  have A6 := zam A60
  clear A60
  simp only [Option.some.injEq, Prod.mk.injEq] at H
  obtain ⟨rfl, rfl, rfl⟩ := H
  go_enter Try.func45, Try.ntmps45
  go_wp2_with (first | ((with_reducible refine zgd (N := 4) rfl ?_); refine box_event ?hg (N := 4) ?hd (cs := #[.int .i64 0, .int .i64 0]) (t := 24) ?hr ?_; (case hd => rfl); (case hg => rfl); (case hr => first | (go_simp; done) | (go_simp; rfl)); intro gb101 hg w7 hbox hb; have n0_ := zam (zbt (by repeat (first | (with_reducible first | exact HB.out | apply zba | apply zbn | apply zb1) | exact HB.out)) hb); have n1_ := zam (hbox); have n2_ := zam ((by rw [hg]; exact (zbz (by repeat (first | (with_reducible first | exact HB.out | apply zba | apply zbn | apply zb1) | exact HB.out))) : w.heap.size ≤ gb101)); have n3_ := zam ((by rw [hg]; exact (zbz (by repeat (first | (with_reducible first | exact HB.out | apply zba | apply zbn | apply zb1) | exact HB.out))) : w.heap.size ≤ gb101)); clear HB; have HB := n0_; have BK101 := n1_; have GW101 := n2_; have GE101 := n3_; clear n0_ n1_ n2_ n3_; clear hb hbox hg) | ((with_reducible refine zgc (f := 76) rfl ?_); refine goesL_ (some 8) rfl rfl Try.func76 (by kernel_rfl) rfl #[.slice A0 l0.length c0, .int .i64 a1] rfl (by (try simp only [zmt, List.map_cons, List.map_nil]); first | done | rfl | (simp only [zld, zlt]; rfl)) ?_; (with_reducible refine (isobathref07_answers.calls k _ _ l0 a1 t102 _ ?side1 ?side2 A3.out).mono ?_); (case side1 => repeat (first | exact (Kd.C_below HR0.out HB.out) | (with_reducible refine Kd.C_alloc ?_ _) | (with_reducible refine Kd.C_drewN ?_ _) | (with_reducible refine Kd.C_drew ?_))); (case side2 => exact HC0.out); rintro e w' ⟨rfl, ⟨nd, rfl⟩⟩; refine ⟨_, rfl, ?_⟩; (try (rw [drewN_self w7]; generalize hq_ : World.drewN w7 _ = w7; have n0_ : Aside0 (w7.heap[gb101]? = some (.cells #[.int .i64 0, .int .i64 0] 24 (0, 0))) := ⟨by rw [← hq_]; exact (by (with_reducible repeat (first | refine zkn ?_ _ | refine zkd ?_ | refine zka ?_ _)); exact BK101.out)⟩; have n1_ : Aside0 (Below w.heap.size w w7) := ⟨by rw [← hq_]; exact (by repeat (first | (with_reducible first | exact HB.out | apply zba | apply zbn | apply zb1 | refine zbs ?_ GE101.out) | exact HB.out))⟩; clear BK101 HB hq_; have BK101 := n0_; have HB := n1_; clear n0_ n1_))) | ((with_reducible refine zgc (f := 90) rfl ?_); refine goesL_ (some 16) rfl rfl Try.func90 (by kernel_rfl) rfl #[.slice A0 l0.length c0, .int .i64 a1, .bool false] rfl (by (try simp only [zmt, List.map_cons, List.map_nil]); first | done | rfl | (simp only [zld, zlt]; rfl)) ?_; (with_reducible refine (isobathref07_extreme.calls k _ _ l0 a1 false t103 _ ?side1 ?side2 A5.out).mono ?_); (case side1 => repeat (first | exact (Kd.C_below HR0.out HB.out) | (with_reducible refine Kd.C_alloc ?_ _) | (with_reducible refine Kd.C_drewN ?_ _) | (with_reducible refine Kd.C_drew ?_))); (case side2 => exact HC0.out); rintro e w8 ⟨rfl, hb⟩; refine ⟨_, rfl, ?_⟩; have n0_ := zam (zkb (g := gb101) (o := .cells #[.int .i64 0, .int .i64 0] 24 (0, 0)) (by (with_reducible repeat (first | refine zkn ?_ _ | refine zkd ?_ | refine zka ?_ _)); exact BK101.out) hb); have n1_ := zam (zbt (by repeat (first | (with_reducible first | exact HB.out | apply zba | apply zbn | apply zb1 | refine zbs ?_ GE101.out) | exact HB.out)) hb); clear BK101; clear HB; have BK101 := n0_; have HB := n1_; clear n0_ n1_; (try clear hb); (try clear hb2); (try clear hk); (try clear hi)) | ((with_reducible refine zgc (f := 90) rfl ?_); refine goesL_ (some 19) rfl rfl Try.func90 (by kernel_rfl) rfl #[.slice A0 l0.length c0, .int .i64 a1, .bool true] rfl (by (try simp only [zmt, List.map_cons, List.map_nil]); first | done | rfl | (simp only [zld, zlt]; rfl)) ?_; (with_reducible refine (isobathref07_extreme.calls k _ _ l0 a1 true t104 _ ?side1 ?side2 A6.out).mono ?_); (case side1 => repeat (first | exact (Kd.C_below HR0.out HB.out) | (with_reducible refine Kd.C_alloc ?_ _) | (with_reducible refine Kd.C_drewN ?_ _) | (with_reducible refine Kd.C_drew ?_))); (case side2 => exact HC0.out); rintro e w9 ⟨rfl, hb⟩; refine ⟨_, rfl, ?_⟩; have n0_ := zam (zkb (g := gb101) (o := .cells #[.int .i64 0, .int .i64 0] 24 (0, 0)) (by (with_reducible repeat (first | refine zkn ?_ _ | refine zkd ?_ | refine zka ?_ _)); exact BK101.out) hb); have n1_ := zam (zbt (by repeat (first | (with_reducible first | exact HB.out | apply zba | apply zbn | apply zb1 | refine zbs ?_ GE101.out) | exact HB.out)) hb); clear BK101; clear HB; have BK101 := n0_; have HB := n1_; clear n0_ n1_; (try clear hb); (try clear hb2); (try clear hk); (try clear hi); have hcz10_0 : w9.cell? ⟨gb101, 0, none⟩ = some (.int .i64 0) := (zkc BK101.out 0).trans rfl; have hcz10_1 : w9.cell? ⟨gb101, 1, none⟩ = some (.int .i64 0) := (zkc BK101.out 1).trans rfl; have hfz10_0 := zkz BK101.out 0; have hfz10_1 := zkz BK101.out 1))
  refine bodyPost_ret (results_ct rfl _ _ gb101 24 #[.int .i64 t103, .int .i64 t104] (0, 0) _ rfl (by (with_reducible repeat (first | refine zkn ?_ _ | refine zkd ?_ | refine zka ?_ _)); refine blk_put (cs := #[.int .i64 t103, .int .i64 0]) ?_ 1 _ rfl; (with_reducible repeat (first | refine zkn ?_ _ | refine zkd ?_ | refine zka ?_ _)); refine blk_put (cs := #[.int .i64 0, .int .i64 0]) ?_ 0 _ rfl; (with_reducible repeat (first | refine zkn ?_ _ | refine zkd ?_ | refine zka ?_ _)); exact BK101.out) Try.underlying24 rfl (by kernel_rfl)) rfl ?_
  exact ⟨by first | rfl | (simp [errW_none, errW_some] <;> rfl) | (simp [*, errW_none, errW_some] <;> rfl), by repeat (first | (with_reducible first | exact HB.out | apply zba | apply zbn | apply zb1 | refine zbs ?_ GE101.out) | exact HB.out)⟩
 rw [if_neg c4] at H
 have c4b0 : (t102 == 0) = false := beq_eq_false_iff_ne.mpr c4
 have c4b1 : (t102 != 0) = true := bne_iff_ne.mpr c4
 replace H := Option.bind_eq_some_iff.mp H
 obtain ⟨t105, A110, H⟩ := H
 replace H : (some (0, 0, t105)) = some (r1, r2, r3) := H
 have A11 := zam A110
 clear A110
 simp only [Option.some.injEq, Prod.mk.injEq] at H
 obtain ⟨rfl, rfl, rfl⟩ := H
 go_enter Try.func45, Try.ntmps45
 go_wp2_with (first | ((with_reducible refine zgd (N := 4) rfl ?_); refine box_event ?hg (N := 4) ?hd (cs := #[.int .i64 0, .int .i64 0]) (t := 24) ?hr ?_; (case hd => rfl); (case hg => rfl); (case hr => first | (go_simp; done) | (go_simp; rfl)); intro gb101 hg w12 hbox hb; have n0_ := zam (zbt (by repeat (first | (with_reducible first | exact HB.out | apply zba | apply zbn | apply zb1) | exact HB.out)) hb); have n1_ := zam (hbox); have n2_ := zam ((by rw [hg]; exact (zbz (by repeat (first | (with_reducible first | exact HB.out | apply zba | apply zbn | apply zb1) | exact HB.out))) : w.heap.size ≤ gb101)); have n3_ := zam ((by rw [hg]; exact (zbz (by repeat (first | (with_reducible first | exact HB.out | apply zba | apply zbn | apply zb1) | exact HB.out))) : w.heap.size ≤ gb101)); clear HB; have HB := n0_; have BK101 := n1_; have GW101 := n2_; have GE101 := n3_; clear n0_ n1_ n2_ n3_; clear hb hbox hg) | ((with_reducible refine zgc (f := 76) rfl ?_); refine goesL_ (some 8) rfl rfl Try.func76 (by kernel_rfl) rfl #[.slice A0 l0.length c0, .int .i64 a1] rfl (by (try simp only [zmt, List.map_cons, List.map_nil]); first | done | rfl | (simp only [zld, zlt]; rfl)) ?_; (with_reducible refine (isobathref07_answers.calls k _ _ l0 a1 t102 _ ?side1 ?side2 A3.out).mono ?_); (case side1 => repeat (first | exact (Kd.C_below HR0.out HB.out) | (with_reducible refine Kd.C_alloc ?_ _) | (with_reducible refine Kd.C_drewN ?_ _) | (with_reducible refine Kd.C_drew ?_))); (case side2 => exact HC0.out); rintro e w' ⟨rfl, ⟨nd, rfl⟩⟩; refine ⟨_, rfl, ?_⟩; (try (rw [drewN_self w12]; generalize hq_ : World.drewN w12 _ = w12; have n0_ : Aside0 (w12.heap[gb101]? = some (.cells #[.int .i64 0, .int .i64 0] 24 (0, 0))) := ⟨by rw [← hq_]; exact (by (with_reducible repeat (first | refine zkn ?_ _ | refine zkd ?_ | refine zka ?_ _)); exact BK101.out)⟩; have n1_ : Aside0 (Below w.heap.size w w12) := ⟨by rw [← hq_]; exact (by repeat (first | (with_reducible first | exact HB.out | apply zba | apply zbn | apply zb1 | refine zbs ?_ GE101.out) | exact HB.out))⟩; clear BK101 HB hq_; have BK101 := n0_; have HB := n1_; clear n0_ n1_))) | ((with_reducible refine zgc (f := 76) rfl ?_); refine goesL_ (some 13) rfl rfl Try.func76 (by kernel_rfl) rfl #[.slice A0 l0.length c0, .int .i64 a1] rfl (by (try simp only [zmt, List.map_cons, List.map_nil]); first | done | rfl | (simp only [zld, zlt]; rfl)) ?_; (with_reducible refine (isobathref07_answers.calls k _ _ l0 a1 t105 _ ?side1 ?side2 A11.out).mono ?_); (case side1 => repeat (first | exact (Kd.C_below HR0.out HB.out) | (with_reducible refine Kd.C_alloc ?_ _) | (with_reducible refine Kd.C_drewN ?_ _) | (with_reducible refine Kd.C_drew ?_))); (case side2 => exact HC0.out); rintro e w' ⟨rfl, ⟨nd, rfl⟩⟩; refine ⟨_, rfl, ?_⟩; (try (rw [drewN_self w12]; generalize hq_ : World.drewN w12 _ = w12; have n0_ : Aside0 (w12.heap[gb101]? = some (.cells #[.int .i64 0, .int .i64 0] 24 (0, 0))) := ⟨by rw [← hq_]; exact (by (with_reducible repeat (first | refine zkn ?_ _ | refine zkd ?_ | refine zka ?_ _)); exact BK101.out)⟩; have n1_ : Aside0 (Below w.heap.size w w12) := ⟨by rw [← hq_]; exact (by repeat (first | (with_reducible first | exact HB.out | apply zba | apply zbn | apply zb1 | refine zbs ?_ GE101.out) | exact HB.out))⟩; clear BK101 HB hq_; have BK101 := n0_; have HB := n1_; clear n0_ n1_)); have hcz13_0 : w12.cell? ⟨gb101, 0, none⟩ = some (.int .i64 0) := (zkc BK101.out 0).trans rfl; have hcz13_1 : w12.cell? ⟨gb101, 1, none⟩ = some (.int .i64 0) := (zkc BK101.out 1).trans rfl; have hfz13_0 := zkz BK101.out 0; have hfz13_1 := zkz BK101.out 1))
 refine bodyPost_ret (results_ct rfl _ _ gb101 24 #[.int .i64 0, .int .i64 0] (0, 0) _ rfl (by (with_reducible repeat (first | refine zkn ?_ _ | refine zkd ?_ | refine zka ?_ _)); refine blk_put (cs := #[.int .i64 0, .int .i64 0]) ?_ 1 _ rfl; (with_reducible repeat (first | refine zkn ?_ _ | refine zkd ?_ | refine zka ?_ _)); refine blk_put (cs := #[.int .i64 0, .int .i64 0]) ?_ 0 _ rfl; (with_reducible repeat (first | refine zkn ?_ _ | refine zkd ?_ | refine zka ?_ _)); exact BK101.out) Try.underlying24 rfl (by kernel_rfl)) rfl ?_
 exact ⟨by first | rfl | (simp [errW_none, errW_some] <;> rfl) | (simp [*, errW_none, errW_some] <;> rfl), by repeat (first | (with_reducible first | exact HB.out | apply zba | apply zbn | apply zb1 | refine zbs ?_ GE101.out) | exact HB.out)⟩
theorem Sp.ext_bd (n : Nat) (most : Bool) : ∀ (l : List Int) (r : Nat), 0 ≤ Sp.ext n most l r ∧ Sp.ext n most l r ≤ (l.length : Int)
 | [], r => by simp [Sp.ext]
 | x :: xs, r => by
  have h1 := Sp.ext_bd n most xs (min (r + 1) n)
  have h2 := Sp.ext_bd n most xs 0
  rw [Sp.ext, List.length_cons]
  by_cases c : r + 1 = n
  ·rw [if_pos c]
   repeat' split
   all_goals omega
  rw [if_neg c]
  repeat' split
  all_goals omega
theorem Sp.row_rd (n : Nat) (most : Bool) (l : List Int) (j : Nat) (h : j < n + 1) : rd (Sp.row n most l) (j : Int) = Sp.ext n most l j := by
 rw [rd_nat (by rw [Sp.row_len]; exact h)]
 simp [Sp.row]
theorem Sp.row_snoc (n : Nat) (most : Bool) (l : List Int) (r d : Nat) (v : Int) (h : v = Sp.ext n most l r) : ((List.range r).map (Sp.ext n most l) ++ List.replicate (d + 1) 0).set ((r : Int)).toNat v = (List.range (r + 1)).map (Sp.ext n most l) ++ List.replicate d 0 := by
 have hl : ((List.range r).map (Sp.ext n most l)).length = r := by simp
 subst h
 rw [Int.toNat_natCast, List.range_succ, List.map_append, List.set_append_right _ _ (by omega), hl, Nat.sub_self, List.replicate_succ]
 simp
theorem Sp.ext_l1 (n : Nat) (hn : n ≤ 256) (l : List Int) (hl : l.length ≤ 256) (most : Bool) (i : Nat) (hi : i < l.length) : ∀ (d r K : Nat), r + d = n + 1 →
  isobathref07_extreme.l1 (K + 2 * d + 1) l (n : Int) most (Sp.row n most (l.drop (i + 1))) (i : Int) ((List.range r).map (Sp.ext n most (l.drop i)) ++ List.replicate d 0) (r : Int) = isobathref07_extreme.l0 K l (n : Int) most (Sp.row n most (l.drop i)) (wrap64 ((i : Int) - 1))
 | 0, r, K, hr => by
  have e : r = n + 1 := by omega
  subst e
  rw [show K + 2 * 0 + 1 = K + 1 by omega, isobathref07_extreme.l1, if_neg (by omega)]
  simp [Sp.row]
 | d + 1, r, K, hr => by
  have hrn : r < n + 1 := by omega
  have ih := Sp.ext_l1 n hn l hl most i hi d (r + 1) K (by omega)
  have hm : mn (wrap64 ((r : Int) + 1)) (n : Int) = ((min (r + 1) n : Nat) : Int) := by
   rw [Bo.mnE, wrap_succ (n := n + 1) hrn (by omega)]
   omega
  have w1 : wrap64 ((r : Int) + 1) = ((r + 1 : Nat) : Int) := wrap_succ (n := n + 1) hrn (by omega)
  have hlen := Sp.row_len n most (l.drop (i + 1))
  have b1 := Sp.ext_bd n most (l.drop (i + 1)) (min (r + 1) n)
  have hdl : (l.drop (i + 1)).length ≤ 256 := by simp; omega
  have h0 : rd (Sp.row n most (l.drop (i + 1))) 0 = Sp.ext n most (l.drop (i + 1)) 0 := Sp.row_rd n most _ 0 (by omega)
  have hx9 : ((List.range r).map (Sp.ext n most (l.drop i)) ++ List.replicate (d + 1) 0).length = n + 1 := by simp; omega
  -- what stands behind the loud one's value
  have J : ∀ v : Int, v = (if r + 1 = n then Sp.ext n most (l.drop (i + 1)) (min (r + 1) n) + 1 else Sp.ext n most (l.drop (i + 1)) (min (r + 1) n)) → isobathref07_extreme.j2 (K + 2 * d + 2) l (n : Int) most (Sp.row n most (l.drop (i + 1))) (i : Int) ((List.range r).map (Sp.ext n most (l.drop i)) ++ List.replicate (d + 1) 0) (r : Int) v = isobathref07_extreme.l0 K l (n : Int) most (Sp.row n most (l.drop i)) (wrap64 ((i : Int) - 1)) := by
   intro v hv
   have S : ∀ u : Int, u = Sp.ext n most (l.drop i) r → isobathref07_extreme.l1 (K + 2 * d + 1) l (n : Int) most (Sp.row n most (l.drop (i + 1))) (i : Int) (((List.range r).map (Sp.ext n most (l.drop i)) ++ List.replicate (d + 1) 0).set ((r : Int)).toNat u) (wrap64 ((r : Int) + 1)) = isobathref07_extreme.l0 K l (n : Int) most (Sp.row n most (l.drop i)) (wrap64 ((i : Int) - 1)) := fun u hu => by
    rw [Sp.row_snoc n most _ r d u hu, w1]
    exact ih
   have E : Sp.ext n most (l.drop i) r = (if l[i] = 2 then v else if l[i] = 0 then Sp.ext n most (l.drop (i + 1)) 0 else if most = true then max v (Sp.ext n most (l.drop (i + 1)) 0) else min v (Sp.ext n most (l.drop (i + 1)) 0)) := by
    rw [drop_cons hi, Sp.ext, hv]
   rw [show K + 2 * d + 2 = (K + 2 * d + 1) + 1 by omega, isobathref07_extreme.j2, if_pos (by omega), if_pos (by omega), if_pos (by omega), rd_nat hi, h0]
   by_cases c1 : l[i] = 2
   ·rw [if_pos c1, if_pos (by omega), if_pos (by omega)]
    exact S v (by rw [E, if_pos c1])
   rw [if_neg c1]
   by_cases c2 : l[i] = 0
   ·rw [if_pos c2, if_pos (by omega), if_pos (by omega)]
    exact S _ (by rw [E, if_neg c1, if_pos c2])
   rw [if_neg c2]
   by_cases c3 : most = true
   ·rw [if_pos c3, if_pos (by omega), if_pos (by omega)]
    exact S _ (by rw [E, if_neg c1, if_neg c2, if_pos c3, Bo.mxE])
   rw [if_neg c3, if_pos (by omega), if_pos (by omega)]
   exact S _ (by rw [E, if_neg c1, if_neg c2, if_neg c3, Bo.mnE])
  rw [show K + 2 * (d + 1) + 1 = (K + 2 * d + 2) + 1 by omega, isobathref07_extreme.l1, if_pos (by omega), hm, if_pos (by omega), if_pos (by omega), Sp.row_rd n most _ _ (by omega), w1]
  by_cases c : r + 1 = n
  ·rw [if_pos (by omega), wrap_id (by omega) (by omega)]
   exact J _ (by rw [if_pos c])
  rw [if_neg (by omega)]
  exact J _ (by rw [if_neg c])
theorem Sp.ext_l0 (n : Nat) (hn : n ≤ 256) (l : List Int) (hl : l.length ≤ 256) (most : Bool) : ∀ (i : Nat), i ≤ l.length → isobathref07_extreme.l0 (i * (2 * (n + 1) + 2) + 1) l (n : Int) most (Sp.row n most (l.drop i)) ((i : Int) - 1) = some (Sp.ext n most l 0)
 | 0, _ => by
  rw [show 0 * (2 * (n + 1) + 2) + 1 = 0 + 1 by omega, isobathref07_extreme.l0, if_neg (by omega), if_pos (by rw [Sp.row_len]; omega), List.drop_zero]
  exact congrArg some (Sp.row_rd n most l 0 (by omega))
 | i + 1, hi => by
  have ih := Sp.ext_l0 n hn l hl most i (by omega)
  have h1 := Sp.ext_l1 n hn l hl most i (by omega) (n + 1) 0 (i * (2 * (n + 1) + 2) + 1) (by omega)
  rw [wrap_id (by omega) (by omega), ih] at h1
  rw [show (i + 1) * (2 * (n + 1) + 2) + 1 = (i * (2 * (n + 1) + 2) + 1 + 2 * (n + 1) + 1) + 1 by rw [Nat.succ_mul]; omega, isobathref07_extreme.l0, if_pos (by omega), wrap_id (n := (n : Int) + 1) (by omega) (by omega), if_pos (by omega), if_pos (by omega)]
  have e : ((i + 1 : Nat) : Int) - 1 = (i : Int) := by omega
  have e2 : ((n : Int) + 1).toNat = n + 1 := by omega
  rw [e, e2]
  exact h1
theorem Sp.row_nil (n : Nat) (most : Bool) : Sp.row n most [] = List.replicate (n + 1) 0 := by
 unfold Sp.row
 refine List.eq_replicate_iff.2 ⟨by simp, fun b hb => ?_⟩
 obtain ⟨r, -, rfl⟩ := List.mem_map.1 hb
 rfl
theorem Sp.ext_f (n : Nat) (hn : n ≤ 256) (l : List Int) (hl : l.length ≤ 256) (most : Bool) {k : Nat} (hk : 140000 ≤ k) : isobathref07_extreme.f k l (n : Int) most = some (Sp.ext n most l 0) := by
 refine LeO.up (isobathref07_extreme.mono l (n : Int) most) (k := l.length * (2 * (n + 1) + 2) + 1) ?_ ?_
 ·have h1 : l.length * (2 * (n + 1) + 2) ≤ 256 * 516 := Nat.mul_le_mul hl (by omega)
  omega
 have h := Sp.ext_l0 n hn l hl most l.length (Nat.le_refl _)
 unfold isobathref07_extreme.f
 rw [wrap_id (n := (n : Int) + 1) (by omega) (by omega), if_pos (by omega), if_pos (by omega), wrap_id (by omega) (by omega)]
 rw [List.drop_length, Sp.row_nil] at h
 have e2 : ((n : Int) + 1).toNat = n + 1 := by omega
 rw [e2]
 exact h
theorem Sp.count_r (l : List Int) (n : Int) {k : Nat} (hk : 140000 ≤ k) : isobathref07_Count.f k l n = some (Sp.count l n) := by
 unfold isobathref07_Count.f Sp.count
 rw [Sp.ans_r l n (by omega), Option.bind_some, Option.bind_some]
 by_cases h : Sp.ans l n = 0
 ·obtain ⟨h1, _, h3, h4⟩ := Sp.ans_ok h
  have e : ((n.toNat : Nat) : Int) = n := by omega
  have f1 := Sp.ext_f n.toNat (by omega) l h1 false hk
  have f2 := Sp.ext_f n.toNat (by omega) l h1 true hk
  rw [e] at f1 f2
  rw [if_pos h, if_pos h, f1, f2]
  rfl
 rw [if_neg h, if_neg h]
theorem Sp.choice_r (l : List Int) (n : Int) {k : Nat} (hk : 300 ≤ k) : isobathref07_Choice.f k l n = some (Sp.ans l n) := by
 unfold isobathref07_Choice.f
 rw [Sp.ans_r l n hk]
 rfl
set_option maxHeartbeats 8000000 in
set_option maxRecDepth 100000 in
theorem sound_Fewest.calls (k : Nat) (A0 : Option Addr) (c0 : Nat) (l0 : List Int) (a1 : Int) (r1 : List Bool) (r2 : Int) (w : World) (hr0 : Kd.C (Kd.int .i64) w A0 l0.length l0) (hc0 : l0.length ≤ c0) (h : sound_Fewest.f k l0 a1 = some (r1, r2)) :
  Calls Try.prog 33 #[.slice A0 l0.length c0, .int .i64 a1] w fun e w' => ∃ v0_ : Value, e = .returned (.tuple #[v0_, .int .i64 r2]) ∧ Kd.R Kd.bool 4 w' w.heap.size (fun _ => True) v0_ r1 ∧ Below w.heap.size w w' := by
 have HR0 := zam hr0
 have HC0 := zam hc0
 clear hr0 hc0
 have HB := zam (Below.refl w.heap.size w)
 have H : ((sound_checkAnswers.f k l0 a1).bind fun t101 => (if t101 = 0 then ((sound_fewest.f k l0 a1).bind fun bt102 => (some (bt102.1, 0))) else (some (([] : List Bool), t101)))) = some (r1, r2) := h
 clear h
 replace H := Option.bind_eq_some_iff.mp H
 obtain ⟨t101, A30, H⟩ := H
 replace H : (if t101 = 0 then ((sound_fewest.f k l0 a1).bind fun bt102 => (some (bt102.1, 0))) else (some (([] : List Bool), t101))) = some (r1, r2) := H
 have A3 := zam A30
 clear A30
 by_cases c4 : t101 = 0
 ·rw [if_pos c4] at H
  have c4b0 : (t101 == 0) = true := beq_iff_eq.mpr c4
  have c4b1 : (t101 != 0) = false := bne_eq_false_iff_eq.mpr c4
  clear c4
  replace H := Option.bind_eq_some_iff.mp H
  obtain ⟨⟨t102, t103⟩, A50, H⟩ := H
  replace H : (some (t102, 0)) = some (r1, r2) := H
  have A5 := zam A50
  clear A50
  simp only [Option.some.injEq, Prod.mk.injEq] at H
  obtain ⟨rfl, rfl⟩ := H
  go_enter Try.func33, Try.ntmps33
  go_wp2_with (first | ((with_reducible refine zgc (f := 73) rfl ?_); refine goesL_ (some 11) rfl rfl Try.func73 (by kernel_rfl) rfl #[.slice A0 l0.length c0, .int .i64 a1] rfl (by (try simp only [zmt, List.map_cons, List.map_nil]); first | done | rfl | (simp only [zld, zlt]; rfl)) ?_; (with_reducible refine (sound_checkAnswers.calls k _ _ l0 a1 t101 _ ?side1 ?side2 A3.out).mono ?_); (case side1 => repeat (first | exact HR0.out | (with_reducible refine Kd.C_alloc ?_ _) | (with_reducible refine Kd.C_drewN ?_ _) | (with_reducible refine Kd.C_drew ?_))); (case side2 => exact HC0.out); rintro e w' ⟨rfl, ⟨nd, rfl⟩⟩; refine ⟨_, rfl, ?_⟩) | ((with_reducible refine zgc (f := 74) rfl ?_); refine goesL_ (some 18) rfl rfl Try.func74 (by kernel_rfl) rfl #[.slice A0 l0.length c0, .int .i64 a1] rfl (by (try simp only [zmt, List.map_cons, List.map_nil]); first | done | rfl | (simp only [zld, zlt]; rfl)) ?_; (with_reducible refine (sound_fewest.calls k _ _ l0 a1 t102 t103 _ ?side1 ?side2 A5.out).mono ?_); (case side1 => repeat (first | exact HR0.out | (with_reducible refine Kd.C_alloc ?_ _) | (with_reducible refine Kd.C_drewN ?_ _) | (with_reducible refine Kd.C_drew ?_))); (case side2 => exact HC0.out); rintro e w6 ⟨v104, rfl, ho0, hb⟩; refine ⟨_, rfl, ?_⟩; have n0_ := zam (Kd.R_lower ho0 (zbz (by repeat (first | (with_reducible first | exact HB.out | apply zba | apply zbn | apply zb1) | exact HB.out)))); have n1_ := zam (zbt (by repeat (first | (with_reducible first | exact HB.out | apply zba | apply zbn | apply zb1) | exact HB.out)) hb); clear HB; have HO105 := n0_; have HB := n1_; clear n0_ n1_; (try clear hb); (try clear hb2); (try clear hk); (try clear hi); (try clear ho0)))
  go_ret2
  exact ⟨_, by first | rfl | (simp [errW_none, errW_some] <;> rfl) | (simp [*, errW_none, errW_some] <;> rfl), by (with_reducible repeat (first | apply zRa | apply zRn | apply zRd)); exact HO105.out, by repeat (first | (with_reducible first | exact HB.out | apply zba | apply zbn | apply zb1) | exact HB.out)⟩
 rw [if_neg c4] at H
 have c4b0 : (t101 == 0) = false := beq_eq_false_iff_ne.mpr c4
 have c4b1 : (t101 != 0) = true := bne_iff_ne.mpr c4
 simp only [Option.some.injEq, Prod.mk.injEq] at H
 obtain ⟨rfl, rfl⟩ := H
 go_enter Try.func33, Try.ntmps33
 go_wp2_with (first | ((with_reducible refine zgc (f := 73) rfl ?_); refine goesL_ (some 11) rfl rfl Try.func73 (by kernel_rfl) rfl #[.slice A0 l0.length c0, .int .i64 a1] rfl (by (try simp only [zmt, List.map_cons, List.map_nil]); first | done | rfl | (simp only [zld, zlt]; rfl)) ?_; (with_reducible refine (sound_checkAnswers.calls k _ _ l0 a1 t101 _ ?side1 ?side2 A3.out).mono ?_); (case side1 => repeat (first | exact HR0.out | (with_reducible refine Kd.C_alloc ?_ _) | (with_reducible refine Kd.C_drewN ?_ _) | (with_reducible refine Kd.C_drew ?_))); (case side2 => exact HC0.out); rintro e w' ⟨rfl, ⟨nd, rfl⟩⟩; refine ⟨_, rfl, ?_⟩))
 go_ret2
 exact ⟨_, by first | rfl | (simp [errW_none, errW_some] <;> rfl) | (simp [*, errW_none, errW_some] <;> rfl), by first | exact Kd.R_nil _ _ _ _ _ | exact Kd.N_nil _ _ _ _ _ | exact Kd.V_nil _ _ _ _ _ | exact Kd.Q_nil _ _ _ _ _ | exact Kd.S_nil _ _ _ _ _, by repeat (first | (with_reducible first | exact HB.out | apply zba | apply zbn | apply zb1) | exact HB.out)⟩
set_option maxHeartbeats 8000000 in
set_option maxRecDepth 100000 in
theorem sound_Most.calls (k : Nat) (A0 : Option Addr) (c0 : Nat) (l0 : List Int) (a1 : Int) (r1 : List Bool) (r2 : Int) (w : World) (hr0 : Kd.C (Kd.int .i64) w A0 l0.length l0) (hc0 : l0.length ≤ c0) (h : sound_Most.f k l0 a1 = some (r1, r2)) :
  Calls Try.prog 34 #[.slice A0 l0.length c0, .int .i64 a1] w fun e w' => ∃ v0_ : Value, e = .returned (.tuple #[v0_, .int .i64 r2]) ∧ Kd.R Kd.bool 4 w' w.heap.size (fun _ => True) v0_ r1 ∧ Below w.heap.size w w' := by
 have HR0 := zam hr0
 have HC0 := zam hc0
 clear hr0 hc0
 have HB := zam (Below.refl w.heap.size w)
 have H : ((sound_checkAnswers.f k l0 a1).bind fun t101 => (if t101 = 0 then ((sound_most.f k l0 a1).bind fun bt102 => (some (bt102.1, 0))) else (some (([] : List Bool), t101)))) = some (r1, r2) := h
 clear h
 replace H := Option.bind_eq_some_iff.mp H
 obtain ⟨t101, A30, H⟩ := H
 replace H : (if t101 = 0 then ((sound_most.f k l0 a1).bind fun bt102 => (some (bt102.1, 0))) else (some (([] : List Bool), t101))) = some (r1, r2) := H
 have A3 := zam A30
 clear A30
 by_cases c4 : t101 = 0
 ·rw [if_pos c4] at H
  have c4b0 : (t101 == 0) = true := beq_iff_eq.mpr c4
  have c4b1 : (t101 != 0) = false := bne_eq_false_iff_eq.mpr c4
  clear c4
  replace H := Option.bind_eq_some_iff.mp H
  obtain ⟨⟨t102, t103⟩, A50, H⟩ := H
  replace H : (some (t102, 0)) = some (r1, r2) := H
  have A5 := zam A50
  clear A50
  simp only [Option.some.injEq, Prod.mk.injEq] at H
  obtain ⟨rfl, rfl⟩ := H
  go_enter Try.func34, Try.ntmps34
  go_wp2_with (first | ((with_reducible refine zgc (f := 73) rfl ?_); refine goesL_ (some 11) rfl rfl Try.func73 (by kernel_rfl) rfl #[.slice A0 l0.length c0, .int .i64 a1] rfl (by (try simp only [zmt, List.map_cons, List.map_nil]); first | done | rfl | (simp only [zld, zlt]; rfl)) ?_; (with_reducible refine (sound_checkAnswers.calls k _ _ l0 a1 t101 _ ?side1 ?side2 A3.out).mono ?_); (case side1 => repeat (first | exact HR0.out | (with_reducible refine Kd.C_alloc ?_ _) | (with_reducible refine Kd.C_drewN ?_ _) | (with_reducible refine Kd.C_drew ?_))); (case side2 => exact HC0.out); rintro e w' ⟨rfl, ⟨nd, rfl⟩⟩; refine ⟨_, rfl, ?_⟩) | ((with_reducible refine zgc (f := 75) rfl ?_); refine goesL_ (some 18) rfl rfl Try.func75 (by kernel_rfl) rfl #[.slice A0 l0.length c0, .int .i64 a1] rfl (by (try simp only [zmt, List.map_cons, List.map_nil]); first | done | rfl | (simp only [zld, zlt]; rfl)) ?_; (with_reducible refine (sound_most.calls k _ _ l0 a1 t102 t103 _ ?side1 ?side2 A5.out).mono ?_); (case side1 => repeat (first | exact HR0.out | (with_reducible refine Kd.C_alloc ?_ _) | (with_reducible refine Kd.C_drewN ?_ _) | (with_reducible refine Kd.C_drew ?_))); (case side2 => exact HC0.out); rintro e w6 ⟨v104, rfl, ho0, hb⟩; refine ⟨_, rfl, ?_⟩; have n0_ := zam (Kd.R_lower ho0 (zbz (by repeat (first | (with_reducible first | exact HB.out | apply zba | apply zbn | apply zb1) | exact HB.out)))); have n1_ := zam (zbt (by repeat (first | (with_reducible first | exact HB.out | apply zba | apply zbn | apply zb1) | exact HB.out)) hb); clear HB; have HO105 := n0_; have HB := n1_; clear n0_ n1_; (try clear hb); (try clear hb2); (try clear hk); (try clear hi); (try clear ho0)))
  go_ret2
  exact ⟨_, by first | rfl | (simp [errW_none, errW_some] <;> rfl) | (simp [*, errW_none, errW_some] <;> rfl), by (with_reducible repeat (first | apply zRa | apply zRn | apply zRd)); exact HO105.out, by repeat (first | (with_reducible first | exact HB.out | apply zba | apply zbn | apply zb1) | exact HB.out)⟩
 rw [if_neg c4] at H
 have c4b0 : (t101 == 0) = false := beq_eq_false_iff_ne.mpr c4
 have c4b1 : (t101 != 0) = true := bne_iff_ne.mpr c4
 simp only [Option.some.injEq, Prod.mk.injEq] at H
 obtain ⟨rfl, rfl⟩ := H
 go_enter Try.func34, Try.ntmps34
 go_wp2_with (first | ((with_reducible refine zgc (f := 73) rfl ?_); refine goesL_ (some 11) rfl rfl Try.func73 (by kernel_rfl) rfl #[.slice A0 l0.length c0, .int .i64 a1] rfl (by (try simp only [zmt, List.map_cons, List.map_nil]); first | done | rfl | (simp only [zld, zlt]; rfl)) ?_; (with_reducible refine (sound_checkAnswers.calls k _ _ l0 a1 t101 _ ?side1 ?side2 A3.out).mono ?_); (case side1 => repeat (first | exact HR0.out | (with_reducible refine Kd.C_alloc ?_ _) | (with_reducible refine Kd.C_drewN ?_ _) | (with_reducible refine Kd.C_drew ?_))); (case side2 => exact HC0.out); rintro e w' ⟨rfl, ⟨nd, rfl⟩⟩; refine ⟨_, rfl, ?_⟩))
 go_ret2
 exact ⟨_, by first | rfl | (simp [errW_none, errW_some] <;> rfl) | (simp [*, errW_none, errW_some] <;> rfl), by first | exact Kd.R_nil _ _ _ _ _ | exact Kd.N_nil _ _ _ _ _ | exact Kd.V_nil _ _ _ _ _ | exact Kd.Q_nil _ _ _ _ _ | exact Kd.S_nil _ _ _ _ _, by repeat (first | (with_reducible first | exact HB.out | apply zba | apply zbn | apply zb1) | exact HB.out)⟩
def isobathlaw07_sameAnswers.l0 : Nat → List Int → List Int → Int → Option (Bool)
 | 0, _, _, _ => none
 | k + 1, x0, x1, x5 => if x5 < (x0.length : Int) then (if 0 ≤ x5 then (if x5 < (x1.length : Int) then (if (rd x0 x5) = (rd x1 x5) then (isobathlaw07_sameAnswers.l0 k x0 x1 (wrap64 (x5 + 1))) else (some false)) else (none)) else (none)) else (some true)
def isobathlaw07_sameAnswers.f (k : Nat) (l0 : List Int) (l1 : List Int) : Option (Bool) := if (l0.length : Int) = (l1.length : Int) then (isobathlaw07_sameAnswers.l0 k l0 l1 0) else (some false)
set_option maxHeartbeats 8000000 in
set_option maxRecDepth 100000 in
theorem isobathlaw07_sameAnswers.calls (k : Nat) (A0 : Option Addr) (c0 : Nat) (l0 : List Int) (A1 : Option Addr) (c1 : Nat) (l1 : List Int) (r : Bool) (w : World) (hr0 : Kd.C (Kd.int .i64) w A0 l0.length l0) (hc0 : l0.length ≤ c0) (hr1 : Kd.C (Kd.int .i64) w A1 l1.length l1) (hc1 : l1.length ≤ c1) (h : isobathlaw07_sameAnswers.f k l0 l1 = some r) :
  Calls Try.prog 46 #[.slice A0 l0.length c0, .slice A1 l1.length c1] w fun e w' => e = .returned (.bool r) ∧ Drawn0 w w' := by
 have HR0 := zam hr0
 have HC0 := zam hc0
 clear hr0 hc0
 have HR1 := zam hr1
 have HC1 := zam hc1
 clear hr1 hc1
 have H : (if (l0.length : Int) = (l1.length : Int) then (isobathlaw07_sameAnswers.l0 k l0 l1 0) else (some false)) = some r := h
 clear h
 by_cases c3 : (l0.length : Int) = (l1.length : Int)
 ·rw [if_pos c3] at H
  have c3b0 : ((l0.length : Int) == (l1.length : Int)) = true := beq_iff_eq.mpr c3
  have c3b1 : ((l0.length : Int) != (l1.length : Int)) = false := bne_eq_false_iff_eq.mpr c3
  have c3b2 : (l0.length == l1.length) = true := by first | simpa using c3 | (simp at c3 ⊢; omega)
  clear c3
  have H' := zam H
  clear H
  go_enter Try.func46, Try.ntmps46
  go_wp2
  repeat (go_quiet (fail); try go_wp2)
  go_loopg [5] k (fun kq v5 w' => ∃ (x5_1 : Int), v5 = .int .i64 x5_1 ∧ Aside0 (isobathlaw07_sameAnswers.l0 kq l0 l1 x5_1 = some r) ∧ Aside0 (kq ≤ k) ∧ Drawn0 w w')
  case atStart => exact ⟨(0), (by first | rfl | (simp; done) | (simp [*]; done)), H', ⟨Nat.le_refl _⟩, by repeat (first | exact Drawn0.refl _ | apply Drawn0.step)⟩
  case round =>
   clear H'
   try clear c1
   try clear p2
   try clear c3
   try clear c3b0
   try clear c3b1
   try clear c3b2
   obtain ⟨x5_1, rfl, HA, HK1, ⟨m1, rfl⟩⟩ := hrel
   cases gk with
   | zero => exact absurd HA.out (by simp [isobathlaw07_sameAnswers.l0])
   | succ k1 =>
    have H := HA.out
    clear HA
    simp only [isobathlaw07_sameAnswers.l0] at H
    by_cases c4 : x5_1 < (l0.length : Int)
    ·rw [if_pos c4] at H
     have c4b0 : decide (x5_1 < (l0.length : Int)) = true := zdt c4
     clear c4
     by_cases c5 : 0 ≤ x5_1
     ·rw [if_pos c5] at H
      have c5b0 : decide (0 ≤ x5_1) = true := zdt c5
      clear c5
      by_cases c6 : x5_1 < (l1.length : Int)
      ·rw [if_pos c6] at H
       have c6b0 : decide (x5_1 < (l1.length : Int)) = true := zdt c6
       clear c6
       by_cases c7 : (rd l0 x5_1) = (rd l1 x5_1)
       ·rw [if_pos c7] at H
        have c7b0 : ((rd l0 x5_1) == (rd l1 x5_1)) = true := beq_iff_eq.mpr c7
        have c7b1 : ((rd l0 x5_1) != (rd l1 x5_1)) = false := bne_eq_false_iff_eq.mpr c7
        clear c7
        have H' := zam H
        clear H
        have p101 : 0 ≤ (x5_1 : Int) := zod (by first | (with_reducible assumption) | assumption)
        have q101 : x5_1 < (l0.length : Int) := zod (by first | (with_reducible assumption) | assumption)
        obtain ⟨ad101, e101, hx101_0⟩ := Kd.at_int HR0.out x5_1 p101 q101
        cases e101
        replace p101 := eq_true p101
        replace q101 := eq_true q101
        have p102 : 0 ≤ (x5_1 : Int) := zod (by first | (with_reducible assumption) | assumption)
        have q102 : x5_1 < (l1.length : Int) := zod (by first | (with_reducible assumption) | assumption)
        obtain ⟨ad102, e102, hx102_0⟩ := Kd.at_int HR1.out x5_1 p102 q102
        cases e102
        replace p102 := eq_true p102
        replace q102 := eq_true q102
        go_wp2
        repeat (go_quiet (fail); try go_wp2)
        go_roundg k1
        case measure => have := HK1.out; omega
        case rel => exact ⟨(wrap64 (x5_1 + 1)), (by first | rfl | (simp; done) | (simp [*]; done)), H', ⟨by have := HK1.out; omega⟩, by repeat (first | exact Drawn0.refl _ | apply Drawn0.step)⟩
       rw [if_neg c7] at H
       have c7b0 : ((rd l0 x5_1) == (rd l1 x5_1)) = false := beq_eq_false_iff_ne.mpr c7
       have c7b1 : ((rd l0 x5_1) != (rd l1 x5_1)) = true := bne_iff_ne.mpr c7
       obtain rfl := zsi H
       have p101 : 0 ≤ (x5_1 : Int) := zod (by first | (with_reducible assumption) | assumption)
       have q101 : x5_1 < (l0.length : Int) := zod (by first | (with_reducible assumption) | assumption)
       obtain ⟨ad101, e101, hx101_0⟩ := Kd.at_int HR0.out x5_1 p101 q101
       cases e101
       replace p101 := eq_true p101
       replace q101 := eq_true q101
       have p102 : 0 ≤ (x5_1 : Int) := zod (by first | (with_reducible assumption) | assumption)
       have q102 : x5_1 < (l1.length : Int) := zod (by first | (with_reducible assumption) | assumption)
       obtain ⟨ad102, e102, hx102_0⟩ := Kd.at_int HR1.out x5_1 p102 q102
       cases e102
       replace p102 := eq_true p102
       replace q102 := eq_true q102
       go_wp2
       repeat (go_quiet (fail); try go_wp2)
       go_ret
       exact ⟨by first | rfl | (simp; done) | (simp [*]; done), by repeat (first | exact Drawn0.refl _ | apply Drawn0.step)⟩
      rw [if_neg c6] at H
      exact absurd H (by simp)
     rw [if_neg c5] at H
     exact absurd H (by simp)
    rw [if_neg c4] at H
    have c4b0 : decide (x5_1 < (l0.length : Int)) = false := zdf c4
    clear c4
    obtain rfl := zsi H
    go_wp2
    repeat (go_quiet (fail); try go_wp2)
    go_ret
    exact ⟨by first | rfl | (simp; done) | (simp [*]; done), by repeat (first | exact Drawn0.refl _ | apply Drawn0.step)⟩
 rw [if_neg c3] at H
 have c3b0 : ((l0.length : Int) == (l1.length : Int)) = false := beq_eq_false_iff_ne.mpr c3
 have c3b1 : ((l0.length : Int) != (l1.length : Int)) = true := bne_iff_ne.mpr c3
 have c3b2 : (l0.length == l1.length) = false := by first | simpa using c3 | (simp at c3 ⊢; omega)
 obtain rfl := zsi H
 go_enter Try.func46, Try.ntmps46
 go_wp2
 repeat (go_quiet (fail); try go_wp2)
 go_ret
 exact ⟨by first | rfl | (simp; done) | (simp [*]; done), by repeat (first | exact Drawn0.refl _ | apply Drawn0.step)⟩
end Go.Proofs.Ytaheamdoldiojaa.P
