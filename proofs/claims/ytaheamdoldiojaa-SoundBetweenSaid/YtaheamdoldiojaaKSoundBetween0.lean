/- whatever a choice that fits is, its calls lie in Count; Fewest and Most fit, and have its ends. Part 1 of 1. -/
-- Put together by wip/tools/shake.py, a program of this work: out of the words that the kit's print tool (print.sh) writes for a claim and what wip/tools/xprint.py prints, those that this claim reaches, and this work's own texts.
import Derived.Below
import Derived.Deep.Draws
import Derived.Deep.AppendLies
import Derived.Maps.AppendAt
import Derived.OwnWalk
import Derived.Laws.BytesArg
import Derived.Laws.MakeOwn
import Derived.Laws.OwnMore
import Derived.Deep.OwnRows
import Derived.Tactics
import Derived.Lib.ConvBytes
import Derived.Laws.Slices
import Derived.WalkKit
import Derived.KernelRfl
import Derived.RowKit3
import Derived.Deep.LoopGhost
import Derived.Deep.QuietTactic
import Derived.BigQuiet
import Derived.WideLaws
import Derived.Deep.DeepCutAuto
import Derived.Deep.CutBlock
import Derived.Deep.RegionHeld3
import Derived.Laws.Rows
import Derived.Lib.AppendStr
import Derived.ArgAppend
import Derived.Laws.IdiomCopy
import Derived.RowKit
import Derived.OrdersHeld
import Derived.Laws.BitsLemmas
import Derived.Laws.StructEq
import Derived.Test.YtaheamdoldiojaaProg
import Derived.Laws.CopyRow
import Derived.Laws.CopyOwn
import Derived.Outline
import Derived.StillTailTactics
import Derived.RegionTactic
import Derived.BigRegion
import Derived.Laws.EntriesVeiled
import Derived.Laws.Externs
import Derived.RangeFuncBox
import Derived.RangeFuncNested
import Derived.RangeFuncBound
import Derived.RangeFuncCalls
import Derived.RangeFuncLeaves
import Derived.Shelf.Abstract
import Derived.Shelf.RegionOpen
import Derived.OwnWalkIn
import Derived.TacticsInMore
import Derived.LoopNIn
import Derived.LoopIn
import Derived.Sort.QuietIn
import Derived.Sort.LoopGhostIn
import Derived.Deep.Slices
import Derived.OpenShut
import Derived.Test.YtaheamdoldiojaaRows
import Derived.ProofKit
import Derived.ShutString
import Derived.ChangeOld
import Derived.SizedLaws
import Derived.Carry
import Derived.Test.YtaheamdoldiojaaKSnd4
set_option linter.unusedVariables false
set_option linter.unusedSimpArgs false
namespace Go.Proofs.YtaheamdoldiojaaW.PrintWords
open Go.RowKit
namespace Kd
section
variable {w W : World} {A : Option Addr} {n : Nat}
theorem at_bool {xs : List Bool} (h : Kd.bool.C w A n xs) (i : Int) (h0 : 0 ≤ i) (h1 : i < n) : ∃ ad, A = some ad ∧ w.cell? (ad.add i.toNat) = some (.bool (rdOf false xs i)) :=
 ReadsOf.at_ (reads_of_C (enc := Value.bool) (d := false) (h1 := fun _ => rfl) h) i h0 h1
variable {α : Type} {enc : α → Value} {h1 : ∀ x, (enc x).oneCell' = true} {e base g cap : Nat} {ok : Nat → Prop} {xs : List α}
end
end Kd
end Go.Proofs.YtaheamdoldiojaaW.PrintWords
namespace Go.Proofs.Ytaheamdoldiojaa.P
open Go.RowKit Go.Proofs.YtaheamdoldiojaaW.PrintWords Go.Proofs.YtaheamdoldiojaaW.PrintLast Go.Proofs.YtaheamdoldiojaaW.PrintMore
attribute [local go_sem] max2_int min2_int max_two min_two max_three min_three max_four min_four   -- for this text's walks alone
set_option linter.unusedVariables false
set_option linter.unusedSimpArgs false
theorem info4 : (Try.prog.info? 4).map (fun i => (i.zero, i.size, i.bytes)) = some (some (.bool false), 1, 1) := by kernel_rfl
def isobathref07_answers.l0 : Nat → List Int → Int → Int → Option (Int)
 | 0, _, _, _ => none
 | k + 1, x0, x1, x5 => if x5 < (x0.length : Int) then (if 0 ≤ x5 then (if (rd x0 x5) < 0 then (some 2) else (if (rd x0 x5) > 2 then (some 2) else (isobathref07_answers.l0 k x0 x1 (wrap64 (x5 + 1))))) else (none)) else (if x1 < 1 then (some 3) else (if x1 > 256 then (some 3) else (some 0)))
def isobathref07_answers.f (k : Nat) (l0 : List Int) (a1 : Int) : Option (Int) := if (l0.length : Int) > 256 then (some 6) else (isobathref07_answers.l0 k l0 a1 0)
set_option maxHeartbeats 8000000 in
set_option maxRecDepth 100000 in
theorem isobathref07_answers.calls (k : Nat) (A0 : Option Addr) (c0 : Nat) (l0 : List Int) (a1 : Int) (r : Int) (w : World) (hr0 : Kd.C (Kd.int .i64) w A0 l0.length l0) (hc0 : l0.length ≤ c0) (h : isobathref07_answers.f k l0 a1 = some r) :
  Calls Try.prog 76 #[.slice A0 l0.length c0, .int .i64 a1] w fun e w' => e = .returned (.int .i64 r) ∧ Drawn0 w w' := by
 have HR0 := zam hr0
 have HC0 := zam hc0
 clear hr0 hc0
 have H : (if (l0.length : Int) > 256 then (some 6) else (isobathref07_answers.l0 k l0 a1 0)) = some r := h
 clear h
 by_cases c3 : (l0.length : Int) > 256
 ·rw [if_pos c3] at H
  have c3b0 : decide (256 < (l0.length : Int)) = true := zdt c3
  have c3b1 : decide (256 < l0.length) = true := zdt (by omega)
  clear c3
  obtain rfl := zsi H
  go_enter Try.func76, Try.ntmps76
  go_wp2
  go_ret
  exact ⟨by first | rfl | (simp; done) | (simp [*]; done), by repeat (first | exact Drawn0.refl _ | apply Drawn0.step)⟩
 rw [if_neg c3] at H
 have c3b0 : decide (256 < (l0.length : Int)) = false := zdf c3
 have c3b1 : decide (256 < l0.length) = false := zdf (by omega)
 clear c3
 have H' := zam H
 clear H
 go_enter Try.func76, Try.ntmps76
 go_wp2
 go_loopg [5] k (fun kq v5 w' => ∃ (x5_1 : Int), v5 = .int .i64 x5_1 ∧ Aside0 (isobathref07_answers.l0 kq l0 a1 x5_1 = some r) ∧ Aside0 (kq ≤ k) ∧ Drawn0 w w')
 case atStart => exact ⟨(0), (by first | rfl | (simp; done) | (simp [*]; done)), H', ⟨Nat.le_refl _⟩, by repeat (first | exact Drawn0.refl _ | apply Drawn0.step)⟩
 case round =>
  clear H'
  try clear p2
  try clear c3
  try clear c3b0
  try clear c3b1
  obtain ⟨x5_1, rfl, HA, HK1, ⟨m1, rfl⟩⟩ := hrel
  cases gk with
  | zero => exact absurd HA.out (by simp [isobathref07_answers.l0])
  | succ k1 =>
   have H := HA.out
   clear HA
   simp only [isobathref07_answers.l0] at H
   by_cases c4 : x5_1 < (l0.length : Int)
   ·rw [if_pos c4] at H
    have c4b0 : decide (x5_1 < (l0.length : Int)) = true := zdt c4
    clear c4
    by_cases c5 : 0 ≤ x5_1
    ·rw [if_pos c5] at H
     have c5b0 : decide (0 ≤ x5_1) = true := zdt c5
     clear c5
     by_cases c6 : (rd l0 x5_1) < 0
     ·rw [if_pos c6] at H
      have c6b0 : decide ((rd l0 x5_1) < 0) = true := zdt c6
      clear c6
      obtain rfl := zsi H
      have p101 : 0 ≤ (x5_1 : Int) := zod (by first | (with_reducible assumption) | assumption)
      have q101 : x5_1 < (l0.length : Int) := zod (by first | (with_reducible assumption) | assumption)
      obtain ⟨ad101, e101, hx101_0⟩ := Kd.at_int HR0.out x5_1 p101 q101
      cases e101
      replace p101 := eq_true p101
      replace q101 := eq_true q101
      go_wp2
      go_ret
      exact ⟨by first | rfl | (simp; done) | (simp [*]; done), by repeat (first | exact Drawn0.refl _ | apply Drawn0.step)⟩
     rw [if_neg c6] at H
     have c6b0 : decide ((rd l0 x5_1) < 0) = false := zdf c6
     clear c6
     by_cases c7 : (rd l0 x5_1) > 2
     ·rw [if_pos c7] at H
      have c7b0 : decide (2 < (rd l0 x5_1)) = true := zdt c7
      clear c7
      obtain rfl := zsi H
      have p101 : 0 ≤ (x5_1 : Int) := zod (by first | (with_reducible assumption) | assumption)
      have q101 : x5_1 < (l0.length : Int) := zod (by first | (with_reducible assumption) | assumption)
      obtain ⟨ad101, e101, hx101_0⟩ := Kd.at_int HR0.out x5_1 p101 q101
      cases e101
      replace p101 := eq_true p101
      replace q101 := eq_true q101
      have p102 : 0 ≤ (x5_1 : Int) := zod (by first | (with_reducible assumption) | assumption)
      have q102 : x5_1 < (l0.length : Int) := zod (by first | (with_reducible assumption) | assumption)
      obtain ⟨ad102, e102, hx102_0⟩ := Kd.at_int HR0.out x5_1 p102 q102
      obtain rfl : ad101 = ad102 := (by injection e102)
      replace p102 := eq_true p102
      replace q102 := eq_true q102
      go_wp2
      go_ret
      exact ⟨by first | rfl | (simp; done) | (simp [*]; done), by repeat (first | exact Drawn0.refl _ | apply Drawn0.step)⟩
     rw [if_neg c7] at H
     have c7b0 : decide (2 < (rd l0 x5_1)) = false := zdf c7
     clear c7
     have H' := zam H
     clear H
     have p101 : 0 ≤ (x5_1 : Int) := zod (by first | (with_reducible assumption) | assumption)
     have q101 : x5_1 < (l0.length : Int) := zod (by first | (with_reducible assumption) | assumption)
     obtain ⟨ad101, e101, hx101_0⟩ := Kd.at_int HR0.out x5_1 p101 q101
     cases e101
     replace p101 := eq_true p101
     replace q101 := eq_true q101
     have p102 : 0 ≤ (x5_1 : Int) := zod (by first | (with_reducible assumption) | assumption)
     have q102 : x5_1 < (l0.length : Int) := zod (by first | (with_reducible assumption) | assumption)
     obtain ⟨ad102, e102, hx102_0⟩ := Kd.at_int HR0.out x5_1 p102 q102
     obtain rfl : ad101 = ad102 := (by injection e102)
     replace p102 := eq_true p102
     replace q102 := eq_true q102
     go_wp2
     go_roundg k1
     case measure => have := HK1.out; omega
     case rel => exact ⟨(wrap64 (x5_1 + 1)), (by first | rfl | (simp; done) | (simp [*]; done)), H', ⟨by have := HK1.out; omega⟩, by repeat (first | exact Drawn0.refl _ | apply Drawn0.step)⟩
    rw [if_neg c5] at H
    exact absurd H (by simp)
   rw [if_neg c4] at H
   have c4b0 : decide (x5_1 < (l0.length : Int)) = false := zdf c4
   clear c4
   by_cases c8 : a1 < 1
   ·rw [if_pos c8] at H
    have c8b0 : decide (a1 < 1) = true := zdt c8
    clear c8
    obtain rfl := zsi H
    go_wp2
    go_ret
    exact ⟨by first | rfl | (simp; done) | (simp [*]; done), by repeat (first | exact Drawn0.refl _ | apply Drawn0.step)⟩
   rw [if_neg c8] at H
   have c8b0 : decide (a1 < 1) = false := zdf c8
   clear c8
   by_cases c9 : a1 > 256
   ·rw [if_pos c9] at H
    have c9b0 : decide (256 < a1) = true := zdt c9
    clear c9
    obtain rfl := zsi H
    go_wp2
    go_ret
    exact ⟨by first | rfl | (simp; done) | (simp [*]; done), by repeat (first | exact Drawn0.refl _ | apply Drawn0.step)⟩
   rw [if_neg c9] at H
   have c9b0 : decide (256 < a1) = false := zdf c9
   clear c9
   obtain rfl := zsi H
   go_wp2
   go_ret
   exact ⟨by first | rfl | (simp; done) | (simp [*]; done), by repeat (first | exact Drawn0.refl _ | apply Drawn0.step)⟩
def sound_Calls.f (k : Nat) (l0 : List Bool) (a1 : Int) : Option (Int × Int) := if (l0.length : Int) > 256 then (some (0, 6)) else (if a1 < 1 then (sound_Calls.j0 k l0 a1 0 true) else (sound_Calls.j0 k l0 a1 0 (decide (a1 > 256))))
set_option maxHeartbeats 8000000 in
set_option maxRecDepth 100000 in
theorem sound_Calls.calls (k : Nat) (A0 : Option Addr) (c0 : Nat) (l0 : List Bool) (a1 : Int) (r1 : Int) (r2 : Int) (w : World) (hr0 : Kd.C Kd.bool w A0 l0.length l0) (hc0 : l0.length ≤ c0) (h : sound_Calls.f k l0 a1 = some (r1, r2)) :
  Calls Try.prog 32 #[.slice A0 l0.length c0, .int .i64 a1] w fun e w' => e = .returned (.tuple #[.int .i64 r1, .int .i64 r2]) ∧ Drawn0 w w' := by
 have HR0 := zam hr0
 have HC0 := zam hc0
 clear hr0 hc0
 have H : (if (l0.length : Int) > 256 then (some (0, 6)) else (if a1 < 1 then (sound_Calls.j0 k l0 a1 0 true) else (sound_Calls.j0 k l0 a1 0 (decide (a1 > 256))))) = some (r1, r2) := h
 clear h
 by_cases c3 : (l0.length : Int) > 256
 ·rw [if_pos c3] at H
  have c3b0 : decide (256 < (l0.length : Int)) = true := zdt c3
  have c3b1 : decide (256 < l0.length) = true := zdt (by omega)
  clear c3
  simp only [Option.some.injEq, Prod.mk.injEq] at H
  obtain ⟨rfl, rfl⟩ := H
  go_enter Try.func32, Try.ntmps32
  go_wp2
  go_ret2
  exact ⟨by first | rfl | (simp; done) | (simp [*]; done), by repeat (first | exact Drawn0.refl _ | apply Drawn0.step)⟩
 rw [if_neg c3] at H
 have c3b0 : decide (256 < (l0.length : Int)) = false := zdf c3
 have c3b1 : decide (256 < l0.length) = false := zdf (by omega)
 clear c3
 have HC4 := zam H
 clear H
 go_enter Try.func32, Try.ntmps32
 go_upto_region 3 with (fail)
 go_cut [17] (fun v17 wc => ∃ (kq : Nat) (x17_3 : Bool), v17 = .bool x17_3 ∧ Aside0 (sound_Calls.j0 kq l0 a1 0 x17_3 = some (r1, r2)) ∧ Aside0 (kq ≤ k) ∧ Drawn0 w wc)
 case first =>
  have H := HC4.out
  clear HC4
  by_cases c5 : a1 < 1
  ·rw [if_pos c5] at H
   have c5b0 : decide (a1 < 1) = true := zdt c5
   clear c5
   (first | rw [c5b0] | (simp only [i64_w, i32_w]; rw [c5b0]) | skip)
   have H' := zam H
   clear H
   go_wp2
   go_meet
   case rel => exact ⟨_, (true), (by first | rfl | (simp; done) | (simp [*]; done)), H', ⟨by first | omega | exact Nat.le_refl _⟩, by repeat (first | exact Drawn0.refl _ | apply Drawn0.step)⟩
  rw [if_neg c5] at H
  have c5b0 : decide (a1 < 1) = false := zdf c5
  clear c5
  (first | rw [c5b0] | (simp only [i64_w, i32_w]; rw [c5b0]) | skip)
  have H' := zam H
  clear H
  go_wp2
  go_meet
  case rel => exact ⟨_, (decide (a1 > 256)), (by first | rfl | (simp; done) | (simp [*]; done)), H', ⟨by first | omega | exact Nat.le_refl _⟩, by repeat (first | exact Drawn0.refl _ | apply Drawn0.step)⟩
 case rest =>
  clear HC4
  try clear p2
  try clear c3
  try clear c3b0
  try clear c3b1
  try clear c5
  try clear c5b0
  obtain ⟨kq, x17_3, rfl, HA, HJ3, ⟨mc3, rfl⟩⟩ := hcut
  cases kq with
  | zero => exact absurd HA.out (by simp [sound_Calls.j0])
  | succ kj3 =>
   have H := HA.out
   clear HA
   simp only [sound_Calls.j0] at H
   by_cases c6 : x17_3 = true
   ·subst c6
    have H1 : (some (0, 3)) = some (r1, r2) := by rw [if_pos rfl] at H; exact H
    clear H
    have H := H1
    clear H1
    simp only [Option.some.injEq, Prod.mk.injEq] at H
    obtain ⟨rfl, rfl⟩ := H
    go_wp2
    go_ret2
    exact ⟨by first | rfl | (simp; done) | (simp [*]; done), by repeat (first | exact Drawn0.refl _ | apply Drawn0.step)⟩
   replace c6 := Bool.eq_false_iff.mpr c6
   subst c6
   have H1 : (sound_Calls.l0 kj3 a1 0 0 l0 (l0.length : Int) 0) = some (r1, r2) := by rw [if_neg (show ¬ (false = true) by decide)] at H; exact H
   clear H
   have H := H1
   clear H1
   have H' := zam H
   clear H
   go_wp2
   go_loopg [4, 6, 20] kj3 (fun kq v4 v6 v20 w' => ∃ (x4_2 : Int) (x6_2 : Int) (x20_2 : Int), v4 = .int .i64 x4_2 ∧ v6 = .int .i64 x6_2 ∧ v20 = .int .i64 x20_2 ∧ Aside0 (sound_Calls.l0 kq a1 x4_2 x6_2 l0 (l0.length : Int) x20_2 = some (r1, r2)) ∧ Aside0 (kq ≤ kj3) ∧ Drawn0 w w')
   case atStart => exact ⟨(0), (0), (0), (by first | rfl | (simp; done) | (simp [*]; done)), (by first | rfl | (simp; done) | (simp [*]; done)), (by first | rfl | (simp; done) | (simp [*]; done)), H', ⟨Nat.le_refl _⟩, by repeat (first | exact Drawn0.refl _ | apply Drawn0.step)⟩
   case round =>
    clear H'
    try clear p2
    try clear c3
    try clear c3b0
    try clear c3b1
    try clear c5
    try clear c5b0
    try clear c6
    try clear p2
    obtain ⟨x4_2, x6_2, x20_2, rfl, rfl, rfl, HA, HK2, ⟨m2, rfl⟩⟩ := hrel
    cases gk with
    | zero => exact absurd HA.out (by simp [sound_Calls.l0])
    | succ k2 =>
     have H := HA.out
     clear HA
     simp only [sound_Calls.l0] at H
     by_cases c7 : x20_2 < (l0.length : Int)
     ·rw [if_pos c7] at H
      have c7b0 : decide (x20_2 < (l0.length : Int)) = true := zdt c7
      clear c7
      by_cases c8 : 0 ≤ x20_2
      ·rw [if_pos c8] at H
       have c8b0 : decide (0 ≤ x20_2) = true := zdt c8
       clear c8
       by_cases c9 : x20_2 < (l0.length : Int)
       ·rw [if_pos c9] at H
        have c9b0 : decide (x20_2 < (l0.length : Int)) = true := zdt c9
        clear c9
        obtain ⟨bq10, hbq10⟩ : ∃ b_ : Bool, b_ = (rdOf false l0 x20_2) := ⟨_, rfl⟩
        replace H : (if bq10 = true then (if (wrap64 (x6_2 + 1)) = a1 then (sound_Calls.l0 k2 a1 (wrap64 (x4_2 + 1)) (wrap64 (x6_2 + 1)) l0 (l0.length : Int) (wrap64 (x20_2 + 1))) else (sound_Calls.l0 k2 a1 x4_2 (wrap64 (x6_2 + 1)) l0 (l0.length : Int) (wrap64 (x20_2 + 1)))) else (sound_Calls.l0 k2 a1 x4_2 0 l0 (l0.length : Int) (wrap64 (x20_2 + 1)))) = some (r1, r2) := by rw [← hbq10] at H; exact H
        have Nbq10 := zam hbq10
        clear hbq10
        by_cases c11 : bq10 = true
        ·subst c11
         have H1 : (if (wrap64 (x6_2 + 1)) = a1 then (sound_Calls.l0 k2 a1 (wrap64 (x4_2 + 1)) (wrap64 (x6_2 + 1)) l0 (l0.length : Int) (wrap64 (x20_2 + 1))) else (sound_Calls.l0 k2 a1 x4_2 (wrap64 (x6_2 + 1)) l0 (l0.length : Int) (wrap64 (x20_2 + 1)))) = some (r1, r2) := by rw [if_pos rfl] at H; exact H
         clear H
         have H := H1
         clear H1
         by_cases c12 : (wrap64 (x6_2 + 1)) = a1
         ·rw [if_pos c12] at H
          have c12b0 : ((wrap64 (x6_2 + 1)) == a1) = true := beq_iff_eq.mpr c12
          have c12b1 : ((wrap64 (x6_2 + 1)) != a1) = false := bne_eq_false_iff_eq.mpr c12
          clear c12
          have H' := zam H
          clear H
          have p101 : 0 ≤ (x20_2 : Int) := zod (by first | (with_reducible assumption) | assumption)
          have q101 : x20_2 < (l0.length : Int) := zod (by first | (with_reducible assumption) | assumption)
          obtain ⟨ad101, e101, hx101_0⟩ := Kd.at_bool HR0.out x20_2 p101 q101
          (try rw [← Nbq10.out] at hx101_0)
          cases e101
          replace p101 := eq_true p101
          replace q101 := eq_true q101
          go_wp2
          go_roundg k2
          case measure => have := HJ3.out; have := HK2.out; omega
          case rel => exact ⟨(wrap64 (x4_2 + 1)), (wrap64 (x6_2 + 1)), (wrap64 (x20_2 + 1)), (by first | rfl | (simp; done) | (simp [*]; done)), (by first | rfl | (simp; done) | (simp [*]; done)), (by first | rfl | (simp; done) | (simp [*]; done)), H', ⟨by have := HJ3.out; have := HK2.out; omega⟩, by repeat (first | exact Drawn0.refl _ | apply Drawn0.step)⟩
         rw [if_neg c12] at H
         have c12b0 : ((wrap64 (x6_2 + 1)) == a1) = false := beq_eq_false_iff_ne.mpr c12
         have c12b1 : ((wrap64 (x6_2 + 1)) != a1) = true := bne_iff_ne.mpr c12
         have H' := zam H
         clear H
         have p101 : 0 ≤ (x20_2 : Int) := zod (by first | (with_reducible assumption) | assumption)
         have q101 : x20_2 < (l0.length : Int) := zod (by first | (with_reducible assumption) | assumption)
         obtain ⟨ad101, e101, hx101_0⟩ := Kd.at_bool HR0.out x20_2 p101 q101
         (try rw [← Nbq10.out] at hx101_0)
         cases e101
         replace p101 := eq_true p101
         replace q101 := eq_true q101
         go_wp2
         go_roundg k2
         case measure => have := HJ3.out; have := HK2.out; omega
         case rel => exact ⟨(x4_2), (wrap64 (x6_2 + 1)), (wrap64 (x20_2 + 1)), (by first | rfl | (simp; done) | (simp [*]; done)), (by first | rfl | (simp; done) | (simp [*]; done)), (by first | rfl | (simp; done) | (simp [*]; done)), H', ⟨by have := HJ3.out; have := HK2.out; omega⟩, by repeat (first | exact Drawn0.refl _ | apply Drawn0.step)⟩
        replace c11 := Bool.eq_false_iff.mpr c11
        subst c11
        have H1 : (sound_Calls.l0 k2 a1 x4_2 0 l0 (l0.length : Int) (wrap64 (x20_2 + 1))) = some (r1, r2) := by rw [if_neg (show ¬ (false = true) by decide)] at H; exact H
        clear H
        have H := H1
        clear H1
        have H' := zam H
        clear H
        have p101 : 0 ≤ (x20_2 : Int) := zod (by first | (with_reducible assumption) | assumption)
        have q101 : x20_2 < (l0.length : Int) := zod (by first | (with_reducible assumption) | assumption)
        obtain ⟨ad101, e101, hx101_0⟩ := Kd.at_bool HR0.out x20_2 p101 q101
        (try rw [← Nbq10.out] at hx101_0)
        cases e101
        replace p101 := eq_true p101
        replace q101 := eq_true q101
        go_wp2
        go_roundg k2
        case measure => have := HJ3.out; have := HK2.out; omega
        case rel => exact ⟨(x4_2), (0), (wrap64 (x20_2 + 1)), (by first | rfl | (simp; done) | (simp [*]; done)), (by first | rfl | (simp; done) | (simp [*]; done)), (by first | rfl | (simp; done) | (simp [*]; done)), H', ⟨by have := HJ3.out; have := HK2.out; omega⟩, by repeat (first | exact Drawn0.refl _ | apply Drawn0.step)⟩
       rw [if_neg c9] at H
       exact absurd H (by simp)
      rw [if_neg c8] at H
      exact absurd H (by simp)
     rw [if_neg c7] at H
     have c7b0 : decide (x20_2 < (l0.length : Int)) = false := zdf c7
     clear c7
     simp only [Option.some.injEq, Prod.mk.injEq] at H
     obtain ⟨rfl, rfl⟩ := H
     go_wp2
     go_ret2
     exact ⟨by first | rfl | (simp; done) | (simp [*]; done), by repeat (first | exact Drawn0.refl _ | apply Drawn0.step)⟩
theorem Sp.rdb (xs : List Bool) (i : Nat) (h : i < xs.length) : rdOf false xs (i : Int) = xs[i] := by simp [rdOf, List.getD, h]
theorem Sp.calls_bl (m : Int) (xs : List Bool) (hl : xs.length ≤ 9223372036854775) : ∀ (n k i : Nat) (c r : Int), i + n = xs.length → n < k → 0 ≤ c → c ≤ i → 0 ≤ r → r ≤ i → sound_Calls.l0 k m c r xs (xs.length : Int) (i : Int) = some (c + Sp.cnt m r (xs.drop i), 0)
 | 0, k, i, c, r, hi, hk, hc, hc', hr, hr' => by
  obtain ⟨k, rfl⟩ : ∃ m, k = m + 1 := ⟨k - 1, by omega⟩
  rw [sound_Calls.l0, if_neg (by omega), List.drop_eq_nil_of_le (by omega), Sp.cnt]
  simp
 | n + 1, k, i, c, r, hi, hk, hc, hc', hr, hr' => by
  obtain ⟨k, rfl⟩ : ∃ m, k = m + 1 := ⟨k - 1, by omega⟩
  have hlt : i < xs.length := by omega
  rw [sound_Calls.l0, if_pos (by omega), if_pos (by omega), if_pos (by omega), Sp.rdb xs i hlt, wrap_succ hlt (by omega), drop_cons hlt, wrap_id (n := r + 1) (by omega) (by omega), wrap_id (n := c + 1) (by omega) (by omega)]
  cases hx : xs[i]
  ·rw [if_neg (by decide), Sp.calls_bl m xs hl n k (i + 1) c 0 (by omega) (by omega) hc (by omega) (by omega) (by omega), Sp.cnt]
  rw [if_pos rfl, Sp.cnt]
  by_cases e : r + 1 = m
  ·rw [if_pos e, if_pos e, Sp.calls_bl m xs hl n k (i + 1) (c + 1) (r + 1) (by omega) (by omega) (by omega) (by omega) (by omega) (by omega), Int.add_assoc]
  rw [if_neg e, if_neg e, Sp.calls_bl m xs hl n k (i + 1) c (r + 1) (by omega) (by omega) (by omega) (by omega) (by omega) (by omega), Int.zero_add]
theorem Sp.calls_b (l : List Bool) (n : Int) {k : Nat} (hk : 301 ≤ k) : sound_Calls.f k l n = some (Sp.calls l n) := by
 obtain ⟨k, rfl⟩ : ∃ m, k = m + 1 := ⟨k - 1, by omega⟩
 unfold sound_Calls.f Sp.calls
 by_cases h : (l.length : Int) > 256
 ·rw [if_pos h, if_pos h]
 rw [if_neg h, if_neg h]
 have hb := Sp.calls_bl n l (by omega) l.length k 0 0 0 (by omega) (by omega) (by omega) (by omega) (by omega) (by omega)
 rw [List.drop_zero, Int.zero_add] at hb
 by_cases c1 : n < 1
 ·rw [if_pos c1, if_pos (.inl c1), sound_Calls.j0, if_pos rfl]
 rw [if_neg c1, sound_Calls.j0]
 by_cases c2 : n > 256
 ·rw [if_pos (by simpa using c2), if_pos (.inr c2)]
 rw [if_neg (by simpa using c2), if_neg (by omega)]
 exact hb
theorem Sp.ans_rl (m : Int) (xs : List Int) (hl : xs.length ≤ 9223372036854775807) : ∀ (n k i : Nat), i + n = xs.length → n < k → isobathref07_answers.l0 k xs m (i : Int) = some (if (xs.drop i).all Sp.aOk = true then (if m < 1 ∨ m > 256 then 3 else 0) else 2)
 | 0, k, i, hi, hk => by
  obtain ⟨k, rfl⟩ : ∃ m, k = m + 1 := ⟨k - 1, by omega⟩
  rw [isobathref07_answers.l0, if_neg (by omega), List.drop_eq_nil_of_le (by omega), List.all_nil, if_pos (rfl : true = true)]
  by_cases c1 : m < 1
  ·rw [if_pos c1, if_pos (.inl c1)]
  rw [if_neg c1]
  by_cases c2 : m > 256
  ·rw [if_pos c2, if_pos (.inr c2)]
  rw [if_neg c2, if_neg (by omega)]
 | n + 1, k, i, hi, hk => by
  obtain ⟨k, rfl⟩ : ∃ m, k = m + 1 := ⟨k - 1, by omega⟩
  have hlt : i < xs.length := by omega
  rw [isobathref07_answers.l0, if_pos (by omega), if_pos (by omega), rd_nat hlt, drop_cons hlt, List.all_cons]
  by_cases h1 : xs[i] < 0
  ·have : Sp.aOk xs[i] = false := by unfold Sp.aOk; simp; omega
   rw [if_pos h1, this, if_neg (by simp)]
  rw [if_neg h1]
  by_cases h2 : xs[i] > 2
  ·have : Sp.aOk xs[i] = false := by unfold Sp.aOk; simp; omega
   rw [if_pos h2, this, if_neg (by simp)]
  have : Sp.aOk xs[i] = true := by unfold Sp.aOk; simp; omega
  rw [if_neg h2, this, wrap_succ hlt hl, Sp.ans_rl m xs hl n k (i + 1) (by omega) (by omega), Bool.true_and]
theorem Sp.ans_r (l : List Int) (n : Int) {k : Nat} (hk : 300 ≤ k) : isobathref07_answers.f k l n = some (Sp.ans l n) := by
 unfold isobathref07_answers.f Sp.ans
 by_cases h : (l.length : Int) > 256
 ·rw [if_pos h, if_pos h]
 rw [if_neg h, if_neg h, show (0 : Int) = ((0 : Nat) : Int) from rfl, Sp.ans_rl n l (by omega) l.length k 0 (by omega) (by omega), List.drop_zero]
 rfl
def isobathref07_Choice.f (k : Nat) (l0 : List Int) (a1 : Int) : Option (Int) := (isobathref07_answers.f k l0 a1).bind fun t101 => (some t101)
set_option maxHeartbeats 8000000 in
set_option maxRecDepth 100000 in
theorem isobathref07_Choice.calls (k : Nat) (A0 : Option Addr) (c0 : Nat) (l0 : List Int) (a1 : Int) (r : Int) (w : World) (hr0 : Kd.C (Kd.int .i64) w A0 l0.length l0) (hc0 : l0.length ≤ c0) (h : isobathref07_Choice.f k l0 a1 = some r) :
  Calls Try.prog 31 #[.slice A0 l0.length c0, .int .i64 a1] w fun e w' => e = .returned (.int .i64 r) ∧ Drawn0 w w' := by
 have HR0 := zam hr0
 have HC0 := zam hc0
 clear hr0 hc0
 have H : ((isobathref07_answers.f k l0 a1).bind fun t101 => (some t101)) = some r := h
 clear h
 replace H := Option.bind_eq_some_iff.mp H
 obtain ⟨t101, A30, H⟩ := H
 replace H : (some t101) = some r := H
 have A3 := zam A30
 clear A30
 obtain rfl := zsi H
 go_enter Try.func31, Try.ntmps31
 go_wp2_with (first | ((with_reducible refine zgc (f := 76) rfl ?_); refine goesL_ (some 7) rfl rfl Try.func76 (by kernel_rfl) rfl #[.slice A0 l0.length c0, .int .i64 a1] rfl (by (try simp only [zmt, List.map_cons, List.map_nil]); first | done | rfl | (simp only [zld, zlt]; rfl)) ?_; (with_reducible refine (isobathref07_answers.calls k _ _ l0 a1 t101 _ ?side1 ?side2 A3.out).mono ?_); (case side1 => repeat (first | exact HR0.out | (with_reducible refine Kd.C_alloc ?_ _) | (with_reducible refine Kd.C_drewN ?_ _) | (with_reducible refine Kd.C_drew ?_))); (case side2 => exact HC0.out); rintro e w' ⟨rfl, ⟨nd, rfl⟩⟩; refine ⟨_, rfl, ?_⟩))
 go_ret
 exact ⟨by first | rfl | (simp; done) | (simp [*]; done), by repeat (first | exact Drawn0.refl _ | apply Drawn0.step)⟩
theorem Sp.choice_r (l : List Int) (n : Int) {k : Nat} (hk : 300 ≤ k) : isobathref07_Choice.f k l n = some (Sp.ans l n) := by
 unfold isobathref07_Choice.f
 rw [Sp.ans_r l n hk]
 rfl
set_option maxHeartbeats 8000000 in
set_option maxRecDepth 100000 in
theorem sound_Fewest.calls (k : Nat) (A0 : Option Addr) (c0 : Nat) (l0 : List Int) (a1 : Int) (r1 : List Bool) (r2 : Int) (w : World) (hr0 : Kd.C (Kd.int .i64) w A0 l0.length l0) (hc0 : l0.length ≤ c0) (h : sound_Fewest.f k l0 a1 = some (r1, r2)) :
  Calls Try.prog 33 #[.slice A0 l0.length c0, .int .i64 a1] w fun e w' => ∃ v0_ : Value, e = .returned (.tuple #[v0_, .int .i64 r2]) ∧ Kd.R Kd.bool 4 w' w.heap.size (fun _ => True) v0_ r1 ∧ Below w.heap.size w w' := by
 have HR0 := zam hr0
 have HC0 := zam hc0
 clear hr0 hc0
 have HB := zam (Below.refl w.heap.size w)
 have H : ((sound_checkAnswers.f k l0 a1).bind fun t101 => (if t101 = 0 then ((sound_fewest.f k l0 a1).bind fun bt102 => (some (bt102.1, 0))) else (some (([] : List Bool), t101)))) = some (r1, r2) := h
 clear h
 replace H := Option.bind_eq_some_iff.mp H
 obtain ⟨t101, A30, H⟩ := H
 replace H : (if t101 = 0 then ((sound_fewest.f k l0 a1).bind fun bt102 => (some (bt102.1, 0))) else (some (([] : List Bool), t101))) = some (r1, r2) := H
 have A3 := zam A30
 clear A30
 by_cases c4 : t101 = 0
 ·rw [if_pos c4] at H
  have c4b0 : (t101 == 0) = true := beq_iff_eq.mpr c4
  have c4b1 : (t101 != 0) = false := bne_eq_false_iff_eq.mpr c4
  clear c4
  replace H := Option.bind_eq_some_iff.mp H
  obtain ⟨⟨t102, t103⟩, A50, H⟩ := H
  replace H : (some (t102, 0)) = some (r1, r2) := H
  have A5 := zam A50
  clear A50
  simp only [Option.some.injEq, Prod.mk.injEq] at H
  obtain ⟨rfl, rfl⟩ := H
  go_enter Try.func33, Try.ntmps33
  go_wp2_with (first | ((with_reducible refine zgc (f := 73) rfl ?_); refine goesL_ (some 11) rfl rfl Try.func73 (by kernel_rfl) rfl #[.slice A0 l0.length c0, .int .i64 a1] rfl (by (try simp only [zmt, List.map_cons, List.map_nil]); first | done | rfl | (simp only [zld, zlt]; rfl)) ?_; (with_reducible refine (sound_checkAnswers.calls k _ _ l0 a1 t101 _ ?side1 ?side2 A3.out).mono ?_); (case side1 => repeat (first | exact HR0.out | (with_reducible refine Kd.C_alloc ?_ _) | (with_reducible refine Kd.C_drewN ?_ _) | (with_reducible refine Kd.C_drew ?_))); (case side2 => exact HC0.out); rintro e w' ⟨rfl, ⟨nd, rfl⟩⟩; refine ⟨_, rfl, ?_⟩) | ((with_reducible refine zgc (f := 74) rfl ?_); refine goesL_ (some 18) rfl rfl Try.func74 (by kernel_rfl) rfl #[.slice A0 l0.length c0, .int .i64 a1] rfl (by (try simp only [zmt, List.map_cons, List.map_nil]); first | done | rfl | (simp only [zld, zlt]; rfl)) ?_; (with_reducible refine (sound_fewest.calls k _ _ l0 a1 t102 t103 _ ?side1 ?side2 A5.out).mono ?_); (case side1 => repeat (first | exact HR0.out | (with_reducible refine Kd.C_alloc ?_ _) | (with_reducible refine Kd.C_drewN ?_ _) | (with_reducible refine Kd.C_drew ?_))); (case side2 => exact HC0.out); rintro e w6 ⟨v104, rfl, ho0, hb⟩; refine ⟨_, rfl, ?_⟩; have n0_ := zam (Kd.R_lower ho0 (zbz (by repeat (first | (with_reducible first | exact HB.out | apply zba | apply zbn | apply zb1) | exact HB.out)))); have n1_ := zam (zbt (by repeat (first | (with_reducible first | exact HB.out | apply zba | apply zbn | apply zb1) | exact HB.out)) hb); clear HB; have HO105 := n0_; have HB := n1_; clear n0_ n1_; (try clear hb); (try clear hb2); (try clear hk); (try clear hi); (try clear ho0)))
  go_ret2
  exact ⟨_, by first | rfl | (simp [errW_none, errW_some] <;> rfl) | (simp [*, errW_none, errW_some] <;> rfl), by (with_reducible repeat (first | apply zRa | apply zRn | apply zRd)); exact HO105.out, by repeat (first | (with_reducible first | exact HB.out | apply zba | apply zbn | apply zb1) | exact HB.out)⟩
 rw [if_neg c4] at H
 have c4b0 : (t101 == 0) = false := beq_eq_false_iff_ne.mpr c4
 have c4b1 : (t101 != 0) = true := bne_iff_ne.mpr c4
 simp only [Option.some.injEq, Prod.mk.injEq] at H
 obtain ⟨rfl, rfl⟩ := H
 go_enter Try.func33, Try.ntmps33
 go_wp2_with (first | ((with_reducible refine zgc (f := 73) rfl ?_); refine goesL_ (some 11) rfl rfl Try.func73 (by kernel_rfl) rfl #[.slice A0 l0.length c0, .int .i64 a1] rfl (by (try simp only [zmt, List.map_cons, List.map_nil]); first | done | rfl | (simp only [zld, zlt]; rfl)) ?_; (with_reducible refine (sound_checkAnswers.calls k _ _ l0 a1 t101 _ ?side1 ?side2 A3.out).mono ?_); (case side1 => repeat (first | exact HR0.out | (with_reducible refine Kd.C_alloc ?_ _) | (with_reducible refine Kd.C_drewN ?_ _) | (with_reducible refine Kd.C_drew ?_))); (case side2 => exact HC0.out); rintro e w' ⟨rfl, ⟨nd, rfl⟩⟩; refine ⟨_, rfl, ?_⟩))
 go_ret2
 exact ⟨_, by first | rfl | (simp [errW_none, errW_some] <;> rfl) | (simp [*, errW_none, errW_some] <;> rfl), by first | exact Kd.R_nil _ _ _ _ _ | exact Kd.N_nil _ _ _ _ _ | exact Kd.V_nil _ _ _ _ _ | exact Kd.Q_nil _ _ _ _ _ | exact Kd.S_nil _ _ _ _ _, by repeat (first | (with_reducible first | exact HB.out | apply zba | apply zbn | apply zb1) | exact HB.out)⟩
set_option maxHeartbeats 8000000 in
set_option maxRecDepth 100000 in
theorem sound_Most.calls (k : Nat) (A0 : Option Addr) (c0 : Nat) (l0 : List Int) (a1 : Int) (r1 : List Bool) (r2 : Int) (w : World) (hr0 : Kd.C (Kd.int .i64) w A0 l0.length l0) (hc0 : l0.length ≤ c0) (h : sound_Most.f k l0 a1 = some (r1, r2)) :
  Calls Try.prog 34 #[.slice A0 l0.length c0, .int .i64 a1] w fun e w' => ∃ v0_ : Value, e = .returned (.tuple #[v0_, .int .i64 r2]) ∧ Kd.R Kd.bool 4 w' w.heap.size (fun _ => True) v0_ r1 ∧ Below w.heap.size w w' := by
 have HR0 := zam hr0
 have HC0 := zam hc0
 clear hr0 hc0
 have HB := zam (Below.refl w.heap.size w)
 have H : ((sound_checkAnswers.f k l0 a1).bind fun t101 => (if t101 = 0 then ((sound_most.f k l0 a1).bind fun bt102 => (some (bt102.1, 0))) else (some (([] : List Bool), t101)))) = some (r1, r2) := h
 clear h
 replace H := Option.bind_eq_some_iff.mp H
 obtain ⟨t101, A30, H⟩ := H
 replace H : (if t101 = 0 then ((sound_most.f k l0 a1).bind fun bt102 => (some (bt102.1, 0))) else (some (([] : List Bool), t101))) = some (r1, r2) := H
 have A3 := zam A30
 clear A30
 by_cases c4 : t101 = 0
 ·rw [if_pos c4] at H
  have c4b0 : (t101 == 0) = true := beq_iff_eq.mpr c4
  have c4b1 : (t101 != 0) = false := bne_eq_false_iff_eq.mpr c4
  clear c4
  replace H := Option.bind_eq_some_iff.mp H
  obtain ⟨⟨t102, t103⟩, A50, H⟩ := H
  replace H : (some (t102, 0)) = some (r1, r2) := H
  have A5 := zam A50
  clear A50
  simp only [Option.some.injEq, Prod.mk.injEq] at H
  obtain ⟨rfl, rfl⟩ := H
  go_enter Try.func34, Try.ntmps34
  go_wp2_with (first | ((with_reducible refine zgc (f := 73) rfl ?_); refine goesL_ (some 11) rfl rfl Try.func73 (by kernel_rfl) rfl #[.slice A0 l0.length c0, .int .i64 a1] rfl (by (try simp only [zmt, List.map_cons, List.map_nil]); first | done | rfl | (simp only [zld, zlt]; rfl)) ?_; (with_reducible refine (sound_checkAnswers.calls k _ _ l0 a1 t101 _ ?side1 ?side2 A3.out).mono ?_); (case side1 => repeat (first | exact HR0.out | (with_reducible refine Kd.C_alloc ?_ _) | (with_reducible refine Kd.C_drewN ?_ _) | (with_reducible refine Kd.C_drew ?_))); (case side2 => exact HC0.out); rintro e w' ⟨rfl, ⟨nd, rfl⟩⟩; refine ⟨_, rfl, ?_⟩) | ((with_reducible refine zgc (f := 75) rfl ?_); refine goesL_ (some 18) rfl rfl Try.func75 (by kernel_rfl) rfl #[.slice A0 l0.length c0, .int .i64 a1] rfl (by (try simp only [zmt, List.map_cons, List.map_nil]); first | done | rfl | (simp only [zld, zlt]; rfl)) ?_; (with_reducible refine (sound_most.calls k _ _ l0 a1 t102 t103 _ ?side1 ?side2 A5.out).mono ?_); (case side1 => repeat (first | exact HR0.out | (with_reducible refine Kd.C_alloc ?_ _) | (with_reducible refine Kd.C_drewN ?_ _) | (with_reducible refine Kd.C_drew ?_))); (case side2 => exact HC0.out); rintro e w6 ⟨v104, rfl, ho0, hb⟩; refine ⟨_, rfl, ?_⟩; have n0_ := zam (Kd.R_lower ho0 (zbz (by repeat (first | (with_reducible first | exact HB.out | apply zba | apply zbn | apply zb1) | exact HB.out)))); have n1_ := zam (zbt (by repeat (first | (with_reducible first | exact HB.out | apply zba | apply zbn | apply zb1) | exact HB.out)) hb); clear HB; have HO105 := n0_; have HB := n1_; clear n0_ n1_; (try clear hb); (try clear hb2); (try clear hk); (try clear hi); (try clear ho0)))
  go_ret2
  exact ⟨_, by first | rfl | (simp [errW_none, errW_some] <;> rfl) | (simp [*, errW_none, errW_some] <;> rfl), by (with_reducible repeat (first | apply zRa | apply zRn | apply zRd)); exact HO105.out, by repeat (first | (with_reducible first | exact HB.out | apply zba | apply zbn | apply zb1) | exact HB.out)⟩
 rw [if_neg c4] at H
 have c4b0 : (t101 == 0) = false := beq_eq_false_iff_ne.mpr c4
 have c4b1 : (t101 != 0) = true := bne_iff_ne.mpr c4
 simp only [Option.some.injEq, Prod.mk.injEq] at H
 obtain ⟨rfl, rfl⟩ := H
 go_enter Try.func34, Try.ntmps34
 go_wp2_with (first | ((with_reducible refine zgc (f := 73) rfl ?_); refine goesL_ (some 11) rfl rfl Try.func73 (by kernel_rfl) rfl #[.slice A0 l0.length c0, .int .i64 a1] rfl (by (try simp only [zmt, List.map_cons, List.map_nil]); first | done | rfl | (simp only [zld, zlt]; rfl)) ?_; (with_reducible refine (sound_checkAnswers.calls k _ _ l0 a1 t101 _ ?side1 ?side2 A3.out).mono ?_); (case side1 => repeat (first | exact HR0.out | (with_reducible refine Kd.C_alloc ?_ _) | (with_reducible refine Kd.C_drewN ?_ _) | (with_reducible refine Kd.C_drew ?_))); (case side2 => exact HC0.out); rintro e w' ⟨rfl, ⟨nd, rfl⟩⟩; refine ⟨_, rfl, ?_⟩))
 go_ret2
 exact ⟨_, by first | rfl | (simp [errW_none, errW_some] <;> rfl) | (simp [*, errW_none, errW_some] <;> rfl), by first | exact Kd.R_nil _ _ _ _ _ | exact Kd.N_nil _ _ _ _ _ | exact Kd.V_nil _ _ _ _ _ | exact Kd.Q_nil _ _ _ _ _ | exact Kd.S_nil _ _ _ _ _, by repeat (first | (with_reducible first | exact HB.out | apply zba | apply zbn | apply zb1) | exact HB.out)⟩
def isobathlaw07_fits.l0 : Nat → List Bool → List Int → Int → Option (Bool)
 | 0, _, _, _ => none
 | k + 1, x0, x1, x5 => if x5 < (x1.length : Int) then (if 0 ≤ x5 then (if (rd x1 x5) = 2 then (if x5 < (x0.length : Int) then (if rdOf false x0 x5 = true then (if (rd x1 x5) = 0 then (some false) else (isobathlaw07_fits.l0 k x0 x1 (wrap64 (x5 + 1)))) else (some false)) else (none)) else (if (rd x1 x5) = 0 then (if x5 < (x0.length : Int) then (if rdOf false x0 x5 = true then (some false) else (isobathlaw07_fits.l0 k x0 x1 (wrap64 (x5 + 1)))) else (none)) else (isobathlaw07_fits.l0 k x0 x1 (wrap64 (x5 + 1))))) else (none)) else (some true)
def isobathlaw07_fits.f (k : Nat) (l0 : List Bool) (l1 : List Int) : Option (Bool) := if (l0.length : Int) = (l1.length : Int) then (isobathlaw07_fits.l0 k l0 l1 0) else (some false)
set_option maxHeartbeats 8000000 in
set_option maxRecDepth 100000 in
theorem isobathlaw07_fits.calls (k : Nat) (A0 : Option Addr) (c0 : Nat) (l0 : List Bool) (A1 : Option Addr) (c1 : Nat) (l1 : List Int) (r : Bool) (w : World) (hr0 : Kd.C Kd.bool w A0 l0.length l0) (hc0 : l0.length ≤ c0) (hr1 : Kd.C (Kd.int .i64) w A1 l1.length l1) (hc1 : l1.length ≤ c1) (h : isobathlaw07_fits.f k l0 l1 = some r) :
  Calls Try.prog 35 #[.slice A0 l0.length c0, .slice A1 l1.length c1] w fun e w' => e = .returned (.bool r) ∧ Drawn0 w w' := by
 have HR0 := zam hr0
 have HC0 := zam hc0
 clear hr0 hc0
 have HR1 := zam hr1
 have HC1 := zam hc1
 clear hr1 hc1
 have H : (if (l0.length : Int) = (l1.length : Int) then (isobathlaw07_fits.l0 k l0 l1 0) else (some false)) = some r := h
 clear h
 by_cases c3 : (l0.length : Int) = (l1.length : Int)
 ·rw [if_pos c3] at H
  have c3b0 : ((l0.length : Int) == (l1.length : Int)) = true := beq_iff_eq.mpr c3
  have c3b1 : ((l0.length : Int) != (l1.length : Int)) = false := bne_eq_false_iff_eq.mpr c3
  have c3b2 : (l0.length == l1.length) = true := by first | simpa using c3 | (simp at c3 ⊢; omega)
  clear c3
  have H' := zam H
  clear H
  go_enter Try.func35, Try.ntmps35
  go_wp2
  go_loopg [5] k (fun kq v5 w' => ∃ (x5_1 : Int), v5 = .int .i64 x5_1 ∧ Aside0 (isobathlaw07_fits.l0 kq l0 l1 x5_1 = some r) ∧ Aside0 (kq ≤ k) ∧ Drawn0 w w')
  case atStart => exact ⟨(0), (by first | rfl | (simp; done) | (simp [*]; done)), H', ⟨Nat.le_refl _⟩, by repeat (first | exact Drawn0.refl _ | apply Drawn0.step)⟩
  case round =>
   clear H'
   try clear c1
   try clear p2
   try clear c3
   try clear c3b0
   try clear c3b1
   try clear c3b2
   obtain ⟨x5_1, rfl, HA, HK1, ⟨m1, rfl⟩⟩ := hrel
   cases gk with
   | zero => exact absurd HA.out (by simp [isobathlaw07_fits.l0])
   | succ k1 =>
    have H := HA.out
    clear HA
    simp only [isobathlaw07_fits.l0] at H
    by_cases c4 : x5_1 < (l1.length : Int)
    ·rw [if_pos c4] at H
     have c4b0 : decide (x5_1 < (l1.length : Int)) = true := zdt c4
     clear c4
     by_cases c5 : 0 ≤ x5_1
     ·rw [if_pos c5] at H
      have c5b0 : decide (0 ≤ x5_1) = true := zdt c5
      clear c5
      by_cases c6 : (rd l1 x5_1) = 2
      ·rw [if_pos c6] at H
       have c6b0 : ((rd l1 x5_1) == 2) = true := beq_iff_eq.mpr c6
       have c6b1 : ((rd l1 x5_1) != 2) = false := bne_eq_false_iff_eq.mpr c6
       clear c6
       by_cases c7 : x5_1 < (l0.length : Int)
       ·rw [if_pos c7] at H
        have c7b0 : decide (x5_1 < (l0.length : Int)) = true := zdt c7
        clear c7
        obtain ⟨bq8, hbq8⟩ : ∃ b_ : Bool, b_ = (rdOf false l0 x5_1) := ⟨_, rfl⟩
        replace H : (if bq8 = true then (if (rd l1 x5_1) = 0 then (some false) else (isobathlaw07_fits.l0 k1 l0 l1 (wrap64 (x5_1 + 1)))) else (some false)) = some r := by rw [← hbq8] at H; exact H
        have Nbq8 := zam hbq8
        clear hbq8
        by_cases c9 : bq8 = true
        ·subst c9
         have H1 : (if (rd l1 x5_1) = 0 then (some false) else (isobathlaw07_fits.l0 k1 l0 l1 (wrap64 (x5_1 + 1)))) = some r := by rw [if_pos rfl] at H; exact H
         clear H
         have H := H1
         clear H1
         by_cases c10 : (rd l1 x5_1) = 0
         ·rw [if_pos c10] at H
          have c10b0 : ((rd l1 x5_1) == 0) = true := beq_iff_eq.mpr c10
          have c10b1 : ((rd l1 x5_1) != 0) = false := bne_eq_false_iff_eq.mpr c10
          clear c10
          obtain rfl := zsi H
          have p101 : 0 ≤ (x5_1 : Int) := zod (by first | (with_reducible assumption) | assumption)
          have q101 : x5_1 < (l1.length : Int) := zod (by first | (with_reducible assumption) | assumption)
          obtain ⟨ad101, e101, hx101_0⟩ := Kd.at_int HR1.out x5_1 p101 q101
          cases e101
          replace p101 := eq_true p101
          replace q101 := eq_true q101
          have p102 : 0 ≤ (x5_1 : Int) := zod (by first | (with_reducible assumption) | assumption)
          have q102 : x5_1 < (l0.length : Int) := zod (by first | (with_reducible assumption) | assumption)
          obtain ⟨ad102, e102, hx102_0⟩ := Kd.at_bool HR0.out x5_1 p102 q102
          (try rw [← Nbq8.out] at hx102_0)
          cases e102
          replace p102 := eq_true p102
          replace q102 := eq_true q102
          have p103 : 0 ≤ (x5_1 : Int) := zod (by first | (with_reducible assumption) | assumption)
          have q103 : x5_1 < (l1.length : Int) := zod (by first | (with_reducible assumption) | assumption)
          obtain ⟨ad103, e103, hx103_0⟩ := Kd.at_int HR1.out x5_1 p103 q103
          obtain rfl : ad101 = ad103 := (by injection e103)
          replace p103 := eq_true p103
          replace q103 := eq_true q103
          have p104 : 0 ≤ (x5_1 : Int) := zod (by first | (with_reducible assumption) | assumption)
          have q104 : x5_1 < (l0.length : Int) := zod (by first | (with_reducible assumption) | assumption)
          obtain ⟨ad104, e104, hx104_0⟩ := Kd.at_bool HR0.out x5_1 p104 q104
          (try rw [← Nbq8.out] at hx104_0)
          obtain rfl : ad102 = ad104 := (by injection e104)
          replace p104 := eq_true p104
          replace q104 := eq_true q104
          go_wp2
          go_ret
          exact ⟨by first | rfl | (simp; done) | (simp [*]; done), by repeat (first | exact Drawn0.refl _ | apply Drawn0.step)⟩
         rw [if_neg c10] at H
         have c10b0 : ((rd l1 x5_1) == 0) = false := beq_eq_false_iff_ne.mpr c10
         have c10b1 : ((rd l1 x5_1) != 0) = true := bne_iff_ne.mpr c10
         have H' := zam H
         clear H
         have p101 : 0 ≤ (x5_1 : Int) := zod (by first | (with_reducible assumption) | assumption)
         have q101 : x5_1 < (l1.length : Int) := zod (by first | (with_reducible assumption) | assumption)
         obtain ⟨ad101, e101, hx101_0⟩ := Kd.at_int HR1.out x5_1 p101 q101
         cases e101
         replace p101 := eq_true p101
         replace q101 := eq_true q101
         have p102 : 0 ≤ (x5_1 : Int) := zod (by first | (with_reducible assumption) | assumption)
         have q102 : x5_1 < (l0.length : Int) := zod (by first | (with_reducible assumption) | assumption)
         obtain ⟨ad102, e102, hx102_0⟩ := Kd.at_bool HR0.out x5_1 p102 q102
         (try rw [← Nbq8.out] at hx102_0)
         cases e102
         replace p102 := eq_true p102
         replace q102 := eq_true q102
         have p103 : 0 ≤ (x5_1 : Int) := zod (by first | (with_reducible assumption) | assumption)
         have q103 : x5_1 < (l1.length : Int) := zod (by first | (with_reducible assumption) | assumption)
         obtain ⟨ad103, e103, hx103_0⟩ := Kd.at_int HR1.out x5_1 p103 q103
         obtain rfl : ad101 = ad103 := (by injection e103)
         replace p103 := eq_true p103
         replace q103 := eq_true q103
         go_wp2
         go_roundg k1
         case measure => have := HK1.out; omega
         case rel => exact ⟨(wrap64 (x5_1 + 1)), (by first | rfl | (simp; done) | (simp [*]; done)), H', ⟨by have := HK1.out; omega⟩, by repeat (first | exact Drawn0.refl _ | apply Drawn0.step)⟩
        replace c9 := Bool.eq_false_iff.mpr c9
        subst c9
        have H1 : (some false) = some r := by rw [if_neg (show ¬ (false = true) by decide)] at H; exact H
        clear H
        have H := H1
        clear H1
        obtain rfl := zsi H
        have p101 : 0 ≤ (x5_1 : Int) := zod (by first | (with_reducible assumption) | assumption)
        have q101 : x5_1 < (l1.length : Int) := zod (by first | (with_reducible assumption) | assumption)
        obtain ⟨ad101, e101, hx101_0⟩ := Kd.at_int HR1.out x5_1 p101 q101
        cases e101
        replace p101 := eq_true p101
        replace q101 := eq_true q101
        have p102 : 0 ≤ (x5_1 : Int) := zod (by first | (with_reducible assumption) | assumption)
        have q102 : x5_1 < (l0.length : Int) := zod (by first | (with_reducible assumption) | assumption)
        obtain ⟨ad102, e102, hx102_0⟩ := Kd.at_bool HR0.out x5_1 p102 q102
        (try rw [← Nbq8.out] at hx102_0)
        cases e102
        replace p102 := eq_true p102
        replace q102 := eq_true q102
        go_wp2
        go_ret
        exact ⟨by first | rfl | (simp; done) | (simp [*]; done), by repeat (first | exact Drawn0.refl _ | apply Drawn0.step)⟩
       rw [if_neg c7] at H
       exact absurd H (by simp)
      rw [if_neg c6] at H
      have c6b0 : ((rd l1 x5_1) == 2) = false := beq_eq_false_iff_ne.mpr c6
      have c6b1 : ((rd l1 x5_1) != 2) = true := bne_iff_ne.mpr c6
      by_cases c11 : (rd l1 x5_1) = 0
      ·rw [if_pos c11] at H
       have c11b0 : ((rd l1 x5_1) == 0) = true := beq_iff_eq.mpr c11
       have c11b1 : ((rd l1 x5_1) != 0) = false := bne_eq_false_iff_eq.mpr c11
       clear c11
       by_cases c12 : x5_1 < (l0.length : Int)
       ·rw [if_pos c12] at H
        have c12b0 : decide (x5_1 < (l0.length : Int)) = true := zdt c12
        clear c12
        obtain ⟨bq13, hbq13⟩ : ∃ b_ : Bool, b_ = (rdOf false l0 x5_1) := ⟨_, rfl⟩
        replace H : (if bq13 = true then (some false) else (isobathlaw07_fits.l0 k1 l0 l1 (wrap64 (x5_1 + 1)))) = some r := by rw [← hbq13] at H; exact H
        have Nbq13 := zam hbq13
        clear hbq13
        by_cases c14 : bq13 = true
        ·subst c14
         have H1 : (some false) = some r := by rw [if_pos rfl] at H; exact H
         clear H
         have H := H1
         clear H1
         obtain rfl := zsi H
         have p101 : 0 ≤ (x5_1 : Int) := zod (by first | (with_reducible assumption) | assumption)
         have q101 : x5_1 < (l1.length : Int) := zod (by first | (with_reducible assumption) | assumption)
         obtain ⟨ad101, e101, hx101_0⟩ := Kd.at_int HR1.out x5_1 p101 q101
         cases e101
         replace p101 := eq_true p101
         replace q101 := eq_true q101
         have p105 : 0 ≤ (x5_1 : Int) := zod (by first | (with_reducible assumption) | assumption)
         have q105 : x5_1 < (l1.length : Int) := zod (by first | (with_reducible assumption) | assumption)
         obtain ⟨ad105, e105, hx105_0⟩ := Kd.at_int HR1.out x5_1 p105 q105
         obtain rfl : ad101 = ad105 := (by injection e105)
         replace p105 := eq_true p105
         replace q105 := eq_true q105
         have p106 : 0 ≤ (x5_1 : Int) := zod (by first | (with_reducible assumption) | assumption)
         have q106 : x5_1 < (l0.length : Int) := zod (by first | (with_reducible assumption) | assumption)
         obtain ⟨ad106, e106, hx106_0⟩ := Kd.at_bool HR0.out x5_1 p106 q106
         (try rw [← Nbq13.out] at hx106_0)
         cases e106
         replace p106 := eq_true p106
         replace q106 := eq_true q106
         go_wp2
         go_ret
         exact ⟨by first | rfl | (simp; done) | (simp [*]; done), by repeat (first | exact Drawn0.refl _ | apply Drawn0.step)⟩
        replace c14 := Bool.eq_false_iff.mpr c14
        subst c14
        have H1 : (isobathlaw07_fits.l0 k1 l0 l1 (wrap64 (x5_1 + 1))) = some r := by rw [if_neg (show ¬ (false = true) by decide)] at H; exact H
        clear H
        have H := H1
        clear H1
        have H' := zam H
        clear H
        have p101 : 0 ≤ (x5_1 : Int) := zod (by first | (with_reducible assumption) | assumption)
        have q101 : x5_1 < (l1.length : Int) := zod (by first | (with_reducible assumption) | assumption)
        obtain ⟨ad101, e101, hx101_0⟩ := Kd.at_int HR1.out x5_1 p101 q101
        cases e101
        replace p101 := eq_true p101
        replace q101 := eq_true q101
        have p105 : 0 ≤ (x5_1 : Int) := zod (by first | (with_reducible assumption) | assumption)
        have q105 : x5_1 < (l1.length : Int) := zod (by first | (with_reducible assumption) | assumption)
        obtain ⟨ad105, e105, hx105_0⟩ := Kd.at_int HR1.out x5_1 p105 q105
        obtain rfl : ad101 = ad105 := (by injection e105)
        replace p105 := eq_true p105
        replace q105 := eq_true q105
        have p106 : 0 ≤ (x5_1 : Int) := zod (by first | (with_reducible assumption) | assumption)
        have q106 : x5_1 < (l0.length : Int) := zod (by first | (with_reducible assumption) | assumption)
        obtain ⟨ad106, e106, hx106_0⟩ := Kd.at_bool HR0.out x5_1 p106 q106
        (try rw [← Nbq13.out] at hx106_0)
        cases e106
        replace p106 := eq_true p106
        replace q106 := eq_true q106
        go_wp2
        go_roundg k1
        case measure => have := HK1.out; omega
        case rel => exact ⟨(wrap64 (x5_1 + 1)), (by first | rfl | (simp; done) | (simp [*]; done)), H', ⟨by have := HK1.out; omega⟩, by repeat (first | exact Drawn0.refl _ | apply Drawn0.step)⟩
       rw [if_neg c12] at H
       exact absurd H (by simp)
      rw [if_neg c11] at H
      have c11b0 : ((rd l1 x5_1) == 0) = false := beq_eq_false_iff_ne.mpr c11
      have c11b1 : ((rd l1 x5_1) != 0) = true := bne_iff_ne.mpr c11
      have H' := zam H
      clear H
      have p101 : 0 ≤ (x5_1 : Int) := zod (by first | (with_reducible assumption) | assumption)
      have q101 : x5_1 < (l1.length : Int) := zod (by first | (with_reducible assumption) | assumption)
      obtain ⟨ad101, e101, hx101_0⟩ := Kd.at_int HR1.out x5_1 p101 q101
      cases e101
      replace p101 := eq_true p101
      replace q101 := eq_true q101
      have p105 : 0 ≤ (x5_1 : Int) := zod (by first | (with_reducible assumption) | assumption)
      have q105 : x5_1 < (l1.length : Int) := zod (by first | (with_reducible assumption) | assumption)
      obtain ⟨ad105, e105, hx105_0⟩ := Kd.at_int HR1.out x5_1 p105 q105
      obtain rfl : ad101 = ad105 := (by injection e105)
      replace p105 := eq_true p105
      replace q105 := eq_true q105
      go_wp2
      go_roundg k1
      case measure => have := HK1.out; omega
      case rel => exact ⟨(wrap64 (x5_1 + 1)), (by first | rfl | (simp; done) | (simp [*]; done)), H', ⟨by have := HK1.out; omega⟩, by repeat (first | exact Drawn0.refl _ | apply Drawn0.step)⟩
     rw [if_neg c5] at H
     exact absurd H (by simp)
    rw [if_neg c4] at H
    have c4b0 : decide (x5_1 < (l1.length : Int)) = false := zdf c4
    clear c4
    obtain rfl := zsi H
    go_wp2
    go_ret
    exact ⟨by first | rfl | (simp; done) | (simp [*]; done), by repeat (first | exact Drawn0.refl _ | apply Drawn0.step)⟩
 rw [if_neg c3] at H
 have c3b0 : ((l0.length : Int) == (l1.length : Int)) = false := beq_eq_false_iff_ne.mpr c3
 have c3b1 : ((l0.length : Int) != (l1.length : Int)) = true := bne_iff_ne.mpr c3
 have c3b2 : (l0.length == l1.length) = false := by first | simpa using c3 | (simp at c3 ⊢; omega)
 obtain rfl := zsi H
 go_enter Try.func35, Try.ntmps35
 go_wp2
 go_ret
 exact ⟨by first | rfl | (simp; done) | (simp [*]; done), by repeat (first | exact Drawn0.refl _ | apply Drawn0.step)⟩
mutual
def isobathlaw07_SoundBetween.j0 : Nat → List Int → Int → List Bool → Bool → Option (Bool)
 | 0, _, _, _, _ => none
 | k + 1, x0, x1, x2, x27 => if x27 = true then ((isobathlaw07_Works.f k).bind fun t102 => (some t102)) else (isobathlaw07_SoundBetween.l0 k x0 x1 x2 ([] : List Bool) 0)
def isobathlaw07_SoundBetween.l0 : Nat → List Int → Int → List Bool → List Bool → Int → Option (Bool)
 | 0, _, _, _, _, _ => none
 | k + 1, x0, x1, x2, x7, x8 => if x8 < (x0.length : Int) then (if 0 ≤ x8 then (if (rd x0 x8) = 2 then (if x7.length < 140737488355328 then (isobathlaw07_SoundBetween.l0 k x0 x1 x2 (x7 ++ [true]) (wrap64 (x8 + 1))) else (none)) else (if (rd x0 x8) = 1 then (if x8 < (x2.length : Int) then (if x7.length < 140737488355328 then (isobathlaw07_SoundBetween.l0 k x0 x1 x2 (x7 ++ [rdOf false x2 x8]) (wrap64 (x8 + 1))) else (none)) else (if x7.length < 140737488355328 then (isobathlaw07_SoundBetween.l0 k x0 x1 x2 (x7 ++ [false]) (wrap64 (x8 + 1))) else (none))) else (if x7.length < 140737488355328 then (isobathlaw07_SoundBetween.l0 k x0 x1 x2 (x7 ++ [false]) (wrap64 (x8 + 1))) else (none)))) else (none)) else ((sound_Count.f k x0 x1).bind fun bt118 => ((sound_Calls.f k x7 x1).bind fun bt122 => ((sound_Fewest.f k x0 x1).bind fun bt124 => ((sound_Most.f k x0 x1).bind fun bt128 => (if bt118.2.2 = 0 then (if bt122.2 = 0 then (if bt124.2 = 0 then (if bt128.2 = 0 then (if bt122.1 < bt118.1 then (none) else (if bt122.1 > bt118.2.1 then (none) else ((isobathlaw07_fits.f k bt124.1 x0).bind fun t132 => (if t132 = true then ((isobathlaw07_fits.f k bt128.1 x0).bind fun t133 => (isobathlaw07_SoundBetween.j2 k x1 bt124.1 bt128.1 (!t133) bt118.1 bt118.2.1)) else (none))))) else (none)) else (none)) else (none)) else (none))))))
def isobathlaw07_SoundBetween.j2 : Nat → Int → List Bool → List Bool → Bool → Int → Int → Option (Bool)
 | 0, _, _, _, _, _, _ => none
 | k + 1, x1, x13, x15, x123, x122000, x122001 => if x123 = true then (none) else ((sound_Calls.f k x13 x1).bind fun bt134 => ((sound_Calls.f k x15 x1).bind fun bt136 => (if bt134.2 = 0 then (if bt136.2 = 0 then (if bt134.1 = x122000 then (if bt136.1 = x122001 then ((isobathlaw07_Works.f k).bind fun t138 => (some t138)) else (none)) else (none)) else (none)) else (none))))
end
def isobathlaw07_SoundBetween.f (k : Nat) (l0 : List Int) (a1 : Int) (l2 : List Bool) : Option (Bool) := if (l0.length : Int) > 256 then (isobathlaw07_SoundBetween.j0 k l0 a1 l2 true) else ((isobathref07_Choice.f k l0 a1).bind fun t101 => (isobathlaw07_SoundBetween.j0 k l0 a1 l2 (t101 != 0)))
set_option maxHeartbeats 8000000 in
set_option maxRecDepth 100000 in
theorem isobathlaw07_SoundBetween.calls (k : Nat) (A0 : Option Addr) (c0 : Nat) (l0 : List Int) (a1 : Int) (A2 : Option Addr) (c2 : Nat) (l2 : List Bool) (r : Bool) (w : World) (hr0 : Kd.C (Kd.int .i64) w A0 l0.length l0) (hc0 : l0.length ≤ c0) (hr2 : Kd.C Kd.bool w A2 l2.length l2) (hc2 : l2.length ≤ c2) (h : isobathlaw07_SoundBetween.f k l0 a1 l2 = some r) :
  Calls Try.prog 7 #[.slice A0 l0.length c0, .int .i64 a1, .slice A2 l2.length c2] w fun e w' => e = .returned (.bool r) ∧ Below w.heap.size w w' := by
 have hu24 := Try.underlying24
 have HR0 := zam hr0
 have HC0 := zam hc0
 clear hr0 hc0
 have HR2 := zam hr2
 have HC2 := zam hc2
 clear hr2 hc2
 have HB := zam (Below.refl w.heap.size w)
 have H : (if (l0.length : Int) > 256 then (isobathlaw07_SoundBetween.j0 k l0 a1 l2 true) else ((isobathref07_Choice.f k l0 a1).bind fun t101 => (isobathlaw07_SoundBetween.j0 k l0 a1 l2 (t101 != 0)))) = some r := h
 clear h
 have HC4 := zam H
 clear H
 go_enter Try.func7, Try.ntmps7
 go_upto_region 1 with (fail)
 go_cut [27] (fun v27 wc => ∃ (kq : Nat) (x27_3 : Bool), v27 = .bool x27_3 ∧ Aside0 (isobathlaw07_SoundBetween.j0 kq l0 a1 l2 x27_3 = some r) ∧ Aside0 (kq ≤ k) ∧ Aside0 (Below w.heap.size w wc))
 case first =>
  have H := HC4.out
  clear HC4
  by_cases c5 : (l0.length : Int) > 256
  ·rw [if_pos c5] at H
   have c5b0 : decide (256 < (l0.length : Int)) = true := zdt c5
   have c5b1 : decide (256 < l0.length) = true := zdt (by omega)
   clear c5
   (first | rw [c5b0] | (simp only [i64_w, i32_w]; rw [c5b0]) | skip)
   have H' := zam H
   clear H
   go_wp2
   go_meet
   case rel => exact ⟨_, (true), (by first | rfl | (simp; done) | (simp [*]; done)), H', ⟨by first | omega | exact Nat.le_refl _⟩, ⟨by repeat (first | (with_reducible first | exact HB.out | apply zba | apply zbn | apply zb1) | exact HB.out)⟩⟩
  rw [if_neg c5] at H
  have c5b0 : decide (256 < (l0.length : Int)) = false := zdf c5
  have c5b1 : decide (256 < l0.length) = false := zdf (by omega)
  clear c5
  (first | rw [c5b0] | (simp only [i64_w, i32_w]; rw [c5b0]) | skip)
  replace H := Option.bind_eq_some_iff.mp H
  obtain ⟨t101, A60, H⟩ := H
  replace H : (isobathlaw07_SoundBetween.j0 k l0 a1 l2 (t101 != 0)) = some r := H
  have A6 := zam A60
  clear A60
  have H' := zam H
  clear H
  go_wp2_with (first | (go_at_call 31; (with_reducible refine (isobathref07_Choice.calls k _ _ l0 a1 t101 _ ?side1 ?side2 A6.out).mono ?_); (case side1 => repeat (first | exact (Kd.C_below HR0.out HB.out) | (with_reducible refine Kd.C_alloc ?_ _) | (with_reducible refine Kd.C_drewN ?_ _) | (with_reducible refine Kd.C_drew ?_))); (case side2 => exact HC0.out); rintro e w' ⟨rfl, ⟨nd, rfl⟩⟩))
  go_meet
  case rel => exact ⟨_, ((t101 != 0)), (by first | rfl | (simp; done) | (simp [*]; done)), H', ⟨by first | omega | exact Nat.le_refl _⟩, ⟨by repeat (first | (with_reducible first | exact HB.out | apply zba | apply zbn | apply zb1) | exact HB.out)⟩⟩
 case rest =>
  clear HC4
  try clear c2
  try clear p2
  try clear c5
  try clear c5b0
  try clear c5b1
  obtain ⟨kq, x27_3, rfl, HA, HJ3, HB⟩ := hcut
  cases kq with
  | zero => exact absurd HA.out (by simp [isobathlaw07_SoundBetween.j0])
  | succ kj3 =>
   have H := HA.out
   clear HA
   simp only [isobathlaw07_SoundBetween.j0] at H
   by_cases c7 : x27_3 = true
   ·subst c7
    have H1 : ((isobathlaw07_Works.f kj3).bind fun t102 => (some t102)) = some r := by rw [if_pos rfl] at H; exact H
    clear H
    have H := H1
    clear H1
    replace H := Option.bind_eq_some_iff.mp H
    obtain ⟨t102, A80, H⟩ := H
    replace H : (some t102) = some r := H
    have A8 := zam A80
    clear A80
    obtain rfl := zsi H
    go_wp2_with (first | ((with_reducible refine zgc (f := 14) rfl ?_); refine goesL_ (some 28) rfl rfl Try.func14 (by kernel_rfl) rfl #[] rfl (by (try simp only [zmt, List.map_cons, List.map_nil]); first | done | rfl | (simp only [zld, zlt]; rfl)) ?_; (with_reducible refine (isobathlaw07_Works.calls kj3  t102 _ A8.out).mono ?_); rintro e w9 ⟨rfl, hb⟩; refine ⟨_, rfl, ?_⟩; have n0_ := zam (zbt (by repeat (first | (with_reducible first | exact HB.out | apply zba | apply zbn | apply zb1) | exact HB.out)) hb); clear HB; have HB := n0_; clear n0_; (try clear hb); (try clear hb2); (try clear hk); (try clear hi)))
    go_ret
    exact ⟨by first | rfl | (simp [errW_none, errW_some] <;> rfl) | (simp [*, errW_none, errW_some] <;> rfl), by repeat (first | (with_reducible first | exact HB.out | apply zba | apply zbn | apply zb1) | exact HB.out)⟩
   replace c7 := Bool.eq_false_iff.mpr c7
   subst c7
   have H1 : (isobathlaw07_SoundBetween.l0 kj3 l0 a1 l2 ([] : List Bool) 0) = some r := by rw [if_neg (show ¬ (false = true) by decide)] at H; exact H
   clear H
   have H := H1
   clear H1
   have H' := zam H
   clear H
   go_wp2
   go_loopg [7, 8] kj3 (fun kq v7 v8 w' => ∃ (x7_2 : List Bool) (x8_2 : Int), v8 = .int .i64 x8_2 ∧ Aside0 (isobathlaw07_SoundBetween.l0 kq l0 a1 l2 x7_2 x8_2 = some r) ∧ Aside0 (kq ≤ kj3) ∧ Aside0 (Kd.R Kd.bool 4 w' w.heap.size (fun _ => True) v7 x7_2) ∧ Aside0 (Below w.heap.size w w'))
   case atStart => exact ⟨(([] : List Bool)), (0), (by first | rfl | (simp; done) | (simp [*]; done)), H', ⟨Nat.le_refl _⟩, ⟨by first | exact Kd.R_nil _ _ _ _ _ | exact Kd.N_nil _ _ _ _ _ | exact Kd.V_nil _ _ _ _ _ | exact Kd.Q_nil _ _ _ _ _ | exact Kd.S_nil _ _ _ _ _⟩, ⟨by repeat (first | (with_reducible first | exact HB.out | apply zba | apply zbn | apply zb1) | exact HB.out)⟩⟩
   case round =>
    clear H'
    try clear c1
    try clear c2
    try clear p2
    try clear c5
    try clear c5b0
    try clear c5b1
    try clear c7
    try clear p2
    obtain ⟨x7_2, x8_2, rfl, HA, HK2, HO_7, HB⟩ := hrel
    cases gk with
    | zero => exact absurd HA.out (by simp [isobathlaw07_SoundBetween.l0])
    | succ k2 =>
     have H := HA.out
     clear HA
     simp only [isobathlaw07_SoundBetween.l0] at H
     by_cases c10 : x8_2 < (l0.length : Int)
     ·rw [if_pos c10] at H
      have c10b0 : decide (x8_2 < (l0.length : Int)) = true := zdt c10
      clear c10
      by_cases c11 : 0 ≤ x8_2
      ·rw [if_pos c11] at H
       have c11b0 : decide (0 ≤ x8_2) = true := zdt c11
       clear c11
       by_cases c12 : (rd l0 x8_2) = 2
       ·rw [if_pos c12] at H
        have c12b0 : ((rd l0 x8_2) == 2) = true := beq_iff_eq.mpr c12
        have c12b1 : ((rd l0 x8_2) != 2) = false := bne_eq_false_iff_eq.mpr c12
        clear c12
        by_cases c13 : x7_2.length < 140737488355328
        ·rw [if_pos c13] at H
         have LMc13 := zam c13
         clear c13
         obtain ⟨y104, hy104⟩ : ∃ y_ : List Bool, y_ = (x7_2 ++ [true]) := ⟨_, rfl⟩
         replace H : (isobathlaw07_SoundBetween.l0 k2 l0 a1 l2 y104 (wrap64 (x8_2 + 1))) = some r := by first | (rw [hy104]; with_reducible exact H) | (have H2_ := (Option.bind_some _ _).symm.trans H; rw [hy104]; with_reducible exact H2_) | (have H2_ := (Option.bind_some _ _).symm.trans H; with_reducible exact H2_) | with_reducible exact H | (rw [hy104]; exact H) | exact H
         have Ny104 := zam hy104
         clear hy104
         have H' := zam H
         clear H
         have p103 : 0 ≤ (x8_2 : Int) := zod (by first | (with_reducible assumption) | assumption)
         have q103 : x8_2 < (l0.length : Int) := zod (by first | (with_reducible assumption) | assumption)
         obtain ⟨ad103, e103, hx103_0⟩ := Kd.at_int HR0.out x8_2 p103 q103
         cases e103
         replace hx103_0 := (HB.out.cell (zwb w _ hx103_0)).trans hx103_0
         replace p103 := eq_true p103
         replace q103 := eq_true q103
         go_wp2_with (first | ((with_reducible refine gate_builtin (b := .append) (xs := #[.tmp 35, .tmp 60]) rfl ?_); (try (refine gate_guard (by rfl) ?_; dsimp only)); at_builtin; refine Kd.R_append Kd.bool (w0 := w) w.heap.size rfl (.tmp 35) (.tmp 60) 71 4 (.bool false) 1 rfl Try.underlying71 info4 rfl (by decide) (by omega) u7 x7_2 true [.bool true] (fun _ => True) (fun _ => False) rfl rfl ?aP (fun _ hk => hk.elim) ?aF ?aO ?aB ?aS ?aL ?_; (case aP => exact rfl); (case aB => exact (by repeat (first | (with_reducible first | exact HB.out | apply zba | apply zbn | apply zb1) | exact HB.out))); (case aF => exact (fun _ _ => trivial)); (case aO => exact (by (with_reducible repeat (first | apply zRa | apply zRn | apply zRd)); exact HO_7.out)); (case aS => exact (zbz (by repeat (first | (with_reducible first | exact HB.out | apply zba | apply zbn | apply zb1) | exact HB.out)))); (case aL => have := LMc13.out; omega); intro v105 w14 ho hb hg hat; rw [← Ny104.out] at ho; have n0_ := zam (hb); have n1_ := zam (ho); clear HB; clear HO_7; have HB := n0_; have HO106 := n1_; clear n0_ n1_; clear ho hb hg hat))
         go_roundg k2
         case measure => have := HJ3.out; have := HK2.out; omega
         case rel => exact ⟨(y104), (wrap64 (x8_2 + 1)), (by first | rfl | (simp; done) | (simp [*]; done)), H', ⟨by have := HJ3.out; have := HK2.out; omega⟩, ⟨by (with_reducible repeat (first | apply zRa | apply zRn | apply zRd)); exact HO106.out⟩, ⟨by repeat (first | (with_reducible first | exact HB.out | apply zba | apply zbn | apply zb1) | exact HB.out)⟩⟩
        rw [if_neg c13] at H
        exact absurd H (by simp)
       rw [if_neg c12] at H
       have c12b0 : ((rd l0 x8_2) == 2) = false := beq_eq_false_iff_ne.mpr c12
       have c12b1 : ((rd l0 x8_2) != 2) = true := bne_iff_ne.mpr c12
       by_cases c15 : (rd l0 x8_2) = 1
       ·rw [if_pos c15] at H
        have c15b0 : ((rd l0 x8_2) == 1) = true := beq_iff_eq.mpr c15
        have c15b1 : ((rd l0 x8_2) != 1) = false := bne_eq_false_iff_eq.mpr c15
        clear c15
        by_cases c16 : x8_2 < (l2.length : Int)
        ·rw [if_pos c16] at H
         have c16b0 : decide (x8_2 < (l2.length : Int)) = true := zdt c16
         clear c16
         by_cases c17 : x7_2.length < 140737488355328
         ·rw [if_pos c17] at H
          have LMc17 := zam c17
          clear c17
          obtain ⟨y109, hy109⟩ : ∃ y_ : List Bool, y_ = (x7_2 ++ [rdOf false l2 x8_2]) := ⟨_, rfl⟩
          replace H : (isobathlaw07_SoundBetween.l0 k2 l0 a1 l2 y109 (wrap64 (x8_2 + 1))) = some r := by first | (rw [hy109]; with_reducible exact H) | (have H2_ := (Option.bind_some _ _).symm.trans H; rw [hy109]; with_reducible exact H2_) | (have H2_ := (Option.bind_some _ _).symm.trans H; with_reducible exact H2_) | with_reducible exact H | (rw [hy109]; exact H) | exact H
          have Ny109 := zam hy109
          clear hy109
          have H' := zam H
          clear H
          have p103 : 0 ≤ (x8_2 : Int) := zod (by first | (with_reducible assumption) | assumption)
          have q103 : x8_2 < (l0.length : Int) := zod (by first | (with_reducible assumption) | assumption)
          obtain ⟨ad103, e103, hx103_0⟩ := Kd.at_int HR0.out x8_2 p103 q103
          cases e103
          replace hx103_0 := (HB.out.cell (zwb w _ hx103_0)).trans hx103_0
          replace p103 := eq_true p103
          replace q103 := eq_true q103
          have p107 : 0 ≤ (x8_2 : Int) := zod (by first | (with_reducible assumption) | assumption)
          have q107 : x8_2 < (l0.length : Int) := zod (by first | (with_reducible assumption) | assumption)
          obtain ⟨ad107, e107, hx107_0⟩ := Kd.at_int HR0.out x8_2 p107 q107
          obtain rfl : ad103 = ad107 := (by injection e107)
          replace hx107_0 := (HB.out.cell (zwb w _ hx107_0)).trans hx107_0
          replace p107 := eq_true p107
          replace q107 := eq_true q107
          have p108 : 0 ≤ (x8_2 : Int) := zod (by first | (with_reducible assumption) | assumption)
          have q108 : x8_2 < (l2.length : Int) := zod (by first | (with_reducible assumption) | assumption)
          obtain ⟨ad108, e108, hx108_0⟩ := Kd.at_bool HR2.out x8_2 p108 q108
          cases e108
          replace hx108_0 := (HB.out.cell (zwb w _ hx108_0)).trans hx108_0
          replace p108 := eq_true p108
          replace q108 := eq_true q108
          go_wp2_with (first | ((with_reducible refine gate_builtin (b := .append) (xs := #[.tmp 35, .tmp 60]) rfl ?_); (try (refine gate_guard (by rfl) ?_; dsimp only)); at_builtin; refine Kd.R_append Kd.bool (w0 := w) w.heap.size rfl (.tmp 35) (.tmp 60) 71 4 (.bool false) 1 rfl Try.underlying71 info4 rfl (by decide) (by omega) u7 x7_2 (rdOf false l2 x8_2) [.bool (rdOf false l2 x8_2)] (fun _ => True) (fun _ => False) rfl rfl ?aP (fun _ hk => hk.elim) ?aF ?aO ?aB ?aS ?aL ?_; (case aP => exact rfl); (case aB => exact (by repeat (first | (with_reducible first | exact HB.out | apply zba | apply zbn | apply zb1) | exact HB.out))); (case aF => exact (fun _ _ => trivial)); (case aO => exact (by (with_reducible repeat (first | apply zRa | apply zRn | apply zRd)); exact HO_7.out)); (case aS => exact (zbz (by repeat (first | (with_reducible first | exact HB.out | apply zba | apply zbn | apply zb1) | exact HB.out)))); (case aL => have := LMc17.out; omega); intro v110 w18 ho hb hg hat; rw [← Ny109.out] at ho; have n0_ := zam (hb); have n1_ := zam (ho); clear HB; clear HO_7; have HB := n0_; have HO111 := n1_; clear n0_ n1_; clear ho hb hg hat))
          go_roundg k2
          case measure => have := HJ3.out; have := HK2.out; omega
          case rel => exact ⟨(y109), (wrap64 (x8_2 + 1)), (by first | rfl | (simp; done) | (simp [*]; done)), H', ⟨by have := HJ3.out; have := HK2.out; omega⟩, ⟨by (with_reducible repeat (first | apply zRa | apply zRn | apply zRd)); exact HO111.out⟩, ⟨by repeat (first | (with_reducible first | exact HB.out | apply zba | apply zbn | apply zb1) | exact HB.out)⟩⟩
         rw [if_neg c17] at H
         exact absurd H (by simp)
        rw [if_neg c16] at H
        have c16b0 : decide (x8_2 < (l2.length : Int)) = false := zdf c16
        clear c16
        by_cases c19 : x7_2.length < 140737488355328
        ·rw [if_pos c19] at H
         have LMc19 := zam c19
         clear c19
         obtain ⟨y112, hy112⟩ : ∃ y_ : List Bool, y_ = (x7_2 ++ [false]) := ⟨_, rfl⟩
         replace H : (isobathlaw07_SoundBetween.l0 k2 l0 a1 l2 y112 (wrap64 (x8_2 + 1))) = some r := by first | (rw [hy112]; with_reducible exact H) | (have H2_ := (Option.bind_some _ _).symm.trans H; rw [hy112]; with_reducible exact H2_) | (have H2_ := (Option.bind_some _ _).symm.trans H; with_reducible exact H2_) | with_reducible exact H | (rw [hy112]; exact H) | exact H
         have Ny112 := zam hy112
         clear hy112
         have H' := zam H
         clear H
         have p103 : 0 ≤ (x8_2 : Int) := zod (by first | (with_reducible assumption) | assumption)
         have q103 : x8_2 < (l0.length : Int) := zod (by first | (with_reducible assumption) | assumption)
         obtain ⟨ad103, e103, hx103_0⟩ := Kd.at_int HR0.out x8_2 p103 q103
         cases e103
         replace hx103_0 := (HB.out.cell (zwb w _ hx103_0)).trans hx103_0
         replace p103 := eq_true p103
         replace q103 := eq_true q103
         have p107 : 0 ≤ (x8_2 : Int) := zod (by first | (with_reducible assumption) | assumption)
         have q107 : x8_2 < (l0.length : Int) := zod (by first | (with_reducible assumption) | assumption)
         obtain ⟨ad107, e107, hx107_0⟩ := Kd.at_int HR0.out x8_2 p107 q107
         obtain rfl : ad103 = ad107 := (by injection e107)
         replace hx107_0 := (HB.out.cell (zwb w _ hx107_0)).trans hx107_0
         replace p107 := eq_true p107
         replace q107 := eq_true q107
         go_wp2_with (first | ((with_reducible refine gate_builtin (b := .append) (xs := #[.tmp 35, .tmp 60]) rfl ?_); (try (refine gate_guard (by rfl) ?_; dsimp only)); at_builtin; refine Kd.R_append Kd.bool (w0 := w) w.heap.size rfl (.tmp 35) (.tmp 60) 71 4 (.bool false) 1 rfl Try.underlying71 info4 rfl (by decide) (by omega) u7 x7_2 false [.bool false] (fun _ => True) (fun _ => False) rfl rfl ?aP (fun _ hk => hk.elim) ?aF ?aO ?aB ?aS ?aL ?_; (case aP => exact rfl); (case aB => exact (by repeat (first | (with_reducible first | exact HB.out | apply zba | apply zbn | apply zb1) | exact HB.out))); (case aF => exact (fun _ _ => trivial)); (case aO => exact (by (with_reducible repeat (first | apply zRa | apply zRn | apply zRd)); exact HO_7.out)); (case aS => exact (zbz (by repeat (first | (with_reducible first | exact HB.out | apply zba | apply zbn | apply zb1) | exact HB.out)))); (case aL => have := LMc19.out; omega); intro v113 w20 ho hb hg hat; rw [← Ny112.out] at ho; have n0_ := zam (hb); have n1_ := zam (ho); clear HB; clear HO_7; have HB := n0_; have HO114 := n1_; clear n0_ n1_; clear ho hb hg hat))
         go_roundg k2
         case measure => have := HJ3.out; have := HK2.out; omega
         case rel => exact ⟨(y112), (wrap64 (x8_2 + 1)), (by first | rfl | (simp; done) | (simp [*]; done)), H', ⟨by have := HJ3.out; have := HK2.out; omega⟩, ⟨by (with_reducible repeat (first | apply zRa | apply zRn | apply zRd)); exact HO114.out⟩, ⟨by repeat (first | (with_reducible first | exact HB.out | apply zba | apply zbn | apply zb1) | exact HB.out)⟩⟩
        rw [if_neg c19] at H
        exact absurd H (by simp)
       rw [if_neg c15] at H
       have c15b0 : ((rd l0 x8_2) == 1) = false := beq_eq_false_iff_ne.mpr c15
       have c15b1 : ((rd l0 x8_2) != 1) = true := bne_iff_ne.mpr c15
       by_cases c21 : x7_2.length < 140737488355328
       ·rw [if_pos c21] at H
        have LMc21 := zam c21
        clear c21
        obtain ⟨y115, hy115⟩ : ∃ y_ : List Bool, y_ = (x7_2 ++ [false]) := ⟨_, rfl⟩
        replace H : (isobathlaw07_SoundBetween.l0 k2 l0 a1 l2 y115 (wrap64 (x8_2 + 1))) = some r := by first | (rw [hy115]; with_reducible exact H) | (have H2_ := (Option.bind_some _ _).symm.trans H; rw [hy115]; with_reducible exact H2_) | (have H2_ := (Option.bind_some _ _).symm.trans H; with_reducible exact H2_) | with_reducible exact H | (rw [hy115]; exact H) | exact H
        have Ny115 := zam hy115
        clear hy115
        have H' := zam H
        clear H
        have p103 : 0 ≤ (x8_2 : Int) := zod (by first | (with_reducible assumption) | assumption)
        have q103 : x8_2 < (l0.length : Int) := zod (by first | (with_reducible assumption) | assumption)
        obtain ⟨ad103, e103, hx103_0⟩ := Kd.at_int HR0.out x8_2 p103 q103
        cases e103
        replace hx103_0 := (HB.out.cell (zwb w _ hx103_0)).trans hx103_0
        replace p103 := eq_true p103
        replace q103 := eq_true q103
        have p107 : 0 ≤ (x8_2 : Int) := zod (by first | (with_reducible assumption) | assumption)
        have q107 : x8_2 < (l0.length : Int) := zod (by first | (with_reducible assumption) | assumption)
        obtain ⟨ad107, e107, hx107_0⟩ := Kd.at_int HR0.out x8_2 p107 q107
        obtain rfl : ad103 = ad107 := (by injection e107)
        replace hx107_0 := (HB.out.cell (zwb w _ hx107_0)).trans hx107_0
        replace p107 := eq_true p107
        replace q107 := eq_true q107
        go_wp2_with (first | ((with_reducible refine gate_builtin (b := .append) (xs := #[.tmp 35, .tmp 60]) rfl ?_); (try (refine gate_guard (by rfl) ?_; dsimp only)); at_builtin; refine Kd.R_append Kd.bool (w0 := w) w.heap.size rfl (.tmp 35) (.tmp 60) 71 4 (.bool false) 1 rfl Try.underlying71 info4 rfl (by decide) (by omega) u7 x7_2 false [.bool false] (fun _ => True) (fun _ => False) rfl rfl ?aP (fun _ hk => hk.elim) ?aF ?aO ?aB ?aS ?aL ?_; (case aP => exact rfl); (case aB => exact (by repeat (first | (with_reducible first | exact HB.out | apply zba | apply zbn | apply zb1) | exact HB.out))); (case aF => exact (fun _ _ => trivial)); (case aO => exact (by (with_reducible repeat (first | apply zRa | apply zRn | apply zRd)); exact HO_7.out)); (case aS => exact (zbz (by repeat (first | (with_reducible first | exact HB.out | apply zba | apply zbn | apply zb1) | exact HB.out)))); (case aL => have := LMc21.out; omega); intro v116 w22 ho hb hg hat; rw [← Ny115.out] at ho; have n0_ := zam (hb); have n1_ := zam (ho); clear HB; clear HO_7; have HB := n0_; have HO117 := n1_; clear n0_ n1_; clear ho hb hg hat))
        go_roundg k2
        case measure => have := HJ3.out; have := HK2.out; omega
        case rel => exact ⟨(y115), (wrap64 (x8_2 + 1)), (by first | rfl | (simp; done) | (simp [*]; done)), H', ⟨by have := HJ3.out; have := HK2.out; omega⟩, ⟨by (with_reducible repeat (first | apply zRa | apply zRn | apply zRd)); exact HO117.out⟩, ⟨by repeat (first | (with_reducible first | exact HB.out | apply zba | apply zbn | apply zb1) | exact HB.out)⟩⟩
       rw [if_neg c21] at H
       exact absurd H (by simp)
      rw [if_neg c11] at H
      exact absurd H (by simp)
     rw [if_neg c10] at H
     have c10b0 : decide (x8_2 < (l0.length : Int)) = false := zdf c10
     clear c10
     replace H := Option.bind_eq_some_iff.mp H
     obtain ⟨⟨t118, t119, t120⟩, A230, H⟩ := H
     replace H : ((sound_Calls.f k2 x7_2 a1).bind fun bt122 => ((sound_Fewest.f k2 l0 a1).bind fun bt124 => ((sound_Most.f k2 l0 a1).bind fun bt128 => (if t120 = 0 then (if bt122.2 = 0 then (if bt124.2 = 0 then (if bt128.2 = 0 then (if bt122.1 < t118 then (none) else (if bt122.1 > t119 then (none) else ((isobathlaw07_fits.f k2 bt124.1 l0).bind fun t132 => (if t132 = true then ((isobathlaw07_fits.f k2 bt128.1 l0).bind fun t133 => (isobathlaw07_SoundBetween.j2 k2 a1 bt124.1 bt128.1 (!t133) t118 t119)) else (none))))) else (none)) else (none)) else (none)) else (none))))) = some r := H
     have A23 := zam A230
     clear A230
     replace H := Option.bind_eq_some_iff.mp H
     obtain ⟨⟨t122, t123⟩, A240, H⟩ := H
     replace H : ((sound_Fewest.f k2 l0 a1).bind fun bt124 => ((sound_Most.f k2 l0 a1).bind fun bt128 => (if t120 = 0 then (if t123 = 0 then (if bt124.2 = 0 then (if bt128.2 = 0 then (if t122 < t118 then (none) else (if t122 > t119 then (none) else ((isobathlaw07_fits.f k2 bt124.1 l0).bind fun t132 => (if t132 = true then ((isobathlaw07_fits.f k2 bt128.1 l0).bind fun t133 => (isobathlaw07_SoundBetween.j2 k2 a1 bt124.1 bt128.1 (!t133) t118 t119)) else (none))))) else (none)) else (none)) else (none)) else (none)))) = some r := H
     have A24 := zam A240
     clear A240
     replace H := Option.bind_eq_some_iff.mp H
     obtain ⟨⟨t124, t125⟩, A250, H⟩ := H
     replace H : ((sound_Most.f k2 l0 a1).bind fun bt128 => (if t120 = 0 then (if t123 = 0 then (if t125 = 0 then (if bt128.2 = 0 then (if t122 < t118 then (none) else (if t122 > t119 then (none) else ((isobathlaw07_fits.f k2 t124 l0).bind fun t132 => (if t132 = true then ((isobathlaw07_fits.f k2 bt128.1 l0).bind fun t133 => (isobathlaw07_SoundBetween.j2 k2 a1 t124 bt128.1 (!t133) t118 t119)) else (none))))) else (none)) else (none)) else (none)) else (none))) = some r := H
     have A25 := zam A250
     clear A250
     replace H := Option.bind_eq_some_iff.mp H
     obtain ⟨⟨t128, t129⟩, A260, H⟩ := H
     replace H : (if t120 = 0 then (if t123 = 0 then (if t125 = 0 then (if t129 = 0 then (if t122 < t118 then (none) else (if t122 > t119 then (none) else ((isobathlaw07_fits.f k2 t124 l0).bind fun t132 => (if t132 = true then ((isobathlaw07_fits.f k2 t128 l0).bind fun t133 => (isobathlaw07_SoundBetween.j2 k2 a1 t124 t128 (!t133) t118 t119)) else (none))))) else (none)) else (none)) else (none)) else (none)) = some r := H
     have A26 := zam A260
     clear A260
     have HC27 := zam H
     clear H
     go_upto_region 12 with (first | ((with_reducible refine zgc (f := 30) rfl ?_); refine goesL_ (some 65) rfl rfl Try.func30 (by kernel_rfl) rfl #[.slice A0 l0.length c0, .int .i64 a1] rfl (by (try simp only [zmt, List.map_cons, List.map_nil]); first | done | rfl | (simp only [zld, zlt]; rfl)) ?_; (with_reducible refine (sound_Count.calls k2 _ _ l0 a1 t118 t119 t120 _ ?side1 ?side2 A23.out).mono ?_); (case side1 => repeat (first | exact (Kd.C_below HR0.out HB.out) | (with_reducible refine Kd.C_alloc ?_ _) | (with_reducible refine Kd.C_drewN ?_ _) | (with_reducible refine Kd.C_drew ?_))); (case side2 => exact HC0.out); rintro e w28 ⟨rfl, hb⟩; refine ⟨_, rfl, ?_⟩; have n0_ := zam (Kd.R_below (by (with_reducible repeat (first | apply zRa | apply zRn | apply zRd)); exact HO_7.out) hb); have n1_ := zam (zbt (by repeat (first | (with_reducible first | exact HB.out | apply zba | apply zbn | apply zb1) | exact HB.out)) hb); clear HO_7; clear HB; have HO_7 := n0_; have HB := n1_; clear n0_ n1_; (try clear hb); (try clear hb2); (try clear hk); (try clear hi)) | ((with_reducible refine zgd (N := 9) rfl ?_); (try (refine gate_guard (by rfl) ?_; dsimp only)); refine box_event ?hg (N := 9) ?hd (cs := #[.int .i64 0, .int .i64 0]) (t := 24) ?hr ?_; (case hd => rfl); (case hg => rfl); (case hr => first | (go_simp; done) | (go_simp; rfl)); intro gb121 hg w29 hbox hb; have n0_ := zam (Kd.R_below (by (with_reducible repeat (first | apply zRa | apply zRn | apply zRd)); exact HO_7.out) hb); have n1_ := zam (zbt (by repeat (first | (with_reducible first | exact HB.out | apply zba | apply zbn | apply zb1) | exact HB.out)) hb); have n2_ := zam (hbox); have n3_ := zam ((by rw [hg]; exact (zbz (by repeat (first | (with_reducible first | exact HB.out | apply zba | apply zbn | apply zb1) | exact HB.out))) : w.heap.size ≤ gb121)); have n4_ := zam ((by rw [hg]; exact (zbz (by repeat (first | (with_reducible first | exact HB.out | apply zba | apply zbn | apply zb1) | exact HB.out))) : w.heap.size ≤ gb121)); clear HO_7; clear HB; have HO_7 := n0_; have HB := n1_; have BK121 := n2_; have GW121 := n3_; have GE121 := n4_; clear n0_ n1_ n2_ n3_ n4_; clear hb hbox hg; have hcz30_0 : w29.cell? ⟨gb121, 0, none⟩ = some (.int .i64 0) := (zkc BK121.out 0).trans rfl; have hcz30_1 : w29.cell? ⟨gb121, 1, none⟩ = some (.int .i64 0) := (zkc BK121.out 1).trans rfl; have hfz30_0 := zkz BK121.out 0; have hfz30_1 := zkz BK121.out 1; obtain ⟨Ao31, co31, eo31⟩ := Kd.R_slice HO_7.out; subst eo31) | ((with_reducible refine zgc (f := 32) rfl ?_); refine goesL_ (some 71) rfl rfl Try.func32 (by kernel_rfl) rfl #[.slice Ao31 x7_2.length co31, .int .i64 a1] rfl (by (try simp only [zmt, List.map_cons, List.map_nil]); first | done | rfl | (simp only [zld, zlt]; rfl)) ?_; (with_reducible refine (sound_Calls.calls k2 _ _ x7_2 a1 t122 t123 _ ?side1 ?side2 A24.out).mono ?_); (case side1 => refine (Kd.R_reads' (e := 4) (base := w.heap.size) (ok := fun k_ => True) (n := x7_2.length) (c := co31) ?_).2.2; exact (by (with_reducible repeat (first | apply zRa | apply zRn | apply zRd)); exact (Kd.R_mono (Kd.R_far (p := ⟨gb121, 1, none⟩) (Kd.R_far (p := ⟨gb121, 0, none⟩) (Kd.R_types HO_7.out BK121.out (by decide)) (fun _ hk => hk.2) (.int .i64 t118)) (fun _ hk => hk.2) (.int .i64 t119)) (fun _ h_ => h_.1)))); (case side2 => exact (Kd.R_reads' HO_7.out).2.1); rintro e w' ⟨rfl, ⟨nd, rfl⟩⟩; refine ⟨_, rfl, ?_⟩) | ((with_reducible refine zgc (f := 33) rfl ?_); refine goesL_ (some 77) rfl rfl Try.func33 (by kernel_rfl) rfl #[.slice A0 l0.length c0, .int .i64 a1] rfl (by (try simp only [zmt, List.map_cons, List.map_nil]); first | done | rfl | (simp only [zld, zlt]; rfl)) ?_; (with_reducible refine (sound_Fewest.calls k2 _ _ l0 a1 t124 t125 _ ?side1 ?side2 A25.out).mono ?_); (case side1 => exact Kd.C_below HR0.out (by repeat (first | (with_reducible first | exact HB.out | apply zba | apply zbn | apply zb1 | refine zbs ?_ GE121.out) | exact HB.out))); (case side2 => exact HC0.out); rintro e w32 ⟨v126, rfl, ho0, hb⟩; refine ⟨_, rfl, ?_⟩; have n0_ := zam (Kd.R_elder' (by (with_reducible repeat (first | apply zRa | apply zRn | apply zRd)); exact (Kd.R_mono (Kd.R_far (p := ⟨gb121, 1, none⟩) (Kd.R_far (p := ⟨gb121, 0, none⟩) (Kd.R_types HO_7.out BK121.out (by decide)) (fun _ hk => hk.2) (.int .i64 t118)) (fun _ hk => hk.2) (.int .i64 t119)) (fun _ h_ => h_.1))) (Kd.R_base ho0) hb); have n1_ := zam (Kd.R_lower (Kd.R_new' ho0 (Kd.R_lt (by (with_reducible repeat (first | apply zRa | apply zRn | apply zRd)); exact (Kd.R_mono (Kd.R_far (p := ⟨gb121, 1, none⟩) (Kd.R_far (p := ⟨gb121, 0, none⟩) (Kd.R_types HO_7.out BK121.out (by decide)) (fun _ hk => hk.2) (.int .i64 t118)) (fun _ hk => hk.2) (.int .i64 t119)) (fun _ h_ => h_.1))))) (zbz (by repeat (first | (with_reducible first | exact HB.out | apply zba | apply zbn | apply zb1 | refine zbs ?_ GE121.out) | exact HB.out)))); have n2_ := zam (zkb (g := gb121) (o := .cells #[.int .i64 t118, .int .i64 t119] 24 (0, 0)) (by (with_reducible repeat (first | refine zkn ?_ _ | refine zkd ?_ | refine zka ?_ _)); refine blk_put (cs := #[.int .i64 t118, .int .i64 0]) ?_ 1 _ rfl; (with_reducible repeat (first | refine zkn ?_ _ | refine zkd ?_ | refine zka ?_ _)); refine blk_put (cs := #[.int .i64 0, .int .i64 0]) ?_ 0 _ rfl; (with_reducible repeat (first | refine zkn ?_ _ | refine zkd ?_ | refine zka ?_ _)); exact BK121.out) hb); have n3_ := zam (zbt (by repeat (first | (with_reducible first | exact HB.out | apply zba | apply zbn | apply zb1 | refine zbs ?_ GE121.out) | exact HB.out)) hb); clear HO_7; clear BK121; clear HB; have HO_7 := n0_; have HO127 := n1_; have BK121 := n2_; have HB := n3_; clear n0_ n1_ n2_ n3_; (try clear hb); (try clear hb2); (try clear hk); (try clear hi); (try clear ho0)) | ((with_reducible refine zgc (f := 34) rfl ?_); refine goesL_ (some 83) rfl rfl Try.func34 (by kernel_rfl) rfl #[.slice A0 l0.length c0, .int .i64 a1] rfl (by (try simp only [zmt, List.map_cons, List.map_nil]); first | done | rfl | (simp only [zld, zlt]; rfl)) ?_; (with_reducible refine (sound_Most.calls k2 _ _ l0 a1 t128 t129 _ ?side1 ?side2 A26.out).mono ?_); (case side1 => repeat (first | exact (Kd.C_below HR0.out HB.out) | (with_reducible refine Kd.C_alloc ?_ _) | (with_reducible refine Kd.C_drewN ?_ _) | (with_reducible refine Kd.C_drew ?_))); (case side2 => exact HC0.out); rintro e w33 ⟨v130, rfl, ho0, hb⟩; refine ⟨_, rfl, ?_⟩; have n0_ := zam (Kd.R_elder' (by (with_reducible repeat (first | apply zRa | apply zRn | apply zRd)); exact HO_7.out) (Kd.R_base ho0) hb); have n1_ := zam (Kd.R_elder' (by (with_reducible repeat (first | apply zRa | apply zRn | apply zRd)); exact HO127.out) (Kd.R_base ho0) hb); have n2_ := zam (Kd.R_lower (Kd.R_new' (Kd.R_new' ho0 (Kd.R_lt (by (with_reducible repeat (first | apply zRa | apply zRn | apply zRd)); exact HO_7.out))) (Kd.R_lt (by (with_reducible repeat (first | apply zRa | apply zRn | apply zRd)); exact HO127.out))) (zbz (by repeat (first | (with_reducible first | exact HB.out | apply zba | apply zbn | apply zb1 | refine zbs ?_ GE121.out) | exact HB.out)))); have n3_ := zam (zkb (g := gb121) (o := .cells #[.int .i64 t118, .int .i64 t119] 24 (0, 0)) (by (with_reducible repeat (first | refine zkn ?_ _ | refine zkd ?_ | refine zka ?_ _)); exact BK121.out) hb); have n4_ := zam (zbt (by repeat (first | (with_reducible first | exact HB.out | apply zba | apply zbn | apply zb1 | refine zbs ?_ GE121.out) | exact HB.out)) hb); clear HO_7; clear HO127; clear BK121; clear HB; have HO_7 := n0_; have HO127 := n1_; have HO131 := n2_; have BK121 := n3_; have HB := n4_; clear n0_ n1_ n2_ n3_ n4_; (try clear hb); (try clear hb2); (try clear hk); (try clear hi); (try clear ho0)))
     (try simp only [Act.put, zsa, zsz, zss])
     go_cut [123] (fun v123 wc => ∃ (kq : Nat) (x123_26 : Bool), v123 = .bool x123_26 ∧ Aside0 (isobathlaw07_SoundBetween.j2 kq a1 t124 t128 x123_26 t118 t119 = some r) ∧ Aside0 (kq ≤ k2) ∧ Aside0 (Kd.R Kd.bool 4 wc w.heap.size (fun k_ => some k_ ≠ (v130 : Value).ownBlock) v126 t124) ∧ Aside0 (Kd.R Kd.bool 4 wc w.heap.size (fun k_ => some k_ ≠ (v126 : Value).ownBlock) v130 t128) ∧ Aside0 (wc.heap[gb121]? = some (.cells #[.int .i64 t118, .int .i64 t119] 24 (0, 0))) ∧ Aside0 (Below w.heap.size w wc))
     case first =>
      have H := HC27.out
      clear HC27
      by_cases c34 : t120 = 0
      ·rw [if_pos c34] at H
       have c34b0 : (t120 == 0) = true := beq_iff_eq.mpr c34
       have c34b1 : (t120 != 0) = false := bne_eq_false_iff_eq.mpr c34
       clear c34
       (first | rw [c34b0] | (simp only [i64_w, i32_w]; rw [c34b0]) | skip)
       by_cases c35 : t123 = 0
       ·rw [if_pos c35] at H
        have c35b0 : (t123 == 0) = true := beq_iff_eq.mpr c35
        have c35b1 : (t123 != 0) = false := bne_eq_false_iff_eq.mpr c35
        clear c35
        by_cases c36 : t125 = 0
        ·rw [if_pos c36] at H
         have c36b0 : (t125 == 0) = true := beq_iff_eq.mpr c36
         have c36b1 : (t125 != 0) = false := bne_eq_false_iff_eq.mpr c36
         clear c36
         by_cases c37 : t129 = 0
         ·rw [if_pos c37] at H
          have c37b0 : (t129 == 0) = true := beq_iff_eq.mpr c37
          have c37b1 : (t129 != 0) = false := bne_eq_false_iff_eq.mpr c37
          clear c37
          by_cases c38 : t122 < t118
          ·rw [if_pos c38] at H
           exact absurd H (by simp)
          rw [if_neg c38] at H
          have c38b0 : decide (t122 < t118) = false := zdf c38
          clear c38
          by_cases c39 : t122 > t119
          ·rw [if_pos c39] at H
           exact absurd H (by simp)
          rw [if_neg c39] at H
          have c39b0 : decide (t119 < t122) = false := zdf c39
          clear c39
          replace H := Option.bind_eq_some_iff.mp H
          obtain ⟨t132, A400, H⟩ := H
          replace H : (if t132 = true then ((isobathlaw07_fits.f k2 t128 l0).bind fun t133 => (isobathlaw07_SoundBetween.j2 k2 a1 t124 t128 (!t133) t118 t119)) else (none)) = some r := H
          have A40 := zam A400
          clear A400
          by_cases c41 : t132 = true
          ·subst c41
           have H1 : ((isobathlaw07_fits.f k2 t128 l0).bind fun t133 => (isobathlaw07_SoundBetween.j2 k2 a1 t124 t128 (!t133) t118 t119)) = some r := by rw [if_pos rfl] at H; exact H
           clear H
           have H := H1
           clear H1
           replace H := Option.bind_eq_some_iff.mp H
           obtain ⟨t133, A420, H⟩ := H
           replace H : (isobathlaw07_SoundBetween.j2 k2 a1 t124 t128 (!t133) t118 t119) = some r := H
           have A42 := zam A420
           clear A420
           have H' := zam H
           clear H
           have hcz43_0 : w33.cell? ⟨gb121, 0, none⟩ = some (.int .i64 t118) := (zkc BK121.out 0).trans rfl
           have hcz43_1 : w33.cell? ⟨gb121, 1, none⟩ = some (.int .i64 t119) := (zkc BK121.out 1).trans rfl
           have hfz43_0 := zkz BK121.out 0
           have hfz43_1 := zkz BK121.out 1
           obtain ⟨Ao44, co44, eo44⟩ := Kd.R_slice HO127.out
           subst eo44
           go_wp2_with (first | (go_at_call 35; (with_reducible refine (isobathlaw07_fits.calls k2 _ _ t124 _ _ l0 true _ ?side1 ?side2 ?side3 ?side4 A40.out).mono ?_); (case side1 => repeat (first | exact (Kd.R_reads' HO127.out).2.2 | (with_reducible refine Kd.C_alloc ?_ _) | (with_reducible refine Kd.C_drewN ?_ _) | (with_reducible refine Kd.C_drew ?_))); (case side2 => exact (Kd.R_reads' HO127.out).2.1); (case side3 => repeat (first | exact (Kd.C_below HR0.out HB.out) | (with_reducible refine Kd.C_alloc ?_ _) | (with_reducible refine Kd.C_drewN ?_ _) | (with_reducible refine Kd.C_drew ?_))); (case side4 => exact HC0.out); rintro e w' ⟨rfl, ⟨nd, rfl⟩⟩; obtain ⟨Ao45, co45, eo45⟩ := Kd.R_slice HO131.out; subst eo45) | (go_at_call 35; (with_reducible refine (isobathlaw07_fits.calls k2 _ _ t128 _ _ l0 t133 _ ?side1 ?side2 ?side3 ?side4 A42.out).mono ?_); (case side1 => repeat (first | exact (Kd.R_reads' HO131.out).2.2 | (with_reducible refine Kd.C_alloc ?_ _) | (with_reducible refine Kd.C_drewN ?_ _) | (with_reducible refine Kd.C_drew ?_))); (case side2 => exact (Kd.R_reads' HO131.out).2.1); (case side3 => repeat (first | exact (Kd.C_below HR0.out (by repeat (first | (with_reducible first | exact HB.out | apply zba | apply zbn | apply zb1 | refine zbs ?_ GE121.out) | exact HB.out))) | (with_reducible refine Kd.C_alloc ?_ _) | (with_reducible refine Kd.C_drewN ?_ _) | (with_reducible refine Kd.C_drew ?_))); (case side4 => exact HC0.out); rintro e w' ⟨rfl, ⟨nd, rfl⟩⟩))
           go_meet
           case rel => exact ⟨_, (!t133), (by first | rfl | (simp; done) | (simp [*]; done)), H', ⟨by have := HJ3.out; have := HK2.out; first | omega | exact Nat.le_refl _⟩, ⟨by (with_reducible repeat (first | apply zRa | apply zRn | apply zRd)); exact Kd.R_mono HO127.out (fun _ hk => hk.2)⟩, ⟨by (with_reducible repeat (first | apply zRa | apply zRn | apply zRd)); exact Kd.R_mono HO131.out (fun _ hk => hk.2)⟩, ⟨by (with_reducible repeat (first | refine zkn ?_ _ | refine zkd ?_ | refine zka ?_ _)); exact BK121.out⟩, ⟨by repeat (first | (with_reducible first | exact HB.out | apply zba | apply zbn | apply zb1 | refine zbs ?_ GE121.out) | exact HB.out)⟩⟩
          replace c41 := Bool.eq_false_iff.mpr c41
          subst c41
          have H1 : (none) = some r := by rw [if_neg (show ¬ (false = true) by decide)] at H; exact H
          clear H
          have H := H1
          clear H1
          exact absurd H (by simp)
         rw [if_neg c37] at H
         exact absurd H (by simp)
        rw [if_neg c36] at H
        exact absurd H (by simp)
       rw [if_neg c35] at H
       exact absurd H (by simp)
      rw [if_neg c34] at H
      exact absurd H (by simp)
     case rest =>
      clear HC27
      try clear c1
      try clear p1
      try clear q1
      try clear hx1
      try clear c2
      try clear p2
      try clear c3
      try clear c4
      try clear c5
      try clear c5b0
      try clear c5b1
      try clear p6
      try clear c7
      try clear c10
      try clear c10b0
      try clear p10
      try clear q10
      try clear hx10
      try clear c11
      try clear c11b0
      try clear c12
      try clear c12b0
      try clear c12b1
      try clear c13
      try clear c14
      try clear c15
      try clear c15b0
      try clear c15b1
      try clear c16
      try clear c16b0
      try clear c17
      try clear c19
      try clear c21
      try clear c30
      try clear c32
      try clear c33
      try clear c34
      try clear c34b0
      try clear c34b1
      try clear c35
      try clear c35b0
      try clear c35b1
      try clear c36
      try clear c36b0
      try clear c36b1
      try clear c37
      try clear c37b0
      try clear c37b1
      try clear c38
      try clear c38b0
      try clear c39
      try clear c39b0
      try clear c41
      try clear hcz30_0
      try clear hcz30_1
      try clear hcz43_0
      try clear hcz43_1
      try clear hfz30_0
      try clear hfz30_1
      try clear hfz43_0
      try clear hfz43_1
      try clear hx103_0
      try clear hx107_0
      try clear hx108_0
      try clear p103
      try clear p107
      try clear p108
      try clear p2
      try clear q103
      try clear q107
      try clear q108
      obtain ⟨kq, x123_26, rfl, HA, HJ26, HO_13, HO_15, BK121, HB⟩ := hcut
      cases kq with
      | zero => exact absurd HA.out (by simp [isobathlaw07_SoundBetween.j2])
      | succ kj26 =>
       have H := HA.out
       clear HA
       simp only [isobathlaw07_SoundBetween.j2] at H
       by_cases c46 : x123_26 = true
       ·subst c46
        have H1 : (none) = some r := by rw [if_pos rfl] at H; exact H
        clear H
        have H := H1
        clear H1
        exact absurd H (by simp)
       replace c46 := Bool.eq_false_iff.mpr c46
       subst c46
       have H1 : ((sound_Calls.f kj26 t124 a1).bind fun bt134 => ((sound_Calls.f kj26 t128 a1).bind fun bt136 => (if bt134.2 = 0 then (if bt136.2 = 0 then (if bt134.1 = t118 then (if bt136.1 = t119 then ((isobathlaw07_Works.f kj26).bind fun t138 => (some t138)) else (none)) else (none)) else (none)) else (none)))) = some r := by rw [if_neg (show ¬ (false = true) by decide)] at H; exact H
       clear H
       have H := H1
       clear H1
       replace H := Option.bind_eq_some_iff.mp H
       obtain ⟨⟨t134, t135⟩, A470, H⟩ := H
       replace H : ((sound_Calls.f kj26 t128 a1).bind fun bt136 => (if t135 = 0 then (if bt136.2 = 0 then (if t134 = t118 then (if bt136.1 = t119 then ((isobathlaw07_Works.f kj26).bind fun t138 => (some t138)) else (none)) else (none)) else (none)) else (none))) = some r := H
       have A47 := zam A470
       clear A470
       replace H := Option.bind_eq_some_iff.mp H
       obtain ⟨⟨t136, t137⟩, A480, H⟩ := H
       replace H : (if t135 = 0 then (if t137 = 0 then (if t134 = t118 then (if t136 = t119 then ((isobathlaw07_Works.f kj26).bind fun t138 => (some t138)) else (none)) else (none)) else (none)) else (none)) = some r := H
       have A48 := zam A480
       clear A480
       by_cases c49 : t135 = 0
       ·rw [if_pos c49] at H
        have c49b0 : (t135 == 0) = true := beq_iff_eq.mpr c49
        have c49b1 : (t135 != 0) = false := bne_eq_false_iff_eq.mpr c49
        clear c49
        by_cases c50 : t137 = 0
        ·rw [if_pos c50] at H
         have c50b0 : (t137 == 0) = true := beq_iff_eq.mpr c50
         have c50b1 : (t137 != 0) = false := bne_eq_false_iff_eq.mpr c50
         clear c50
         by_cases c51 : t134 = t118
         ·rw [if_pos c51] at H
          have c51b0 : (t134 == t118) = true := beq_iff_eq.mpr c51
          have c51b1 : (t134 != t118) = false := bne_eq_false_iff_eq.mpr c51
          clear c51
          by_cases c52 : t136 = t119
          ·rw [if_pos c52] at H
           have c52b0 : (t136 == t119) = true := beq_iff_eq.mpr c52
           have c52b1 : (t136 != t119) = false := bne_eq_false_iff_eq.mpr c52
           clear c52
           replace H := Option.bind_eq_some_iff.mp H
           obtain ⟨t138, A530, H⟩ := H
           replace H : (some t138) = some r := H
           have A53 := zam A530
           clear A530
           obtain rfl := zsi H
           obtain ⟨Ao54, co54, eo54⟩ := Kd.R_slice HO_13.out
           subst eo54
           go_wp2_with (first | ((with_reducible refine zgc (f := 32) rfl ?_); refine goesL_ (some 127) rfl rfl Try.func32 (by kernel_rfl) rfl #[.slice Ao54 t124.length co54, .int .i64 a1] rfl (by (try simp only [zmt, List.map_cons, List.map_nil]); first | done | rfl | (simp only [zld, zlt]; rfl)) ?_; (with_reducible refine (sound_Calls.calls kj26 _ _ t124 a1 t134 t135 _ ?side1 ?side2 A47.out).mono ?_); (case side1 => repeat (first | exact (Kd.R_reads' HO_13.out).2.2 | (with_reducible refine Kd.C_alloc ?_ _) | (with_reducible refine Kd.C_drewN ?_ _) | (with_reducible refine Kd.C_drew ?_))); (case side2 => exact (Kd.R_reads' HO_13.out).2.1); rintro e w' ⟨rfl, ⟨nd, rfl⟩⟩; refine ⟨_, rfl, ?_⟩; obtain ⟨Ao55, co55, eo55⟩ := Kd.R_slice HO_15.out; subst eo55) | ((with_reducible refine zgc (f := 32) rfl ?_); refine goesL_ (some 133) rfl rfl Try.func32 (by kernel_rfl) rfl #[.slice Ao55 t128.length co55, .int .i64 a1] rfl (by (try simp only [zmt, List.map_cons, List.map_nil]); first | done | rfl | (simp only [zld, zlt]; rfl)) ?_; (with_reducible refine (sound_Calls.calls kj26 _ _ t128 a1 t136 t137 _ ?side1 ?side2 A48.out).mono ?_); (case side1 => repeat (first | exact (Kd.R_reads' HO_15.out).2.2 | (with_reducible refine Kd.C_alloc ?_ _) | (with_reducible refine Kd.C_drewN ?_ _) | (with_reducible refine Kd.C_drew ?_))); (case side2 => exact (Kd.R_reads' HO_15.out).2.1); rintro e w' ⟨rfl, ⟨nd, rfl⟩⟩; refine ⟨_, rfl, ?_⟩; have hcz56_0 : wc.cell? ⟨gb121, 0, none⟩ = some (.int .i64 t118) := (zkc BK121.out 0).trans rfl; have hcz56_1 : wc.cell? ⟨gb121, 1, none⟩ = some (.int .i64 t119) := (zkc BK121.out 1).trans rfl; have hfz56_0 := zkz BK121.out 0; have hfz56_1 := zkz BK121.out 1) | (go_at_call 14; (with_reducible refine (isobathlaw07_Works.calls kj26  t138 _ A53.out).mono ?_); rintro e w57 ⟨rfl, hb⟩; have n0_ := zam (Kd.R_below (by (with_reducible repeat (first | apply zRa | apply zRn | apply zRd)); exact HO_13.out) hb); have n1_ := zam (Kd.R_below (by (with_reducible repeat (first | apply zRa | apply zRn | apply zRd)); exact HO_15.out) hb); have n2_ := zam (zkb (g := gb121) (o := .cells #[.int .i64 t118, .int .i64 t119] 24 (0, 0)) (by (with_reducible repeat (first | refine zkn ?_ _ | refine zkd ?_ | refine zka ?_ _)); exact BK121.out) hb); have n3_ := zam (zbt (by repeat (first | (with_reducible first | exact HB.out | apply zba | apply zbn | apply zb1 | refine zbs ?_ GE121.out) | exact HB.out)) hb); clear HO_13; clear HO_15; clear BK121; clear HB; have HO_13 := n0_; have HO_15 := n1_; have BK121 := n2_; have HB := n3_; clear n0_ n1_ n2_ n3_; (try clear hb); (try clear hb2); (try clear hk); (try clear hi)))
           go_ret
           exact ⟨by first | rfl | (simp [errW_none, errW_some] <;> rfl) | (simp [*, errW_none, errW_some] <;> rfl), by repeat (first | (with_reducible first | exact HB.out | apply zba | apply zbn | apply zb1 | refine zbs ?_ GE121.out) | exact HB.out)⟩
          rw [if_neg c52] at H
          exact absurd H (by simp)
         rw [if_neg c51] at H
         exact absurd H (by simp)
        rw [if_neg c50] at H
        exact absurd H (by simp)
       rw [if_neg c49] at H
       exact absurd H (by simp)
end Go.Proofs.Ytaheamdoldiojaa.P
namespace Go.Proofs.Ytaheamdoldiojaa.P
open Go.RowKit Go.Proofs.YtaheamdoldiojaaW.PrintWords Go.Proofs.YtaheamdoldiojaaW.PrintLast Go.Proofs.YtaheamdoldiojaaW.PrintMore
namespace soundBetween
open Go.ChangeShapes Go.WideShapes Go.ChangeAt
set_option linter.unusedVariables false
set_option linter.unusedSimpArgs false
def Pure : Prop := ∀ (x0 : (List Int)) (x1 : Int) (x2 : (List Bool)), (fun xs : List Int => xs.length ≤ 9223372036854775807 ∧ ∀ x ∈ xs, (fun n : Int => (Lit.int .i64 n).wf = true) x) x0 → (fun n : Int => (Lit.int .i64 n).wf = true) x1 → (fun xs : List Bool => xs.length ≤ 9223372036854775807 ∧ ∀ x ∈ xs, (fun _ : Bool => True) x) x2 → ∃ k, isobathlaw07_SoundBetween.f k x0 x1 x2 = some true
theorem own : ownKnob Try.prog.godebug = none := by kernel_rfl
theorem laidOut : laidOutB Try.prog = true := by kernel_rfl
set_option maxRecDepth 100000 in
theorem lifted (hP : Pure) (os : Os) (started : os.Started) (H : Type) (enc : TypeId × Value → H) :
  ReturnsInHanded {} Try.checked os 7 .any (Rows.soundBetweenSpec.pre6 enc Try.prog Try.f7 Rows.soundBetweenRow.domain false) (Rows.soundBetweenSpec.post enc Try.prog Try.f7 false true false false) := by
 refine returnsInHanded_of_change_sized (C := Try.checked) own started (by kernel_rfl) Try.func7
  (ChangeSpec.witness6 (enc := enc) (C := Try.checked) false ⟨#[], #[.slice none 0 0, .int .i64 0, .slice none 0 0], []⟩ 8 (by kernel_rfl) (by kernel_rfl) (by kernel_rfl) (by kernel_rfl)) ?_
 intro W base args ds gs before hval0 hW hcnd hsz0 _
 have hval : ∀ (j : Nat) t v, Try.f7.params[j]? = some t → args[j]? = some v → Value.okWide Try.prog W .any base t v := hval0
 have hW' := hW
 obtain ⟨p, q, hA0, hV, rfl, hfz, hnd⟩ := hW
 have hA : DataW.TrodAll enc Try.prog W 0 (fun _ => true) true Try.f7.params.toList args.toList ds p := hA0
 rw [Try.params7] at hA hval
 obtain ⟨v0, vs0, d0, ds0, p0, q0, hargs, rfl, rfl, h0, r0⟩ := trodAll_cons hA
 obtain ⟨v1, vs1, d1, ds1, p1, q1, rfl, rfl, rfl, h1, r1⟩ := trodAll_cons r0
 obtain ⟨v2, vs2, d2, ds2, p2, q2, rfl, rfl, rfl, h2, r2⟩ := trodAll_cons r1
 obtain ⟨rfl, rfl, rfl⟩ := trodAll_nil r2
 obtain rfl : args = #[v0, v1, v2] := by cases args; simp_all
 obtain ⟨rfl, rfl⟩ := trodVars_none hV
 have k0 := h0
 have lt0 : ∀ x ∈ p0, x.block < W.heap.size := by obtain ⟨m, hm⟩ := k0; exact DataW.trod_lt m _ _ _ hm
 obtain ⟨m0, hm0⟩ := h0
 obtain ⟨x0, hk0, w0⟩ := Opens.run (Opens.slice Try.underlying66 (by kernel_rfl) (Opens.int Try.underlying50)) hm0
 obtain ⟨a0, len0, cap0, rfl⟩ := okWide_slice Try.underlying66 (hval 0 66 v0 rfl rfl)
 obtain ⟨A0, c0, hcs0, hc0, hr0⟩ := hk0
 simp [Value.cells] at hcs0
 obtain ⟨rfl, rfl, rfl⟩ := hcs0
 obtain ⟨x1, rfl, rfl, rfl, w1⟩ := open_int Try.underlying3 (hval 1 3 v1 rfl rfl) h1
 have k2 := h2
 have lt2 : ∀ x ∈ p2, x.block < W.heap.size := by obtain ⟨m, hm⟩ := k2; exact DataW.trod_lt m _ _ _ hm
 obtain ⟨m2, hm2⟩ := h2
 obtain ⟨x2, hk2, w2⟩ := Opens.run (Opens.slice Try.underlying71 (by kernel_rfl) (Opens.bool Try.underlying4)) hm2
 obtain ⟨a2, len2, cap2, rfl⟩ := okWide_slice Try.underlying71 (hval 2 71 v2 rfl rfl)
 obtain ⟨A2, c2, hcs2, hc2, hr2⟩ := hk2
 simp [Value.cells] at hcs2
 obtain ⟨rfl, rfl, rfl⟩ := hcs2
 clear hA0 hval0 hsz0
 obtain ⟨k, hf⟩ := hP x0 x1 x2 w0 w1 w2
 refine (isobathlaw07_SoundBetween.calls (k := k) (A0 := a0) (c0 := cap0) (l0 := x0) (a1 := x1) (A2 := a2) (c2 := cap2) (l2 := x2) (r := true) (w := W) (hr0 := hr0) (hc0 := hc0) (hr2 := hr2) (hc2 := hc2) (h := hf)).mono fun e W' ⟨he, hd⟩ => ?_
 have bel : Below W.heap.size W W' := by first | exact hd | (obtain ⟨m, rfl⟩ := hd; exact zbn (Below.refl _ _) m)
 subst he
 exact ⟨_, rfl, _, _, _, [], _, [], hW', trodAll_mk1 (shut_bool Try.underlying4 _), (trodAll_cons_mk (Below.trod laidOut (by kernel_rfl) (zod (by kernel_rfl)) k0 bel lt0) (trodAll_cons_mk (shut_int Try.underlying3 w1) (trodAll_cons_mk (Below.trod laidOut (by kernel_rfl) (zod (by kernel_rfl)) k2 bel lt2) trodAll_mk0))), rfl, bel.frame _, fun h => by cases h⟩
theorem over (hP : Pure) : Rows.soundBetweenRow.holds Try.pinned (OpenSpec.ofChange Rows.soundBetweenSpec) :=
 OpenClaim.holds_of_wide 7 Try.f7 rfl rfl rfl rfl rfl rfl rfl ⟨rfl, rfl, rfl, rfl, rfl⟩ rfl rfl rfl rfl rfl (by kernel_rfl) Try.func7 (by kernel_rfl)
  (zod (by kernel_rfl)) (by unfold Func.isWrapper; first | (rw [if_pos (by decide +kernel)]; kernel_rfl) | (rw [if_neg (by decide +kernel)]; exact ⟨rfl, rfl⟩))
  (fun os started H enc _ => lifted hP os started H enc)
theorem proved (hP : Pure) : Rows.SoundBetweenSaid := over hP
end soundBetween
end Go.Proofs.Ytaheamdoldiojaa.P
namespace Go.Proofs.Ytaheamdoldiojaa.P
open Go.RowKit Go.Proofs.YtaheamdoldiojaaW.PrintWords Go.Proofs.YtaheamdoldiojaaW.PrintLast Go.Proofs.YtaheamdoldiojaaW.PrintMore
attribute [local go_sem] max2_int min2_int max_two min_two max_three min_three max_four min_four   -- for this text's walks alone
set_option linter.unusedVariables false
set_option linter.unusedSimpArgs false
theorem Sp.fits_l0 (b : List Bool) (xs : List Int) (hl : xs.length ≤ 9223372036854775807) (hb : Bst.Fit xs xs.length b) : ∀ (n k i : Nat), i + n = xs.length → n < k → isobathlaw07_fits.l0 k b xs (i : Int) = some true
 | 0, k, i, hi, hk => by
  obtain ⟨k, rfl⟩ : ∃ m, k = m + 1 := ⟨k - 1, by omega⟩
  rw [isobathlaw07_fits.l0, if_neg (by omega)]
 | n + 1, k, i, hi, hk => by
  obtain ⟨k, rfl⟩ : ∃ m, k = m + 1 := ⟨k - 1, by omega⟩
  have hlt : i < xs.length := by omega
  have hlb : i < b.length := by rw [hb.1]; exact hlt
  have hm := hb.2 i hlt
  have ih := Sp.fits_l0 b xs hl hb n k (i + 1) (by omega) (by omega)
  rw [isobathlaw07_fits.l0, if_pos (by omega), if_pos (by omega), rd_nat hlt, Sp.rdb b i hlb, wrap_succ hlt hl, ih]
  have ex : xs.getD i 0 = xs[i] := by simp [List.getD, hlt]
  have eb : b.getD i false = b[i] := by simp [List.getD, hlb]
  rw [ex, eb] at hm
  by_cases c2 : xs[i] = 2
  ·rw [if_pos c2, if_pos (by omega)]
   cases hbi : b[i]
   ·rw [hbi] at hm
    exact absurd c2 hm
   rw [if_pos rfl, if_neg (by omega)]
  rw [if_neg c2]
  by_cases c0 : xs[i] = 0
  ·rw [if_pos c0, if_pos (by omega)]
   cases hbi : b[i]
   ·rw [if_neg (by decide)]
   rw [hbi] at hm
   exact absurd c0 hm
  rw [if_neg c0]
theorem Sp.fits (b : List Bool) (xs : List Int) (hl : xs.length ≤ 256) (hb : Bst.Fit xs xs.length b) {k : Nat} (hk : 300 ≤ k) : isobathlaw07_fits.f k b xs = some true := by
 unfold isobathlaw07_fits.f
 rw [if_pos (by rw [hb.1])]
 exact Sp.fits_l0 b xs (by omega) hb xs.length k 0 (by omega) (by omega)
def Sp.pickB (o : List Bool) (x : Int) (i : Nat) : Bool := if x = 2 then true else if x = 1 then o.getD i false else false
def Sp.made (l : List Int) (o : List Bool) : Nat → List Bool
 | 0 => []
 | i + 1 => Sp.made l o i ++ [Sp.pickB o (l.getD i 0) i]
theorem Sp.made_len (l : List Int) (o : List Bool) : ∀ i, (Sp.made l o i).length = i
 | 0 => rfl
 | i + 1 => by rw [Sp.made, List.length_append, Sp.made_len l o i]; rfl
theorem Sp.made_fit (l : List Int) (o : List Bool) : ∀ i, Bst.Fit l i (Sp.made l o i)
 | 0 => ⟨rfl, fun j hj => by omega⟩
 | i + 1 => by
  refine Bst.fit_snoc (Sp.made_fit l o i) ?_
  unfold Sp.pickB Bst.may
  by_cases c2 : l.getD i 0 = 2
  ·rw [if_pos c2, if_pos rfl]
   omega
  rw [if_neg c2]
  by_cases c1 : l.getD i 0 = 1
  ·rw [if_pos c1]
   split <;> omega
  rw [if_neg c1, if_neg (by decide)]
  exact c2
theorem Sp.between_l0 (l : List Int) (n : Int) (o : List Bool) (hl : l.length ≤ 256) (he : Sp.ans l n = 0) (K : Nat) (hK : 140000 ≤ K) (ho : o.length ≤ 9223372036854775807) : ∀ (d i : Nat), i + d = l.length → isobathlaw07_SoundBetween.l0 (K + d + 2) l n o (Sp.made l o i) (i : Int) = some true
 | 0, i, hi => by
  have hW := Sp.works (k := K) (by omega)
  have e : i = l.length := by omega
  subst e
  rw [show K + 0 + 2 = (K + 1) + 1 by omega, isobathlaw07_SoundBetween.l0, if_neg (by omega)]
  obtain ⟨b1, e1, f1, _⟩ := Sp.fewest_b l n (k := K + 1) (by omega)
  obtain ⟨b2, e2, f2, _⟩ := Sp.most_b l n (k := K + 1) (by omega)
  obtain ⟨g1, c1⟩ := f1 he
  obtain ⟨g2, c2⟩ := f2 he
  obtain ⟨_, _, h3, h4⟩ := Sp.ans_ok he
  have hcl : ∀ b : List Bool, Bst.Fit l l.length b → Sp.calls b n = (Sp.cnt n 0 b, 0) := fun b hb => by
   unfold Sp.calls
   rw [if_neg (by rw [hb.1]; omega), if_neg (by omega)]
  have hfm := Sp.made_fit l o l.length
  obtain ⟨m, rfl⟩ : ∃ m : Nat, n = (m : Int) := ⟨n.toNat, by omega⟩
  have hbt := Sp.cnt_between m l _ hfm
  rw [Int.toNat_natCast] at c1 c2
  have hcnt : Sp.count l (m : Int) = (Sp.ext m false l 0, Sp.ext m true l 0, 0) := by
   unfold Sp.count
   rw [if_pos he, Int.toNat_natCast]
  rw [Sp.count_b l _ (by omega), Sp.calls_b _ _ (by omega), e1, e2, hcl _ hfm, hcnt, he]
  simp only [Option.bind_some, if_true]
  rw [if_neg (by omega), if_neg (by omega), Sp.fits b1 l hl g1 (by omega), Option.bind_some, if_pos rfl, Sp.fits b2 l hl g2 (by omega), Option.bind_some, isobathlaw07_SoundBetween.j2, if_neg (by decide), Sp.calls_b _ _ (by omega), Sp.calls_b _ _ (by omega), hcl _ g1, hcl _ g2]
  simp only [Option.bind_some, if_true]
  rw [if_pos c1, if_pos c2, hW]
  rfl
 | d + 1, i, hi => by
  have hlt : i < l.length := by omega
  have ih := Sp.between_l0 l n o hl he K hK ho d (i + 1) (by omega)
  have hml := Sp.made_len l o i
  rw [show K + (d + 1) + 2 = (K + d + 2) + 1 by omega, isobathlaw07_SoundBetween.l0, if_pos (by omega), if_pos (by omega), rd_nat hlt, wrap_succ hlt (by omega)]
  have ex : l.getD i 0 = l[i] := by simp [List.getD, hlt]
  rw [Sp.made, ex] at ih
  unfold Sp.pickB at ih
  by_cases c2 : l[i] = 2
  ·rw [if_pos c2, if_pos (by omega)]
   rw [if_pos c2] at ih
   exact ih
  rw [if_neg c2]
  rw [if_neg c2] at ih
  by_cases c1 : l[i] = 1
  ·rw [if_pos c1]
   rw [if_pos c1] at ih
   by_cases hio : i < o.length
   ·rw [if_pos (by omega), if_pos (by omega), Sp.rdb o i hio]
    have eo : o.getD i false = o[i] := by simp [List.getD, hio]
    rw [eo] at ih
    exact ih
   rw [if_neg (by omega), if_pos (by omega)]
   have eo : o.getD i false = false := by simp [List.getD, List.getElem?_eq_none (by omega : o.length ≤ i)]
   rw [eo] at ih
   exact ih
  rw [if_neg c1, if_pos (by omega)]
  rw [if_neg c1] at ih
  exact ih
theorem Sp.between_law (l : List Int) (n : Int) (o : List Bool) (ho : o.length ≤ 9223372036854775807) : ∃ k, isobathlaw07_SoundBetween.f k l n o = some true := by
 refine ⟨140000 + l.length + 3, ?_⟩
 have bad : isobathlaw07_SoundBetween.j0 (140000 + l.length + 3) l n o true = some true := by
  rw [show 140000 + l.length + 3 = (140000 + l.length + 2) + 1 by omega, isobathlaw07_SoundBetween.j0, if_pos rfl, Sp.works (by omega)]
  rfl
 unfold isobathlaw07_SoundBetween.f
 by_cases h1 : (l.length : Int) > 256
 ·rw [if_pos h1, bad]
 rw [if_neg h1, Sp.choice_r l n (by omega), Option.bind_some]
 by_cases he : Sp.ans l n = 0
 ·rw [he, show ((0 : Int) != 0) = false from rfl, show 140000 + l.length + 3 = (140000 + l.length + 2) + 1 by omega, isobathlaw07_SoundBetween.j0, if_neg (by decide)]
  exact Sp.between_l0 l n o (by omega) he 140000 (Nat.le_refl _) ho l.length 0 (by omega)
 rw [bne_iff_ne.mpr he, bad]
theorem soundBetween_holds : Rows.SoundBetweenSaid := soundBetween.proved fun l n o _ _ h => Sp.between_law l n o h.1
#print axioms soundBetween_holds
end Go.Proofs.Ytaheamdoldiojaa.P
