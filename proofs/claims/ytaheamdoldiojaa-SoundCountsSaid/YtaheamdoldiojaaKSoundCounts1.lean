/- the loudness of samples, the calls of a choice, and the count, are what the definitions say, or the error; Fewest and Most return the same error. Part 2 of 2. -/
-- Put together by wip/tools/shake.py, a program of this work: out of the words that the kit's print tool (print.sh) writes for a claim and what wip/tools/xprint.py prints, those that this claim reaches, and this work's own texts.
import Derived.Deep.Slices
import Derived.OpenShut
import Derived.Test.YtaheamdoldiojaaRows
import Derived.WalkKit
import Derived.ProofKit
import Derived.ShutString
import Derived.ChangeOld
import Derived.Below
import Derived.SizedLaws
import Derived.Carry
import Derived.Test.YtaheamdoldiojaaKSoundCounts0
namespace Go.Proofs.Ytaheamdoldiojaa.P
open Go.RowKit Go.Proofs.YtaheamdoldiojaaW.PrintWords Go.Proofs.YtaheamdoldiojaaW.PrintLast Go.Proofs.YtaheamdoldiojaaW.PrintMore
attribute [local go_sem] max2_int min2_int max_two min_two max_three min_three max_four min_four   -- for this text's walks alone
set_option linter.unusedVariables false
set_option linter.unusedSimpArgs false
attribute [local go_sem high] eqA24
def isobathlaw07_SoundCounts.j0 : Nat → List (S24) → Int → List Int → List Bool → Int → Bool → Option (Bool)
 | 0, _, _, _, _, _, _ => none
 | k + 1, x0, x1, x2, x3, x4, x40 => if x40 = true then ((isobathlaw07_Works.f k).bind fun t101 => (some t101)) else ((sound_Loud.f k x0 x1).bind fun bt102 => ((isobathref07_Loud.f k x0 x1).bind fun bt106 => ((sound_Calls.f k x3 x4).bind fun bt110 => ((isobathref07_Calls.f k x3 x4).bind fun bt112 => ((sound_Count.f k x2 x4).bind fun bt114 => ((isobathref07_Count.f k x2 x4).bind fun bt118 => ((sound_Fewest.f k x2 x4).bind fun bt122 => ((sound_Most.f k x2 x4).bind fun bt126 => ((isobathref07_Choice.f k x2 x4).bind fun t130 => ((isobathlaw07_sameAnswers.f k bt102.1 bt106.1).bind fun t131 => (if t131 = true then (if bt110.1 = bt112.1 then (if (bt114.1 == bt118.1 && (bt114.2.1 == bt118.2.1)) = true then (if bt102.2 = bt106.2 then (if bt110.2 = bt112.2 then (if bt114.2.2 = bt118.2.2 then (if bt122.2 = t130 then (if bt126.2 = t130 then (if t130 = 0 then ((isobathlaw07_Works.f k).bind fun t132 => (some t132)) else (if (bt122.1.length : Int) = 0 then (if (bt126.1.length : Int) = 0 then ((isobathlaw07_Works.f k).bind fun t133 => (some t133)) else (none)) else (none))) else (none)) else (none)) else (none)) else (none)) else (none)) else (none)) else (none)) else (none))))))))))))
def isobathlaw07_SoundCounts.f (k : Nat) (l0 : List (S24)) (a1 : Int) (l2 : List Int) (l3 : List Bool) (a4 : Int) : Option (Bool) := if (l0.length : Int) > 300 then (isobathlaw07_SoundCounts.j0 k l0 a1 l2 l3 a4 true) else (if (l2.length : Int) > 300 then (isobathlaw07_SoundCounts.j0 k l0 a1 l2 l3 a4 true) else (isobathlaw07_SoundCounts.j0 k l0 a1 l2 l3 a4 (decide ((l3.length : Int) > 300))))
set_option maxHeartbeats 8000000 in
set_option maxRecDepth 100000 in
theorem isobathlaw07_SoundCounts.calls (k : Nat) (A0 : Option Addr) (c0 : Nat) (l0 : List (S24)) (a1 : Int) (A2 : Option Addr) (c2 : Nat) (l2 : List Int) (A3 : Option Addr) (c3 : Nat) (l3 : List Bool) (a4 : Int) (r : Bool) (w : World) (hr0 : Kd.C k24 w A0 l0.length l0) (hc0 : l0.length ≤ c0) (hr2 : Kd.C (Kd.int .i64) w A2 l2.length l2) (hc2 : l2.length ≤ c2) (hr3 : Kd.C Kd.bool w A3 l3.length l3) (hc3 : l3.length ≤ c3) (h : isobathlaw07_SoundCounts.f k l0 a1 l2 l3 a4 = some r) :
  Calls Try.prog 10 #[.slice A0 l0.length c0, .int .i64 a1, .slice A2 l2.length c2, .slice A3 l3.length c3, .int .i64 a4] w fun e w' => e = .returned (.bool r) ∧ Below w.heap.size w w' := by
 have hu24 := Try.underlying24
 have HR0 := zam hr0
 have HC0 := zam hc0
 clear hr0 hc0
 have HR2 := zam hr2
 have HC2 := zam hc2
 clear hr2 hc2
 have HR3 := zam hr3
 have HC3 := zam hc3
 clear hr3 hc3
 have HB := zam (Below.refl w.heap.size w)
 have H : (if (l0.length : Int) > 300 then (isobathlaw07_SoundCounts.j0 k l0 a1 l2 l3 a4 true) else (if (l2.length : Int) > 300 then (isobathlaw07_SoundCounts.j0 k l0 a1 l2 l3 a4 true) else (isobathlaw07_SoundCounts.j0 k l0 a1 l2 l3 a4 (decide ((l3.length : Int) > 300))))) = some r := h
 clear h
 have HC6 := zam H
 clear H
 go_enter Try.func10, Try.ntmps10
 go_upto_region 1 with (fail)
 go_cut [40] (fun v40 wc => ∃ (kq : Nat) (x40_5 : Bool), v40 = .bool x40_5 ∧ Aside0 (isobathlaw07_SoundCounts.j0 kq l0 a1 l2 l3 a4 x40_5 = some r) ∧ Aside0 (kq ≤ k) ∧ Aside0 (Below w.heap.size w wc))
 case first =>
  have H := HC6.out
  clear HC6
  by_cases c7 : (l0.length : Int) > 300
  ·rw [if_pos c7] at H
   have c7b0 : decide (300 < (l0.length : Int)) = true := zdt c7
   have c7b1 : decide (300 < l0.length) = true := zdt (by omega)
   clear c7
   (first | rw [c7b0] | (simp only [i64_w, i32_w]; rw [c7b0]) | skip)
   have H' := zam H
   clear H
   go_wp2
   go_meet
   case rel => exact ⟨_, (true), (by first | rfl | (simp; done) | (simp [*]; done)), H', ⟨by first | omega | exact Nat.le_refl _⟩, ⟨by repeat (first | (with_reducible first | exact HB.out | apply zba | apply zbn | apply zb1) | exact HB.out)⟩⟩
  rw [if_neg c7] at H
  have c7b0 : decide (300 < (l0.length : Int)) = false := zdf c7
  have c7b1 : decide (300 < l0.length) = false := zdf (by omega)
  clear c7
  (first | rw [c7b0] | (simp only [i64_w, i32_w]; rw [c7b0]) | skip)
  by_cases c8 : (l2.length : Int) > 300
  ·rw [if_pos c8] at H
   have c8b0 : decide (300 < (l2.length : Int)) = true := zdt c8
   have c8b1 : decide (300 < l2.length) = true := zdt (by omega)
   clear c8
   have H' := zam H
   clear H
   go_wp2
   go_meet
   case rel => exact ⟨_, (true), (by first | rfl | (simp; done) | (simp [*]; done)), H', ⟨by first | omega | exact Nat.le_refl _⟩, ⟨by repeat (first | (with_reducible first | exact HB.out | apply zba | apply zbn | apply zb1) | exact HB.out)⟩⟩
  rw [if_neg c8] at H
  have c8b0 : decide (300 < (l2.length : Int)) = false := zdf c8
  have c8b1 : decide (300 < l2.length) = false := zdf (by omega)
  clear c8
  have H' := zam H
  clear H
  go_wp2
  go_meet
  case rel => exact ⟨_, (decide ((l3.length : Int) > 300)), (by first | rfl | (simp; done) | (simp [*]; done)), H', ⟨by first | omega | exact Nat.le_refl _⟩, ⟨by repeat (first | (with_reducible first | exact HB.out | apply zba | apply zbn | apply zb1) | exact HB.out)⟩⟩
 case rest =>
  clear HC6
  try clear c1
  try clear c2
  try clear p2
  try clear c3
  try clear c7
  try clear c7b0
  try clear c7b1
  try clear c8
  try clear c8b0
  try clear c8b1
  obtain ⟨kq, x40_5, rfl, HA, HJ5, HB⟩ := hcut
  cases kq with
  | zero => exact absurd HA.out (by simp [isobathlaw07_SoundCounts.j0])
  | succ kj5 =>
   have H := HA.out
   clear HA
   simp only [isobathlaw07_SoundCounts.j0] at H
   by_cases c9 : x40_5 = true
   ·subst c9
    have H1 : ((isobathlaw07_Works.f kj5).bind fun t101 => (some t101)) = some r := by rw [if_pos rfl] at H; exact H
    clear H
    have H := H1
    clear H1
    replace H := Option.bind_eq_some_iff.mp H
    obtain ⟨t101, A100, H⟩ := H
    replace H : (some t101) = some r := H
    have A10 := zam A100
    clear A100
    obtain rfl := zsi H
    go_wp2_with (first | ((with_reducible refine zgc (f := 14) rfl ?_); refine goesL_ (some 41) rfl rfl Try.func14 (by kernel_rfl) rfl #[] rfl (by (try simp only [zmt, List.map_cons, List.map_nil]); first | done | rfl | (simp only [zld, zlt]; rfl)) ?_; (with_reducible refine (isobathlaw07_Works.calls kj5  t101 _ A10.out).mono ?_); rintro e w11 ⟨rfl, hb⟩; refine ⟨_, rfl, ?_⟩; have n0_ := zam (zbt (by repeat (first | (with_reducible first | exact HB.out | apply zba | apply zbn | apply zb1) | exact HB.out)) hb); clear HB; have HB := n0_; clear n0_; (try clear hb); (try clear hb2); (try clear hk); (try clear hi)))
    go_ret
    exact ⟨by first | rfl | (simp [errW_none, errW_some] <;> rfl) | (simp [*, errW_none, errW_some] <;> rfl), by repeat (first | (with_reducible first | exact HB.out | apply zba | apply zbn | apply zb1) | exact HB.out)⟩
   replace c9 := Bool.eq_false_iff.mpr c9
   subst c9
   have H1 : ((sound_Loud.f kj5 l0 a1).bind fun bt102 => ((isobathref07_Loud.f kj5 l0 a1).bind fun bt106 => ((sound_Calls.f kj5 l3 a4).bind fun bt110 => ((isobathref07_Calls.f kj5 l3 a4).bind fun bt112 => ((sound_Count.f kj5 l2 a4).bind fun bt114 => ((isobathref07_Count.f kj5 l2 a4).bind fun bt118 => ((sound_Fewest.f kj5 l2 a4).bind fun bt122 => ((sound_Most.f kj5 l2 a4).bind fun bt126 => ((isobathref07_Choice.f kj5 l2 a4).bind fun t130 => ((isobathlaw07_sameAnswers.f kj5 bt102.1 bt106.1).bind fun t131 => (if t131 = true then (if bt110.1 = bt112.1 then (if (bt114.1 == bt118.1 && (bt114.2.1 == bt118.2.1)) = true then (if bt102.2 = bt106.2 then (if bt110.2 = bt112.2 then (if bt114.2.2 = bt118.2.2 then (if bt122.2 = t130 then (if bt126.2 = t130 then (if t130 = 0 then ((isobathlaw07_Works.f kj5).bind fun t132 => (some t132)) else (if (bt122.1.length : Int) = 0 then (if (bt126.1.length : Int) = 0 then ((isobathlaw07_Works.f kj5).bind fun t133 => (some t133)) else (none)) else (none))) else (none)) else (none)) else (none)) else (none)) else (none)) else (none)) else (none)) else (none)))))))))))) = some r := by rw [if_neg (show ¬ (false = true) by decide)] at H; exact H
   clear H
   have H := H1
   clear H1
   replace H := Option.bind_eq_some_iff.mp H
   obtain ⟨⟨t102, t103⟩, A120, H⟩ := H
   replace H : ((isobathref07_Loud.f kj5 l0 a1).bind fun bt106 => ((sound_Calls.f kj5 l3 a4).bind fun bt110 => ((isobathref07_Calls.f kj5 l3 a4).bind fun bt112 => ((sound_Count.f kj5 l2 a4).bind fun bt114 => ((isobathref07_Count.f kj5 l2 a4).bind fun bt118 => ((sound_Fewest.f kj5 l2 a4).bind fun bt122 => ((sound_Most.f kj5 l2 a4).bind fun bt126 => ((isobathref07_Choice.f kj5 l2 a4).bind fun t130 => ((isobathlaw07_sameAnswers.f kj5 t102 bt106.1).bind fun t131 => (if t131 = true then (if bt110.1 = bt112.1 then (if (bt114.1 == bt118.1 && (bt114.2.1 == bt118.2.1)) = true then (if t103 = bt106.2 then (if bt110.2 = bt112.2 then (if bt114.2.2 = bt118.2.2 then (if bt122.2 = t130 then (if bt126.2 = t130 then (if t130 = 0 then ((isobathlaw07_Works.f kj5).bind fun t132 => (some t132)) else (if (bt122.1.length : Int) = 0 then (if (bt126.1.length : Int) = 0 then ((isobathlaw07_Works.f kj5).bind fun t133 => (some t133)) else (none)) else (none))) else (none)) else (none)) else (none)) else (none)) else (none)) else (none)) else (none)) else (none))))))))))) = some r := H
   have A12 := zam A120
   clear A120
   replace H := Option.bind_eq_some_iff.mp H
   obtain ⟨⟨t106, t107⟩, A130, H⟩ := H
   replace H : ((sound_Calls.f kj5 l3 a4).bind fun bt110 => ((isobathref07_Calls.f kj5 l3 a4).bind fun bt112 => ((sound_Count.f kj5 l2 a4).bind fun bt114 => ((isobathref07_Count.f kj5 l2 a4).bind fun bt118 => ((sound_Fewest.f kj5 l2 a4).bind fun bt122 => ((sound_Most.f kj5 l2 a4).bind fun bt126 => ((isobathref07_Choice.f kj5 l2 a4).bind fun t130 => ((isobathlaw07_sameAnswers.f kj5 t102 t106).bind fun t131 => (if t131 = true then (if bt110.1 = bt112.1 then (if (bt114.1 == bt118.1 && (bt114.2.1 == bt118.2.1)) = true then (if t103 = t107 then (if bt110.2 = bt112.2 then (if bt114.2.2 = bt118.2.2 then (if bt122.2 = t130 then (if bt126.2 = t130 then (if t130 = 0 then ((isobathlaw07_Works.f kj5).bind fun t132 => (some t132)) else (if (bt122.1.length : Int) = 0 then (if (bt126.1.length : Int) = 0 then ((isobathlaw07_Works.f kj5).bind fun t133 => (some t133)) else (none)) else (none))) else (none)) else (none)) else (none)) else (none)) else (none)) else (none)) else (none)) else (none)))))))))) = some r := H
   have A13 := zam A130
   clear A130
   replace H := Option.bind_eq_some_iff.mp H
   obtain ⟨⟨t110, t111⟩, A140, H⟩ := H
   replace H : ((isobathref07_Calls.f kj5 l3 a4).bind fun bt112 => ((sound_Count.f kj5 l2 a4).bind fun bt114 => ((isobathref07_Count.f kj5 l2 a4).bind fun bt118 => ((sound_Fewest.f kj5 l2 a4).bind fun bt122 => ((sound_Most.f kj5 l2 a4).bind fun bt126 => ((isobathref07_Choice.f kj5 l2 a4).bind fun t130 => ((isobathlaw07_sameAnswers.f kj5 t102 t106).bind fun t131 => (if t131 = true then (if t110 = bt112.1 then (if (bt114.1 == bt118.1 && (bt114.2.1 == bt118.2.1)) = true then (if t103 = t107 then (if t111 = bt112.2 then (if bt114.2.2 = bt118.2.2 then (if bt122.2 = t130 then (if bt126.2 = t130 then (if t130 = 0 then ((isobathlaw07_Works.f kj5).bind fun t132 => (some t132)) else (if (bt122.1.length : Int) = 0 then (if (bt126.1.length : Int) = 0 then ((isobathlaw07_Works.f kj5).bind fun t133 => (some t133)) else (none)) else (none))) else (none)) else (none)) else (none)) else (none)) else (none)) else (none)) else (none)) else (none))))))))) = some r := H
   have A14 := zam A140
   clear A140
   replace H := Option.bind_eq_some_iff.mp H
   obtain ⟨⟨t112, t113⟩, A150, H⟩ := H
   replace H : ((sound_Count.f kj5 l2 a4).bind fun bt114 => ((isobathref07_Count.f kj5 l2 a4).bind fun bt118 => ((sound_Fewest.f kj5 l2 a4).bind fun bt122 => ((sound_Most.f kj5 l2 a4).bind fun bt126 => ((isobathref07_Choice.f kj5 l2 a4).bind fun t130 => ((isobathlaw07_sameAnswers.f kj5 t102 t106).bind fun t131 => (if t131 = true then (if t110 = t112 then (if (bt114.1 == bt118.1 && (bt114.2.1 == bt118.2.1)) = true then (if t103 = t107 then (if t111 = t113 then (if bt114.2.2 = bt118.2.2 then (if bt122.2 = t130 then (if bt126.2 = t130 then (if t130 = 0 then ((isobathlaw07_Works.f kj5).bind fun t132 => (some t132)) else (if (bt122.1.length : Int) = 0 then (if (bt126.1.length : Int) = 0 then ((isobathlaw07_Works.f kj5).bind fun t133 => (some t133)) else (none)) else (none))) else (none)) else (none)) else (none)) else (none)) else (none)) else (none)) else (none)) else (none)))))))) = some r := H
   have A15 := zam A150
   clear A150
   replace H := Option.bind_eq_some_iff.mp H
   obtain ⟨⟨t114, t115, t116⟩, A160, H⟩ := H
   replace H : ((isobathref07_Count.f kj5 l2 a4).bind fun bt118 => ((sound_Fewest.f kj5 l2 a4).bind fun bt122 => ((sound_Most.f kj5 l2 a4).bind fun bt126 => ((isobathref07_Choice.f kj5 l2 a4).bind fun t130 => ((isobathlaw07_sameAnswers.f kj5 t102 t106).bind fun t131 => (if t131 = true then (if t110 = t112 then (if (t114 == bt118.1 && (t115 == bt118.2.1)) = true then (if t103 = t107 then (if t111 = t113 then (if t116 = bt118.2.2 then (if bt122.2 = t130 then (if bt126.2 = t130 then (if t130 = 0 then ((isobathlaw07_Works.f kj5).bind fun t132 => (some t132)) else (if (bt122.1.length : Int) = 0 then (if (bt126.1.length : Int) = 0 then ((isobathlaw07_Works.f kj5).bind fun t133 => (some t133)) else (none)) else (none))) else (none)) else (none)) else (none)) else (none)) else (none)) else (none)) else (none)) else (none))))))) = some r := H
   have A16 := zam A160
   clear A160
   replace H := Option.bind_eq_some_iff.mp H
   obtain ⟨⟨t118, t119, t120⟩, A170, H⟩ := H
   replace H : ((sound_Fewest.f kj5 l2 a4).bind fun bt122 => ((sound_Most.f kj5 l2 a4).bind fun bt126 => ((isobathref07_Choice.f kj5 l2 a4).bind fun t130 => ((isobathlaw07_sameAnswers.f kj5 t102 t106).bind fun t131 => (if t131 = true then (if t110 = t112 then (if (t114 == t118 && (t115 == t119)) = true then (if t103 = t107 then (if t111 = t113 then (if t116 = t120 then (if bt122.2 = t130 then (if bt126.2 = t130 then (if t130 = 0 then ((isobathlaw07_Works.f kj5).bind fun t132 => (some t132)) else (if (bt122.1.length : Int) = 0 then (if (bt126.1.length : Int) = 0 then ((isobathlaw07_Works.f kj5).bind fun t133 => (some t133)) else (none)) else (none))) else (none)) else (none)) else (none)) else (none)) else (none)) else (none)) else (none)) else (none)))))) = some r := H
   have A17 := zam A170
   clear A170
   replace H := Option.bind_eq_some_iff.mp H
   obtain ⟨⟨t122, t123⟩, A180, H⟩ := H
   replace H : ((sound_Most.f kj5 l2 a4).bind fun bt126 => ((isobathref07_Choice.f kj5 l2 a4).bind fun t130 => ((isobathlaw07_sameAnswers.f kj5 t102 t106).bind fun t131 => (if t131 = true then (if t110 = t112 then (if (t114 == t118 && (t115 == t119)) = true then (if t103 = t107 then (if t111 = t113 then (if t116 = t120 then (if t123 = t130 then (if bt126.2 = t130 then (if t130 = 0 then ((isobathlaw07_Works.f kj5).bind fun t132 => (some t132)) else (if (t122.length : Int) = 0 then (if (bt126.1.length : Int) = 0 then ((isobathlaw07_Works.f kj5).bind fun t133 => (some t133)) else (none)) else (none))) else (none)) else (none)) else (none)) else (none)) else (none)) else (none)) else (none)) else (none))))) = some r := H
   have A18 := zam A180
   clear A180
   replace H := Option.bind_eq_some_iff.mp H
   obtain ⟨⟨t126, t127⟩, A190, H⟩ := H
   replace H : ((isobathref07_Choice.f kj5 l2 a4).bind fun t130 => ((isobathlaw07_sameAnswers.f kj5 t102 t106).bind fun t131 => (if t131 = true then (if t110 = t112 then (if (t114 == t118 && (t115 == t119)) = true then (if t103 = t107 then (if t111 = t113 then (if t116 = t120 then (if t123 = t130 then (if t127 = t130 then (if t130 = 0 then ((isobathlaw07_Works.f kj5).bind fun t132 => (some t132)) else (if (t122.length : Int) = 0 then (if (t126.length : Int) = 0 then ((isobathlaw07_Works.f kj5).bind fun t133 => (some t133)) else (none)) else (none))) else (none)) else (none)) else (none)) else (none)) else (none)) else (none)) else (none)) else (none)))) = some r := H
   have A19 := zam A190
   clear A190
   replace H := Option.bind_eq_some_iff.mp H
   obtain ⟨t130, A200, H⟩ := H
   replace H : ((isobathlaw07_sameAnswers.f kj5 t102 t106).bind fun t131 => (if t131 = true then (if t110 = t112 then (if (t114 == t118 && (t115 == t119)) = true then (if t103 = t107 then (if t111 = t113 then (if t116 = t120 then (if t123 = t130 then (if t127 = t130 then (if t130 = 0 then ((isobathlaw07_Works.f kj5).bind fun t132 => (some t132)) else (if (t122.length : Int) = 0 then (if (t126.length : Int) = 0 then ((isobathlaw07_Works.f kj5).bind fun t133 => (some t133)) else (none)) else (none))) else (none)) else (none)) else (none)) else (none)) else (none)) else (none)) else (none)) else (none))) = some r := H
   have A20 := zam A200
   clear A200
   replace H := Option.bind_eq_some_iff.mp H
   obtain ⟨t131, A210, H⟩ := H
   replace H : (if t131 = true then (if t110 = t112 then (if (t114 == t118 && (t115 == t119)) = true then (if t103 = t107 then (if t111 = t113 then (if t116 = t120 then (if t123 = t130 then (if t127 = t130 then (if t130 = 0 then ((isobathlaw07_Works.f kj5).bind fun t132 => (some t132)) else (if (t122.length : Int) = 0 then (if (t126.length : Int) = 0 then ((isobathlaw07_Works.f kj5).bind fun t133 => (some t133)) else (none)) else (none))) else (none)) else (none)) else (none)) else (none)) else (none)) else (none)) else (none)) else (none)) = some r := H
   have A21 := zam A210
   clear A210
   by_cases c22 : t131 = true
   ·subst c22
    have H1 : (if t110 = t112 then (if (t114 == t118 && (t115 == t119)) = true then (if t103 = t107 then (if t111 = t113 then (if t116 = t120 then (if t123 = t130 then (if t127 = t130 then (if t130 = 0 then ((isobathlaw07_Works.f kj5).bind fun t132 => (some t132)) else (if (t122.length : Int) = 0 then (if (t126.length : Int) = 0 then ((isobathlaw07_Works.f kj5).bind fun t133 => (some t133)) else (none)) else (none))) else (none)) else (none)) else (none)) else (none)) else (none)) else (none)) else (none)) = some r := by rw [if_pos rfl] at H; exact H
    clear H
    have H := H1
    clear H1
    by_cases c23 : t110 = t112
    ·rw [if_pos c23] at H
     have c23b0 : (t110 == t112) = true := beq_iff_eq.mpr c23
     have c23b1 : (t110 != t112) = false := bne_eq_false_iff_eq.mpr c23
     clear c23
     by_cases c24 : (t114 == t118 && (t115 == t119)) = true
     ·rw [if_pos c24] at H
      have c24b0 : (t114 == t118 && (t115 == t119)) = true := c24
      (try (have c24b1 : decide (t114 = t118 && (t115 == t119)) = true := by simpa using c24))
      (try (have c24b2 : (t114 == t118 && (t115 == t119)) = true := by simpa using c24))
      clear c24
      by_cases c25 : t103 = t107
      ·rw [if_pos c25] at H
       have c25b0 : (t103 == t107) = true := beq_iff_eq.mpr c25
       have c25b1 : (t103 != t107) = false := bne_eq_false_iff_eq.mpr c25
       clear c25
       by_cases c26 : t111 = t113
       ·rw [if_pos c26] at H
        have c26b0 : (t111 == t113) = true := beq_iff_eq.mpr c26
        have c26b1 : (t111 != t113) = false := bne_eq_false_iff_eq.mpr c26
        clear c26
        by_cases c27 : t116 = t120
        ·rw [if_pos c27] at H
         have c27b0 : (t116 == t120) = true := beq_iff_eq.mpr c27
         have c27b1 : (t116 != t120) = false := bne_eq_false_iff_eq.mpr c27
         clear c27
         by_cases c28 : t123 = t130
         ·rw [if_pos c28] at H
          have c28b0 : (t123 == t130) = true := beq_iff_eq.mpr c28
          have c28b1 : (t123 != t130) = false := bne_eq_false_iff_eq.mpr c28
          clear c28
          by_cases c29 : t127 = t130
          ·rw [if_pos c29] at H
           have c29b0 : (t127 == t130) = true := beq_iff_eq.mpr c29
           have c29b1 : (t127 != t130) = false := bne_eq_false_iff_eq.mpr c29
           clear c29
           by_cases c30 : t130 = 0
           ·rw [if_pos c30] at H
            have c30b0 : (t130 == 0) = true := beq_iff_eq.mpr c30
            have c30b1 : (t130 != 0) = false := bne_eq_false_iff_eq.mpr c30
            clear c30
            replace H := Option.bind_eq_some_iff.mp H
            obtain ⟨t132, A310, H⟩ := H
            replace H : (some t132) = some r := H
            have A31 := zam A310
            clear A310
            obtain rfl := zsi H
            go_wp2_with (first | ((with_reducible refine zgc (f := 29) rfl ?_); refine goesL_ (some 45) rfl rfl Try.func29 (by kernel_rfl) rfl #[.slice A0 l0.length c0, .int .i64 a1] rfl (by (try simp only [zmt, List.map_cons, List.map_nil]); first | done | rfl | (simp only [zld, zlt]; rfl)) ?_; (with_reducible refine (sound_Loud.calls kj5 _ _ l0 a1 t102 t103 _ ?side1 ?side2 A12.out).mono ?_); (case side1 => repeat (first | exact (Kd.C_below HR0.out HB.out) | (with_reducible refine Kd.C_alloc ?_ _) | (with_reducible refine Kd.C_drewN ?_ _) | (with_reducible refine Kd.C_drew ?_))); (case side2 => exact HC0.out); rintro e w32 ⟨v104, rfl, ho0, hb⟩; refine ⟨_, rfl, ?_⟩; have n0_ := zam (Kd.R_lower ho0 (zbz (by repeat (first | (with_reducible first | exact HB.out | apply zba | apply zbn | apply zb1) | exact HB.out)))); have n1_ := zam (zbt (by repeat (first | (with_reducible first | exact HB.out | apply zba | apply zbn | apply zb1) | exact HB.out)) hb); clear HB; have HO105 := n0_; have HB := n1_; clear n0_ n1_; (try clear hb); (try clear hb2); (try clear hk); (try clear hi); (try clear ho0)) | ((with_reducible refine zgc (f := 43) rfl ?_); refine goesL_ (some 51) rfl rfl Try.func43 (by kernel_rfl) rfl #[.slice A0 l0.length c0, .int .i64 a1] rfl (by (try simp only [zmt, List.map_cons, List.map_nil]); first | done | rfl | (simp only [zld, zlt]; rfl)) ?_; (with_reducible refine (isobathref07_Loud.calls kj5 _ _ l0 a1 t106 t107 _ ?side1 ?side2 A13.out).mono ?_); (case side1 => repeat (first | exact (Kd.C_below HR0.out HB.out) | (with_reducible refine Kd.C_alloc ?_ _) | (with_reducible refine Kd.C_drewN ?_ _) | (with_reducible refine Kd.C_drew ?_))); (case side2 => exact HC0.out); rintro e w33 ⟨v108, rfl, ho0, hb⟩; refine ⟨_, rfl, ?_⟩; have n0_ := zam (Kd.R_elder' (by (with_reducible repeat (first | apply zRa | apply zRn | apply zRd)); exact HO105.out) (Kd.R_base ho0) hb); have n1_ := zam (Kd.R_lower (Kd.R_new' ho0 (Kd.R_lt (by (with_reducible repeat (first | apply zRa | apply zRn | apply zRd)); exact HO105.out))) (zbz (by repeat (first | (with_reducible first | exact HB.out | apply zba | apply zbn | apply zb1) | exact HB.out)))); have n2_ := zam (zbt (by repeat (first | (with_reducible first | exact HB.out | apply zba | apply zbn | apply zb1) | exact HB.out)) hb); clear HO105; clear HB; have HO105 := n0_; have HO109 := n1_; have HB := n2_; clear n0_ n1_ n2_; (try clear hb); (try clear hb2); (try clear hk); (try clear hi); (try clear ho0)) | ((with_reducible refine zgc (f := 32) rfl ?_); refine goesL_ (some 57) rfl rfl Try.func32 (by kernel_rfl) rfl #[.slice A3 l3.length c3, .int .i64 a4] rfl (by (try simp only [zmt, List.map_cons, List.map_nil]); first | done | rfl | (simp only [zld, zlt]; rfl)) ?_; (with_reducible refine (sound_Calls.calls kj5 _ _ l3 a4 t110 t111 _ ?side1 ?side2 A14.out).mono ?_); (case side1 => repeat (first | exact (Kd.C_below HR3.out HB.out) | (with_reducible refine Kd.C_alloc ?_ _) | (with_reducible refine Kd.C_drewN ?_ _) | (with_reducible refine Kd.C_drew ?_))); (case side2 => exact HC3.out); rintro e w' ⟨rfl, ⟨nd, rfl⟩⟩; refine ⟨_, rfl, ?_⟩; (try (rw [drewN_self w33]; generalize hq_ : World.drewN w33 _ = w33; have n0_ : Aside0 (Kd.R (Kd.int .i64) 50 w33 w.heap.size (fun k_ => some k_ ≠ (v108 : Value).ownBlock) v104 t102) := ⟨by rw [← hq_]; exact (by (with_reducible repeat (first | apply zRa | apply zRn | apply zRd)); exact Kd.R_mono HO105.out (fun _ hk => hk.2))⟩; have n1_ : Aside0 (Kd.R (Kd.int .i64) 50 w33 w.heap.size (fun k_ => some k_ ≠ (v104 : Value).ownBlock) v108 t106) := ⟨by rw [← hq_]; exact (by (with_reducible repeat (first | apply zRa | apply zRn | apply zRd)); exact Kd.R_mono HO109.out (fun _ hk => hk.2))⟩; have n2_ : Aside0 (Below w.heap.size w w33) := ⟨by rw [← hq_]; exact (by repeat (first | (with_reducible first | exact HB.out | apply zba | apply zbn | apply zb1) | exact HB.out))⟩; clear HO105 HO109 HB hq_; have HO105 := n0_; have HO109 := n1_; have HB := n2_; clear n0_ n1_ n2_))) | ((with_reducible refine zgc (f := 44) rfl ?_); refine goesL_ (some 63) rfl rfl Try.func44 (by kernel_rfl) rfl #[.slice A3 l3.length c3, .int .i64 a4] rfl (by (try simp only [zmt, List.map_cons, List.map_nil]); first | done | rfl | (simp only [zld, zlt]; rfl)) ?_; (with_reducible refine (isobathref07_Calls.calls kj5 _ _ l3 a4 t112 t113 _ ?side1 ?side2 A15.out).mono ?_); (case side1 => repeat (first | exact (Kd.C_below HR3.out HB.out) | (with_reducible refine Kd.C_alloc ?_ _) | (with_reducible refine Kd.C_drewN ?_ _) | (with_reducible refine Kd.C_drew ?_))); (case side2 => exact HC3.out); rintro e w' ⟨rfl, ⟨nd, rfl⟩⟩; refine ⟨_, rfl, ?_⟩; (try (rw [drewN_self w33]; generalize hq_ : World.drewN w33 _ = w33; have n0_ : Aside0 (Kd.R (Kd.int .i64) 50 w33 w.heap.size (fun k_ => some k_ ≠ (v108 : Value).ownBlock) v104 t102) := ⟨by rw [← hq_]; exact (by (with_reducible repeat (first | apply zRa | apply zRn | apply zRd)); exact Kd.R_mono HO105.out (fun _ hk => hk.2))⟩; have n1_ : Aside0 (Kd.R (Kd.int .i64) 50 w33 w.heap.size (fun k_ => some k_ ≠ (v104 : Value).ownBlock) v108 t106) := ⟨by rw [← hq_]; exact (by (with_reducible repeat (first | apply zRa | apply zRn | apply zRd)); exact Kd.R_mono HO109.out (fun _ hk => hk.2))⟩; have n2_ : Aside0 (Below w.heap.size w w33) := ⟨by rw [← hq_]; exact (by repeat (first | (with_reducible first | exact HB.out | apply zba | apply zbn | apply zb1) | exact HB.out))⟩; clear HO105 HO109 HB hq_; have HO105 := n0_; have HO109 := n1_; have HB := n2_; clear n0_ n1_ n2_))) | ((with_reducible refine zgc (f := 30) rfl ?_); refine goesL_ (some 69) rfl rfl Try.func30 (by kernel_rfl) rfl #[.slice A2 l2.length c2, .int .i64 a4] rfl (by (try simp only [zmt, List.map_cons, List.map_nil]); first | done | rfl | (simp only [zld, zlt]; rfl)) ?_; (with_reducible refine (sound_Count.calls kj5 _ _ l2 a4 t114 t115 t116 _ ?side1 ?side2 A16.out).mono ?_); (case side1 => repeat (first | exact (Kd.C_below HR2.out HB.out) | (with_reducible refine Kd.C_alloc ?_ _) | (with_reducible refine Kd.C_drewN ?_ _) | (with_reducible refine Kd.C_drew ?_))); (case side2 => exact HC2.out); rintro e w34 ⟨rfl, hb⟩; refine ⟨_, rfl, ?_⟩; have n0_ := zam (Kd.R_below (by (with_reducible repeat (first | apply zRa | apply zRn | apply zRd)); exact HO105.out) hb); have n1_ := zam (Kd.R_below (by (with_reducible repeat (first | apply zRa | apply zRn | apply zRd)); exact HO109.out) hb); have n2_ := zam (zbt (by repeat (first | (with_reducible first | exact HB.out | apply zba | apply zbn | apply zb1) | exact HB.out)) hb); clear HO105; clear HO109; clear HB; have HO105 := n0_; have HO109 := n1_; have HB := n2_; clear n0_ n1_ n2_; (try clear hb); (try clear hb2); (try clear hk); (try clear hi)) | ((with_reducible refine zgd (N := 19) rfl ?_); (try (refine gate_guard (by rfl) ?_; dsimp only)); refine box_event ?hg (N := 19) ?hd (cs := #[.int .i64 0, .int .i64 0]) (t := 24) ?hr ?_; (case hd => rfl); (case hg => rfl); (case hr => first | (go_simp; done) | (go_simp; rfl)); intro gb117 hg w35 hbox hb; have n0_ := zam (Kd.R_below (by (with_reducible repeat (first | apply zRa | apply zRn | apply zRd)); exact HO105.out) hb); have n1_ := zam (Kd.R_below (by (with_reducible repeat (first | apply zRa | apply zRn | apply zRd)); exact HO109.out) hb); have n2_ := zam (zbt (by repeat (first | (with_reducible first | exact HB.out | apply zba | apply zbn | apply zb1) | exact HB.out)) hb); have n3_ := zam (hbox); have n4_ := zam ((by rw [hg]; exact (zbz (by repeat (first | (with_reducible first | exact HB.out | apply zba | apply zbn | apply zb1) | exact HB.out))) : w.heap.size ≤ gb117)); have n5_ := zam ((by rw [hg]; exact (zbz (by repeat (first | (with_reducible first | exact HB.out | apply zba | apply zbn | apply zb1) | exact HB.out))) : w.heap.size ≤ gb117)); clear HO105; clear HO109; clear HB; have HO105 := n0_; have HO109 := n1_; have HB := n2_; have BK117 := n3_; have GW117 := n4_; have GE117 := n5_; clear n0_ n1_ n2_ n3_ n4_ n5_; clear hb hbox hg; have hcz36_0 : w35.cell? ⟨gb117, 0, none⟩ = some (.int .i64 0) := (zkc BK117.out 0).trans rfl; have hcz36_1 : w35.cell? ⟨gb117, 1, none⟩ = some (.int .i64 0) := (zkc BK117.out 1).trans rfl; have hfz36_0 := zkz BK117.out 0; have hfz36_1 := zkz BK117.out 1) | ((with_reducible refine zgc (f := 45) rfl ?_); refine goesL_ (some 75) rfl rfl Try.func45 (by kernel_rfl) rfl #[.slice A2 l2.length c2, .int .i64 a4] rfl (by (try simp only [zmt, List.map_cons, List.map_nil]); first | done | rfl | (simp only [zld, zlt]; rfl)) ?_; (with_reducible refine (isobathref07_Count.calls kj5 _ _ l2 a4 t118 t119 t120 _ ?side1 ?side2 A17.out).mono ?_); (case side1 => exact Kd.C_below HR2.out (by repeat (first | (with_reducible first | exact HB.out | apply zba | apply zbn | apply zb1 | refine zbs ?_ GE117.out) | exact HB.out))); (case side2 => exact HC2.out); rintro e w37 ⟨rfl, hb⟩; refine ⟨_, rfl, ?_⟩; have n0_ := zam (Kd.R_below (by (with_reducible repeat (first | apply zRa | apply zRn | apply zRd)); exact (Kd.R_mono (Kd.R_far (p := ⟨gb117, 1, none⟩) (Kd.R_far (p := ⟨gb117, 0, none⟩) (Kd.R_types HO105.out BK117.out (by decide)) (fun _ hk => hk.2) (.int .i64 t114)) (fun _ hk => hk.2) (.int .i64 t115)) (fun _ h_ => h_.1))) hb); have n1_ := zam (Kd.R_below (by (with_reducible repeat (first | apply zRa | apply zRn | apply zRd)); exact (Kd.R_mono (Kd.R_far (p := ⟨gb117, 1, none⟩) (Kd.R_far (p := ⟨gb117, 0, none⟩) (Kd.R_types HO109.out BK117.out (by decide)) (fun _ hk => hk.2) (.int .i64 t114)) (fun _ hk => hk.2) (.int .i64 t115)) (fun _ h_ => h_.1))) hb); have n2_ := zam (zkb (g := gb117) (o := .cells #[.int .i64 t114, .int .i64 t115] 24 (0, 0)) (by (with_reducible repeat (first | refine zkn ?_ _ | refine zkd ?_ | refine zka ?_ _)); refine blk_put (cs := #[.int .i64 t114, .int .i64 0]) ?_ 1 _ rfl; (with_reducible repeat (first | refine zkn ?_ _ | refine zkd ?_ | refine zka ?_ _)); refine blk_put (cs := #[.int .i64 0, .int .i64 0]) ?_ 0 _ rfl; (with_reducible repeat (first | refine zkn ?_ _ | refine zkd ?_ | refine zka ?_ _)); exact BK117.out) hb); have n3_ := zam (zbt (by repeat (first | (with_reducible first | exact HB.out | apply zba | apply zbn | apply zb1 | refine zbs ?_ GE117.out) | exact HB.out)) hb); clear HO105; clear HO109; clear BK117; clear HB; have HO105 := n0_; have HO109 := n1_; have BK117 := n2_; have HB := n3_; clear n0_ n1_ n2_ n3_; (try clear hb); (try clear hb2); (try clear hk); (try clear hi)) | ((with_reducible refine zgd (N := 21) rfl ?_); (try (refine gate_guard (by rfl) ?_; dsimp only)); refine box_event ?hg (N := 21) ?hd (cs := #[.int .i64 0, .int .i64 0]) (t := 24) ?hr ?_; (case hd => rfl); (case hg => rfl); (case hr => first | (go_simp; done) | (go_simp; rfl)); intro gb121 hg w38 hbox hb; have n0_ := zam (Kd.R_below (by (with_reducible repeat (first | apply zRa | apply zRn | apply zRd)); exact HO105.out) hb); have n1_ := zam (Kd.R_below (by (with_reducible repeat (first | apply zRa | apply zRn | apply zRd)); exact HO109.out) hb); have n2_ := zam (zkb (g := gb117) (o := .cells #[.int .i64 t114, .int .i64 t115] 24 (0, 0)) (by (with_reducible repeat (first | refine zkn ?_ _ | refine zkd ?_ | refine zka ?_ _)); exact BK117.out) hb); have n3_ := zam (zbt (by repeat (first | (with_reducible first | exact HB.out | apply zba | apply zbn | apply zb1 | refine zbs ?_ GE117.out) | exact HB.out)) hb); have n4_ := zam (hbox); have n5_ := zam ((by rw [hg]; exact (zbz (by repeat (first | (with_reducible first | exact HB.out | apply zba | apply zbn | apply zb1 | refine zbs ?_ GE117.out) | exact HB.out))) : w.heap.size ≤ gb121)); have n6_ := zam ((by rw [hg]; exact (zbz (by repeat (first | (with_reducible first | exact HB.out | apply zba | apply zbn | apply zb1 | refine zbs ?_ GE117.out) | exact HB.out))) : w.heap.size ≤ gb121)); have n7_ := zam ((by rw [hg]; exact Nat.ne_of_lt (blk_lt (g := gb117) (o := .cells #[.int .i64 t114, .int .i64 t115] 24 (0, 0)) (by (with_reducible repeat (first | refine zkn ?_ _ | refine zkd ?_ | refine zka ?_ _)); exact BK117.out)) : gb117 ≠ gb121)); have n8_ := zam ((by rw [hg]; exact Nat.ne_of_gt (blk_lt (g := gb117) (o := .cells #[.int .i64 t114, .int .i64 t115] 24 (0, 0)) (by (with_reducible repeat (first | refine zkn ?_ _ | refine zkd ?_ | refine zka ?_ _)); exact BK117.out)) : gb121 ≠ gb117)); clear HO105; clear HO109; clear BK117; clear HB; have HO105 := n0_; have HO109 := n1_; have BK117 := n2_; have HB := n3_; have BK121 := n4_; have GW121 := n5_; have GE121 := n6_; have NB117_121 := n7_; have NB121_117 := n8_; clear n0_ n1_ n2_ n3_ n4_ n5_ n6_ n7_ n8_; clear hb hbox hg; have hnb39 := NB121_117.out; have hnc39 := NB117_121.out; have hcz40_0 : w38.cell? ⟨gb121, 0, none⟩ = some (.int .i64 0) := (zkc BK121.out 0).trans rfl; have hcz40_1 : w38.cell? ⟨gb121, 1, none⟩ = some (.int .i64 0) := (zkc BK121.out 1).trans rfl; have hfz40_0 := zkz BK121.out 0; have hfz40_1 := zkz BK121.out 1) | ((with_reducible refine zgc (f := 33) rfl ?_); refine goesL_ (some 81) rfl rfl Try.func33 (by kernel_rfl) rfl #[.slice A2 l2.length c2, .int .i64 a4] rfl (by (try simp only [zmt, List.map_cons, List.map_nil]); first | done | rfl | (simp only [zld, zlt]; rfl)) ?_; (with_reducible refine (sound_Fewest.calls kj5 _ _ l2 a4 t122 t123 _ ?side1 ?side2 A18.out).mono ?_); (case side1 => exact Kd.C_below HR2.out (by repeat (first | (with_reducible first | exact HB.out | apply zba | apply zbn | apply zb1 | refine zbs ?_ GE117.out | refine zbs ?_ GE121.out) | exact HB.out))); (case side2 => exact HC2.out); rintro e w41 ⟨v124, rfl, ho0, hb⟩; refine ⟨_, rfl, ?_⟩; have n0_ := zam (Kd.R_below (by (with_reducible repeat (first | apply zRa | apply zRn | apply zRd)); exact (Kd.R_mono (Kd.R_far (p := ⟨gb121, 1, none⟩) (Kd.R_far (p := ⟨gb121, 0, none⟩) (Kd.R_types HO105.out BK121.out (by decide)) (fun _ hk => hk.2) (.int .i64 t118)) (fun _ hk => hk.2) (.int .i64 t119)) (fun _ h_ => h_.1))) hb); have n1_ := zam (Kd.R_below (by (with_reducible repeat (first | apply zRa | apply zRn | apply zRd)); exact (Kd.R_mono (Kd.R_far (p := ⟨gb121, 1, none⟩) (Kd.R_far (p := ⟨gb121, 0, none⟩) (Kd.R_types HO109.out BK121.out (by decide)) (fun _ hk => hk.2) (.int .i64 t118)) (fun _ hk => hk.2) (.int .i64 t119)) (fun _ h_ => h_.1))) hb); have n2_ := zam (Kd.R_lower ho0 (zbz (by repeat (first | (with_reducible first | exact HB.out | apply zba | apply zbn | apply zb1 | refine zbs ?_ GE117.out | refine zbs ?_ GE121.out) | exact HB.out)))); have n3_ := zam (zkb (g := gb117) (o := .cells #[.int .i64 t114, .int .i64 t115] 24 (0, 0)) (by (with_reducible repeat (first | refine zkn ?_ _ | refine zkd ?_ | refine zka ?_ _)); refine zkf ?_ NB117_121.out _; (with_reducible repeat (first | refine zkn ?_ _ | refine zkd ?_ | refine zka ?_ _)); refine zkf ?_ NB117_121.out _; (with_reducible repeat (first | refine zkn ?_ _ | refine zkd ?_ | refine zka ?_ _)); exact BK117.out) hb); have n4_ := zam (zkb (g := gb121) (o := .cells #[.int .i64 t118, .int .i64 t119] 24 (0, 0)) (by (with_reducible repeat (first | refine zkn ?_ _ | refine zkd ?_ | refine zka ?_ _)); refine blk_put (cs := #[.int .i64 t118, .int .i64 0]) ?_ 1 _ rfl; (with_reducible repeat (first | refine zkn ?_ _ | refine zkd ?_ | refine zka ?_ _)); refine blk_put (cs := #[.int .i64 0, .int .i64 0]) ?_ 0 _ rfl; (with_reducible repeat (first | refine zkn ?_ _ | refine zkd ?_ | refine zka ?_ _)); exact BK121.out) hb); have n5_ := zam (zbt (by repeat (first | (with_reducible first | exact HB.out | apply zba | apply zbn | apply zb1 | refine zbs ?_ GE117.out | refine zbs ?_ GE121.out) | exact HB.out)) hb); clear HO105; clear HO109; clear BK117; clear BK121; clear HB; have HO105 := n0_; have HO109 := n1_; have HO125 := n2_; have BK117 := n3_; have BK121 := n4_; have HB := n5_; clear n0_ n1_ n2_ n3_ n4_ n5_; (try clear hb); (try clear hb2); (try clear hk); (try clear hi); (try clear ho0)) | ((with_reducible refine zgc (f := 34) rfl ?_); refine goesL_ (some 87) rfl rfl Try.func34 (by kernel_rfl) rfl #[.slice A2 l2.length c2, .int .i64 a4] rfl (by (try simp only [zmt, List.map_cons, List.map_nil]); first | done | rfl | (simp only [zld, zlt]; rfl)) ?_; (with_reducible refine (sound_Most.calls kj5 _ _ l2 a4 t126 t127 _ ?side1 ?side2 A19.out).mono ?_); (case side1 => repeat (first | exact (Kd.C_below HR2.out HB.out) | (with_reducible refine Kd.C_alloc ?_ _) | (with_reducible refine Kd.C_drewN ?_ _) | (with_reducible refine Kd.C_drew ?_))); (case side2 => exact HC2.out); rintro e w42 ⟨v128, rfl, ho0, hb⟩; refine ⟨_, rfl, ?_⟩; have n0_ := zam (Kd.R_below (by (with_reducible repeat (first | apply zRa | apply zRn | apply zRd)); exact HO105.out) hb); have n1_ := zam (Kd.R_below (by (with_reducible repeat (first | apply zRa | apply zRn | apply zRd)); exact HO109.out) hb); have n2_ := zam (Kd.R_elder' (by (with_reducible repeat (first | apply zRa | apply zRn | apply zRd)); exact HO125.out) (Kd.R_base ho0) hb); have n3_ := zam (Kd.R_lower (Kd.R_new' ho0 (Kd.R_lt (by (with_reducible repeat (first | apply zRa | apply zRn | apply zRd)); exact HO125.out))) (zbz (by repeat (first | (with_reducible first | exact HB.out | apply zba | apply zbn | apply zb1 | refine zbs ?_ GE117.out | refine zbs ?_ GE121.out) | exact HB.out)))); have n4_ := zam (zkb (g := gb117) (o := .cells #[.int .i64 t114, .int .i64 t115] 24 (0, 0)) (by (with_reducible repeat (first | refine zkn ?_ _ | refine zkd ?_ | refine zka ?_ _)); exact BK117.out) hb); have n5_ := zam (zkb (g := gb121) (o := .cells #[.int .i64 t118, .int .i64 t119] 24 (0, 0)) (by (with_reducible repeat (first | refine zkn ?_ _ | refine zkd ?_ | refine zka ?_ _)); exact BK121.out) hb); have n6_ := zam (zbt (by repeat (first | (with_reducible first | exact HB.out | apply zba | apply zbn | apply zb1 | refine zbs ?_ GE117.out | refine zbs ?_ GE121.out) | exact HB.out)) hb); clear HO105; clear HO109; clear HO125; clear BK117; clear BK121; clear HB; have HO105 := n0_; have HO109 := n1_; have HO125 := n2_; have HO129 := n3_; have BK117 := n4_; have BK121 := n5_; have HB := n6_; clear n0_ n1_ n2_ n3_ n4_ n5_ n6_; (try clear hb); (try clear hb2); (try clear hk); (try clear hi); (try clear ho0)) | ((with_reducible refine zgc (f := 31) rfl ?_); refine goesL_ (some 92) rfl rfl Try.func31 (by kernel_rfl) rfl #[.slice A2 l2.length c2, .int .i64 a4] rfl (by (try simp only [zmt, List.map_cons, List.map_nil]); first | done | rfl | (simp only [zld, zlt]; rfl)) ?_; (with_reducible refine (isobathref07_Choice.calls kj5 _ _ l2 a4 t130 _ ?side1 ?side2 A20.out).mono ?_); (case side1 => repeat (first | exact (Kd.C_below HR2.out HB.out) | (with_reducible refine Kd.C_alloc ?_ _) | (with_reducible refine Kd.C_drewN ?_ _) | (with_reducible refine Kd.C_drew ?_))); (case side2 => exact HC2.out); rintro e w' ⟨rfl, ⟨nd, rfl⟩⟩; refine ⟨_, rfl, ?_⟩; obtain ⟨Ao43, co43, eo43⟩ := Kd.R_slice HO105.out; subst eo43; obtain ⟨Ao44, co44, eo44⟩ := Kd.R_slice HO109.out; subst eo44) | ((with_reducible refine zgc (f := 46) rfl ?_); refine goesL_ (some 95) rfl rfl Try.func46 (by kernel_rfl) rfl #[.slice Ao43 t102.length co43, .slice Ao44 t106.length co44] rfl (by (try simp only [zmt, List.map_cons, List.map_nil]); first | done | rfl | (simp only [zld, zlt]; rfl)) ?_; (with_reducible refine (isobathlaw07_sameAnswers.calls kj5 _ _ t102 _ _ t106 true _ ?side1 ?side2 ?side3 ?side4 A21.out).mono ?_); (case side1 => repeat (first | exact (Kd.R_reads' HO105.out).2.2 | (with_reducible refine Kd.C_alloc ?_ _) | (with_reducible refine Kd.C_drewN ?_ _) | (with_reducible refine Kd.C_drew ?_))); (case side2 => exact (Kd.R_reads' HO105.out).2.1); (case side3 => repeat (first | exact (Kd.R_reads' HO109.out).2.2 | (with_reducible refine Kd.C_alloc ?_ _) | (with_reducible refine Kd.C_drewN ?_ _) | (with_reducible refine Kd.C_drew ?_))); (case side4 => exact (Kd.R_reads' HO109.out).2.1); rintro e w' ⟨rfl, ⟨nd, rfl⟩⟩; refine ⟨_, rfl, ?_⟩; have hcz45_0 : w42.cell? ⟨gb117, 0, none⟩ = some (.int .i64 t114) := (zkc BK117.out 0).trans rfl; have hcz45_1 : w42.cell? ⟨gb117, 1, none⟩ = some (.int .i64 t115) := (zkc BK117.out 1).trans rfl; have hfz45_0 := zkz BK117.out 0; have hfz45_1 := zkz BK117.out 1; have hcz46_0 : w42.cell? ⟨gb121, 0, none⟩ = some (.int .i64 t118) := (zkc BK121.out 0).trans rfl; have hcz46_1 : w42.cell? ⟨gb121, 1, none⟩ = some (.int .i64 t119) := (zkc BK121.out 1).trans rfl; have hfz46_0 := zkz BK121.out 0; have hfz46_1 := zkz BK121.out 1) | (go_at_call 14; (with_reducible refine (isobathlaw07_Works.calls kj5  t132 _ A31.out).mono ?_); rintro e w47 ⟨rfl, hb⟩; have n0_ := zam (Kd.R_below (by (with_reducible repeat (first | apply zRa | apply zRn | apply zRd)); exact HO105.out) hb); have n1_ := zam (Kd.R_below (by (with_reducible repeat (first | apply zRa | apply zRn | apply zRd)); exact HO109.out) hb); have n2_ := zam (Kd.R_below (by (with_reducible repeat (first | apply zRa | apply zRn | apply zRd)); exact HO125.out) hb); have n3_ := zam (Kd.R_below (by (with_reducible repeat (first | apply zRa | apply zRn | apply zRd)); exact HO129.out) hb); have n4_ := zam (zkb (g := gb117) (o := .cells #[.int .i64 t114, .int .i64 t115] 24 (0, 0)) (by (with_reducible repeat (first | refine zkn ?_ _ | refine zkd ?_ | refine zka ?_ _)); exact BK117.out) hb); have n5_ := zam (zkb (g := gb121) (o := .cells #[.int .i64 t118, .int .i64 t119] 24 (0, 0)) (by (with_reducible repeat (first | refine zkn ?_ _ | refine zkd ?_ | refine zka ?_ _)); exact BK121.out) hb); have n6_ := zam (zbt (by repeat (first | (with_reducible first | exact HB.out | apply zba | apply zbn | apply zb1 | refine zbs ?_ GE117.out | refine zbs ?_ GE121.out) | exact HB.out)) hb); clear HO105; clear HO109; clear HO125; clear HO129; clear BK117; clear BK121; clear HB; have HO105 := n0_; have HO109 := n1_; have HO125 := n2_; have HO129 := n3_; have BK117 := n4_; have BK121 := n5_; have HB := n6_; clear n0_ n1_ n2_ n3_ n4_ n5_ n6_; (try clear hb); (try clear hb2); (try clear hk); (try clear hi)))
            go_ret
            exact ⟨by first | rfl | (simp [errW_none, errW_some] <;> rfl) | (simp [*, errW_none, errW_some] <;> rfl), by repeat (first | (with_reducible first | exact HB.out | apply zba | apply zbn | apply zb1 | refine zbs ?_ GE117.out | refine zbs ?_ GE121.out) | exact HB.out)⟩
           rw [if_neg c30] at H
           have c30b0 : (t130 == 0) = false := beq_eq_false_iff_ne.mpr c30
           have c30b1 : (t130 != 0) = true := bne_iff_ne.mpr c30
           by_cases c48 : (t122.length : Int) = 0
           ·rw [if_pos c48] at H
            have c48b0 : ((t122.length : Int) == 0) = true := beq_iff_eq.mpr c48
            have c48b1 : ((t122.length : Int) != 0) = false := bne_eq_false_iff_eq.mpr c48
            clear c48
            by_cases c49 : (t126.length : Int) = 0
            ·rw [if_pos c49] at H
             have c49b0 : ((t126.length : Int) == 0) = true := beq_iff_eq.mpr c49
             have c49b1 : ((t126.length : Int) != 0) = false := bne_eq_false_iff_eq.mpr c49
             clear c49
             replace H := Option.bind_eq_some_iff.mp H
             obtain ⟨t133, A500, H⟩ := H
             replace H : (some t133) = some r := H
             have A50 := zam A500
             clear A500
             obtain rfl := zsi H
             go_wp2_with (first | ((with_reducible refine zgc (f := 29) rfl ?_); refine goesL_ (some 45) rfl rfl Try.func29 (by kernel_rfl) rfl #[.slice A0 l0.length c0, .int .i64 a1] rfl (by (try simp only [zmt, List.map_cons, List.map_nil]); first | done | rfl | (simp only [zld, zlt]; rfl)) ?_; (with_reducible refine (sound_Loud.calls kj5 _ _ l0 a1 t102 t103 _ ?side1 ?side2 A12.out).mono ?_); (case side1 => repeat (first | exact (Kd.C_below HR0.out HB.out) | (with_reducible refine Kd.C_alloc ?_ _) | (with_reducible refine Kd.C_drewN ?_ _) | (with_reducible refine Kd.C_drew ?_))); (case side2 => exact HC0.out); rintro e w51 ⟨v104, rfl, ho0, hb⟩; refine ⟨_, rfl, ?_⟩; have n0_ := zam (Kd.R_lower ho0 (zbz (by repeat (first | (with_reducible first | exact HB.out | apply zba | apply zbn | apply zb1) | exact HB.out)))); have n1_ := zam (zbt (by repeat (first | (with_reducible first | exact HB.out | apply zba | apply zbn | apply zb1) | exact HB.out)) hb); clear HB; have HO105 := n0_; have HB := n1_; clear n0_ n1_; (try clear hb); (try clear hb2); (try clear hk); (try clear hi); (try clear ho0)) | ((with_reducible refine zgc (f := 43) rfl ?_); refine goesL_ (some 51) rfl rfl Try.func43 (by kernel_rfl) rfl #[.slice A0 l0.length c0, .int .i64 a1] rfl (by (try simp only [zmt, List.map_cons, List.map_nil]); first | done | rfl | (simp only [zld, zlt]; rfl)) ?_; (with_reducible refine (isobathref07_Loud.calls kj5 _ _ l0 a1 t106 t107 _ ?side1 ?side2 A13.out).mono ?_); (case side1 => repeat (first | exact (Kd.C_below HR0.out HB.out) | (with_reducible refine Kd.C_alloc ?_ _) | (with_reducible refine Kd.C_drewN ?_ _) | (with_reducible refine Kd.C_drew ?_))); (case side2 => exact HC0.out); rintro e w52 ⟨v108, rfl, ho0, hb⟩; refine ⟨_, rfl, ?_⟩; have n0_ := zam (Kd.R_elder' (by (with_reducible repeat (first | apply zRa | apply zRn | apply zRd)); exact HO105.out) (Kd.R_base ho0) hb); have n1_ := zam (Kd.R_lower (Kd.R_new' ho0 (Kd.R_lt (by (with_reducible repeat (first | apply zRa | apply zRn | apply zRd)); exact HO105.out))) (zbz (by repeat (first | (with_reducible first | exact HB.out | apply zba | apply zbn | apply zb1) | exact HB.out)))); have n2_ := zam (zbt (by repeat (first | (with_reducible first | exact HB.out | apply zba | apply zbn | apply zb1) | exact HB.out)) hb); clear HO105; clear HB; have HO105 := n0_; have HO109 := n1_; have HB := n2_; clear n0_ n1_ n2_; (try clear hb); (try clear hb2); (try clear hk); (try clear hi); (try clear ho0)) | ((with_reducible refine zgc (f := 32) rfl ?_); refine goesL_ (some 57) rfl rfl Try.func32 (by kernel_rfl) rfl #[.slice A3 l3.length c3, .int .i64 a4] rfl (by (try simp only [zmt, List.map_cons, List.map_nil]); first | done | rfl | (simp only [zld, zlt]; rfl)) ?_; (with_reducible refine (sound_Calls.calls kj5 _ _ l3 a4 t110 t111 _ ?side1 ?side2 A14.out).mono ?_); (case side1 => repeat (first | exact (Kd.C_below HR3.out HB.out) | (with_reducible refine Kd.C_alloc ?_ _) | (with_reducible refine Kd.C_drewN ?_ _) | (with_reducible refine Kd.C_drew ?_))); (case side2 => exact HC3.out); rintro e w' ⟨rfl, ⟨nd, rfl⟩⟩; refine ⟨_, rfl, ?_⟩; (try (rw [drewN_self w52]; generalize hq_ : World.drewN w52 _ = w52; have n0_ : Aside0 (Kd.R (Kd.int .i64) 50 w52 w.heap.size (fun k_ => some k_ ≠ (v108 : Value).ownBlock) v104 t102) := ⟨by rw [← hq_]; exact (by (with_reducible repeat (first | apply zRa | apply zRn | apply zRd)); exact Kd.R_mono HO105.out (fun _ hk => hk.2))⟩; have n1_ : Aside0 (Kd.R (Kd.int .i64) 50 w52 w.heap.size (fun k_ => some k_ ≠ (v104 : Value).ownBlock) v108 t106) := ⟨by rw [← hq_]; exact (by (with_reducible repeat (first | apply zRa | apply zRn | apply zRd)); exact Kd.R_mono HO109.out (fun _ hk => hk.2))⟩; have n2_ : Aside0 (Below w.heap.size w w52) := ⟨by rw [← hq_]; exact (by repeat (first | (with_reducible first | exact HB.out | apply zba | apply zbn | apply zb1) | exact HB.out))⟩; clear HO105 HO109 HB hq_; have HO105 := n0_; have HO109 := n1_; have HB := n2_; clear n0_ n1_ n2_))) | ((with_reducible refine zgc (f := 44) rfl ?_); refine goesL_ (some 63) rfl rfl Try.func44 (by kernel_rfl) rfl #[.slice A3 l3.length c3, .int .i64 a4] rfl (by (try simp only [zmt, List.map_cons, List.map_nil]); first | done | rfl | (simp only [zld, zlt]; rfl)) ?_; (with_reducible refine (isobathref07_Calls.calls kj5 _ _ l3 a4 t112 t113 _ ?side1 ?side2 A15.out).mono ?_); (case side1 => repeat (first | exact (Kd.C_below HR3.out HB.out) | (with_reducible refine Kd.C_alloc ?_ _) | (with_reducible refine Kd.C_drewN ?_ _) | (with_reducible refine Kd.C_drew ?_))); (case side2 => exact HC3.out); rintro e w' ⟨rfl, ⟨nd, rfl⟩⟩; refine ⟨_, rfl, ?_⟩; (try (rw [drewN_self w52]; generalize hq_ : World.drewN w52 _ = w52; have n0_ : Aside0 (Kd.R (Kd.int .i64) 50 w52 w.heap.size (fun k_ => some k_ ≠ (v108 : Value).ownBlock) v104 t102) := ⟨by rw [← hq_]; exact (by (with_reducible repeat (first | apply zRa | apply zRn | apply zRd)); exact Kd.R_mono HO105.out (fun _ hk => hk.2))⟩; have n1_ : Aside0 (Kd.R (Kd.int .i64) 50 w52 w.heap.size (fun k_ => some k_ ≠ (v104 : Value).ownBlock) v108 t106) := ⟨by rw [← hq_]; exact (by (with_reducible repeat (first | apply zRa | apply zRn | apply zRd)); exact Kd.R_mono HO109.out (fun _ hk => hk.2))⟩; have n2_ : Aside0 (Below w.heap.size w w52) := ⟨by rw [← hq_]; exact (by repeat (first | (with_reducible first | exact HB.out | apply zba | apply zbn | apply zb1) | exact HB.out))⟩; clear HO105 HO109 HB hq_; have HO105 := n0_; have HO109 := n1_; have HB := n2_; clear n0_ n1_ n2_))) | ((with_reducible refine zgc (f := 30) rfl ?_); refine goesL_ (some 69) rfl rfl Try.func30 (by kernel_rfl) rfl #[.slice A2 l2.length c2, .int .i64 a4] rfl (by (try simp only [zmt, List.map_cons, List.map_nil]); first | done | rfl | (simp only [zld, zlt]; rfl)) ?_; (with_reducible refine (sound_Count.calls kj5 _ _ l2 a4 t114 t115 t116 _ ?side1 ?side2 A16.out).mono ?_); (case side1 => repeat (first | exact (Kd.C_below HR2.out HB.out) | (with_reducible refine Kd.C_alloc ?_ _) | (with_reducible refine Kd.C_drewN ?_ _) | (with_reducible refine Kd.C_drew ?_))); (case side2 => exact HC2.out); rintro e w53 ⟨rfl, hb⟩; refine ⟨_, rfl, ?_⟩; have n0_ := zam (Kd.R_below (by (with_reducible repeat (first | apply zRa | apply zRn | apply zRd)); exact HO105.out) hb); have n1_ := zam (Kd.R_below (by (with_reducible repeat (first | apply zRa | apply zRn | apply zRd)); exact HO109.out) hb); have n2_ := zam (zbt (by repeat (first | (with_reducible first | exact HB.out | apply zba | apply zbn | apply zb1) | exact HB.out)) hb); clear HO105; clear HO109; clear HB; have HO105 := n0_; have HO109 := n1_; have HB := n2_; clear n0_ n1_ n2_; (try clear hb); (try clear hb2); (try clear hk); (try clear hi)) | ((with_reducible refine zgd (N := 19) rfl ?_); (try (refine gate_guard (by rfl) ?_; dsimp only)); refine box_event ?hg (N := 19) ?hd (cs := #[.int .i64 0, .int .i64 0]) (t := 24) ?hr ?_; (case hd => rfl); (case hg => rfl); (case hr => first | (go_simp; done) | (go_simp; rfl)); intro gb117 hg w54 hbox hb; have n0_ := zam (Kd.R_below (by (with_reducible repeat (first | apply zRa | apply zRn | apply zRd)); exact HO105.out) hb); have n1_ := zam (Kd.R_below (by (with_reducible repeat (first | apply zRa | apply zRn | apply zRd)); exact HO109.out) hb); have n2_ := zam (zbt (by repeat (first | (with_reducible first | exact HB.out | apply zba | apply zbn | apply zb1) | exact HB.out)) hb); have n3_ := zam (hbox); have n4_ := zam ((by rw [hg]; exact (zbz (by repeat (first | (with_reducible first | exact HB.out | apply zba | apply zbn | apply zb1) | exact HB.out))) : w.heap.size ≤ gb117)); have n5_ := zam ((by rw [hg]; exact (zbz (by repeat (first | (with_reducible first | exact HB.out | apply zba | apply zbn | apply zb1) | exact HB.out))) : w.heap.size ≤ gb117)); clear HO105; clear HO109; clear HB; have HO105 := n0_; have HO109 := n1_; have HB := n2_; have BK117 := n3_; have GW117 := n4_; have GE117 := n5_; clear n0_ n1_ n2_ n3_ n4_ n5_; clear hb hbox hg; have hcz55_0 : w54.cell? ⟨gb117, 0, none⟩ = some (.int .i64 0) := (zkc BK117.out 0).trans rfl; have hcz55_1 : w54.cell? ⟨gb117, 1, none⟩ = some (.int .i64 0) := (zkc BK117.out 1).trans rfl; have hfz55_0 := zkz BK117.out 0; have hfz55_1 := zkz BK117.out 1) | ((with_reducible refine zgc (f := 45) rfl ?_); refine goesL_ (some 75) rfl rfl Try.func45 (by kernel_rfl) rfl #[.slice A2 l2.length c2, .int .i64 a4] rfl (by (try simp only [zmt, List.map_cons, List.map_nil]); first | done | rfl | (simp only [zld, zlt]; rfl)) ?_; (with_reducible refine (isobathref07_Count.calls kj5 _ _ l2 a4 t118 t119 t120 _ ?side1 ?side2 A17.out).mono ?_); (case side1 => exact Kd.C_below HR2.out (by repeat (first | (with_reducible first | exact HB.out | apply zba | apply zbn | apply zb1 | refine zbs ?_ GE117.out) | exact HB.out))); (case side2 => exact HC2.out); rintro e w56 ⟨rfl, hb⟩; refine ⟨_, rfl, ?_⟩; have n0_ := zam (Kd.R_below (by (with_reducible repeat (first | apply zRa | apply zRn | apply zRd)); exact (Kd.R_mono (Kd.R_far (p := ⟨gb117, 1, none⟩) (Kd.R_far (p := ⟨gb117, 0, none⟩) (Kd.R_types HO105.out BK117.out (by decide)) (fun _ hk => hk.2) (.int .i64 t114)) (fun _ hk => hk.2) (.int .i64 t115)) (fun _ h_ => h_.1))) hb); have n1_ := zam (Kd.R_below (by (with_reducible repeat (first | apply zRa | apply zRn | apply zRd)); exact (Kd.R_mono (Kd.R_far (p := ⟨gb117, 1, none⟩) (Kd.R_far (p := ⟨gb117, 0, none⟩) (Kd.R_types HO109.out BK117.out (by decide)) (fun _ hk => hk.2) (.int .i64 t114)) (fun _ hk => hk.2) (.int .i64 t115)) (fun _ h_ => h_.1))) hb); have n2_ := zam (zkb (g := gb117) (o := .cells #[.int .i64 t114, .int .i64 t115] 24 (0, 0)) (by (with_reducible repeat (first | refine zkn ?_ _ | refine zkd ?_ | refine zka ?_ _)); refine blk_put (cs := #[.int .i64 t114, .int .i64 0]) ?_ 1 _ rfl; (with_reducible repeat (first | refine zkn ?_ _ | refine zkd ?_ | refine zka ?_ _)); refine blk_put (cs := #[.int .i64 0, .int .i64 0]) ?_ 0 _ rfl; (with_reducible repeat (first | refine zkn ?_ _ | refine zkd ?_ | refine zka ?_ _)); exact BK117.out) hb); have n3_ := zam (zbt (by repeat (first | (with_reducible first | exact HB.out | apply zba | apply zbn | apply zb1 | refine zbs ?_ GE117.out) | exact HB.out)) hb); clear HO105; clear HO109; clear BK117; clear HB; have HO105 := n0_; have HO109 := n1_; have BK117 := n2_; have HB := n3_; clear n0_ n1_ n2_ n3_; (try clear hb); (try clear hb2); (try clear hk); (try clear hi)) | ((with_reducible refine zgd (N := 21) rfl ?_); (try (refine gate_guard (by rfl) ?_; dsimp only)); refine box_event ?hg (N := 21) ?hd (cs := #[.int .i64 0, .int .i64 0]) (t := 24) ?hr ?_; (case hd => rfl); (case hg => rfl); (case hr => first | (go_simp; done) | (go_simp; rfl)); intro gb121 hg w57 hbox hb; have n0_ := zam (Kd.R_below (by (with_reducible repeat (first | apply zRa | apply zRn | apply zRd)); exact HO105.out) hb); have n1_ := zam (Kd.R_below (by (with_reducible repeat (first | apply zRa | apply zRn | apply zRd)); exact HO109.out) hb); have n2_ := zam (zkb (g := gb117) (o := .cells #[.int .i64 t114, .int .i64 t115] 24 (0, 0)) (by (with_reducible repeat (first | refine zkn ?_ _ | refine zkd ?_ | refine zka ?_ _)); exact BK117.out) hb); have n3_ := zam (zbt (by repeat (first | (with_reducible first | exact HB.out | apply zba | apply zbn | apply zb1 | refine zbs ?_ GE117.out) | exact HB.out)) hb); have n4_ := zam (hbox); have n5_ := zam ((by rw [hg]; exact (zbz (by repeat (first | (with_reducible first | exact HB.out | apply zba | apply zbn | apply zb1 | refine zbs ?_ GE117.out) | exact HB.out))) : w.heap.size ≤ gb121)); have n6_ := zam ((by rw [hg]; exact (zbz (by repeat (first | (with_reducible first | exact HB.out | apply zba | apply zbn | apply zb1 | refine zbs ?_ GE117.out) | exact HB.out))) : w.heap.size ≤ gb121)); have n7_ := zam ((by rw [hg]; exact Nat.ne_of_lt (blk_lt (g := gb117) (o := .cells #[.int .i64 t114, .int .i64 t115] 24 (0, 0)) (by (with_reducible repeat (first | refine zkn ?_ _ | refine zkd ?_ | refine zka ?_ _)); exact BK117.out)) : gb117 ≠ gb121)); have n8_ := zam ((by rw [hg]; exact Nat.ne_of_gt (blk_lt (g := gb117) (o := .cells #[.int .i64 t114, .int .i64 t115] 24 (0, 0)) (by (with_reducible repeat (first | refine zkn ?_ _ | refine zkd ?_ | refine zka ?_ _)); exact BK117.out)) : gb121 ≠ gb117)); clear HO105; clear HO109; clear BK117; clear HB; have HO105 := n0_; have HO109 := n1_; have BK117 := n2_; have HB := n3_; have BK121 := n4_; have GW121 := n5_; have GE121 := n6_; have NB117_121 := n7_; have NB121_117 := n8_; clear n0_ n1_ n2_ n3_ n4_ n5_ n6_ n7_ n8_; clear hb hbox hg; have hnb58 := NB121_117.out; have hnc58 := NB117_121.out; have hcz59_0 : w57.cell? ⟨gb121, 0, none⟩ = some (.int .i64 0) := (zkc BK121.out 0).trans rfl; have hcz59_1 : w57.cell? ⟨gb121, 1, none⟩ = some (.int .i64 0) := (zkc BK121.out 1).trans rfl; have hfz59_0 := zkz BK121.out 0; have hfz59_1 := zkz BK121.out 1) | ((with_reducible refine zgc (f := 33) rfl ?_); refine goesL_ (some 81) rfl rfl Try.func33 (by kernel_rfl) rfl #[.slice A2 l2.length c2, .int .i64 a4] rfl (by (try simp only [zmt, List.map_cons, List.map_nil]); first | done | rfl | (simp only [zld, zlt]; rfl)) ?_; (with_reducible refine (sound_Fewest.calls kj5 _ _ l2 a4 t122 t123 _ ?side1 ?side2 A18.out).mono ?_); (case side1 => exact Kd.C_below HR2.out (by repeat (first | (with_reducible first | exact HB.out | apply zba | apply zbn | apply zb1 | refine zbs ?_ GE117.out | refine zbs ?_ GE121.out) | exact HB.out))); (case side2 => exact HC2.out); rintro e w60 ⟨v124, rfl, ho0, hb⟩; refine ⟨_, rfl, ?_⟩; have n0_ := zam (Kd.R_below (by (with_reducible repeat (first | apply zRa | apply zRn | apply zRd)); exact (Kd.R_mono (Kd.R_far (p := ⟨gb121, 1, none⟩) (Kd.R_far (p := ⟨gb121, 0, none⟩) (Kd.R_types HO105.out BK121.out (by decide)) (fun _ hk => hk.2) (.int .i64 t118)) (fun _ hk => hk.2) (.int .i64 t119)) (fun _ h_ => h_.1))) hb); have n1_ := zam (Kd.R_below (by (with_reducible repeat (first | apply zRa | apply zRn | apply zRd)); exact (Kd.R_mono (Kd.R_far (p := ⟨gb121, 1, none⟩) (Kd.R_far (p := ⟨gb121, 0, none⟩) (Kd.R_types HO109.out BK121.out (by decide)) (fun _ hk => hk.2) (.int .i64 t118)) (fun _ hk => hk.2) (.int .i64 t119)) (fun _ h_ => h_.1))) hb); have n2_ := zam (Kd.R_lower ho0 (zbz (by repeat (first | (with_reducible first | exact HB.out | apply zba | apply zbn | apply zb1 | refine zbs ?_ GE117.out | refine zbs ?_ GE121.out) | exact HB.out)))); have n3_ := zam (zkb (g := gb117) (o := .cells #[.int .i64 t114, .int .i64 t115] 24 (0, 0)) (by (with_reducible repeat (first | refine zkn ?_ _ | refine zkd ?_ | refine zka ?_ _)); refine zkf ?_ NB117_121.out _; (with_reducible repeat (first | refine zkn ?_ _ | refine zkd ?_ | refine zka ?_ _)); refine zkf ?_ NB117_121.out _; (with_reducible repeat (first | refine zkn ?_ _ | refine zkd ?_ | refine zka ?_ _)); exact BK117.out) hb); have n4_ := zam (zkb (g := gb121) (o := .cells #[.int .i64 t118, .int .i64 t119] 24 (0, 0)) (by (with_reducible repeat (first | refine zkn ?_ _ | refine zkd ?_ | refine zka ?_ _)); refine blk_put (cs := #[.int .i64 t118, .int .i64 0]) ?_ 1 _ rfl; (with_reducible repeat (first | refine zkn ?_ _ | refine zkd ?_ | refine zka ?_ _)); refine blk_put (cs := #[.int .i64 0, .int .i64 0]) ?_ 0 _ rfl; (with_reducible repeat (first | refine zkn ?_ _ | refine zkd ?_ | refine zka ?_ _)); exact BK121.out) hb); have n5_ := zam (zbt (by repeat (first | (with_reducible first | exact HB.out | apply zba | apply zbn | apply zb1 | refine zbs ?_ GE117.out | refine zbs ?_ GE121.out) | exact HB.out)) hb); clear HO105; clear HO109; clear BK117; clear BK121; clear HB; have HO105 := n0_; have HO109 := n1_; have HO125 := n2_; have BK117 := n3_; have BK121 := n4_; have HB := n5_; clear n0_ n1_ n2_ n3_ n4_ n5_; (try clear hb); (try clear hb2); (try clear hk); (try clear hi); (try clear ho0)) | ((with_reducible refine zgc (f := 34) rfl ?_); refine goesL_ (some 87) rfl rfl Try.func34 (by kernel_rfl) rfl #[.slice A2 l2.length c2, .int .i64 a4] rfl (by (try simp only [zmt, List.map_cons, List.map_nil]); first | done | rfl | (simp only [zld, zlt]; rfl)) ?_; (with_reducible refine (sound_Most.calls kj5 _ _ l2 a4 t126 t127 _ ?side1 ?side2 A19.out).mono ?_); (case side1 => repeat (first | exact (Kd.C_below HR2.out HB.out) | (with_reducible refine Kd.C_alloc ?_ _) | (with_reducible refine Kd.C_drewN ?_ _) | (with_reducible refine Kd.C_drew ?_))); (case side2 => exact HC2.out); rintro e w61 ⟨v128, rfl, ho0, hb⟩; refine ⟨_, rfl, ?_⟩; have n0_ := zam (Kd.R_below (by (with_reducible repeat (first | apply zRa | apply zRn | apply zRd)); exact HO105.out) hb); have n1_ := zam (Kd.R_below (by (with_reducible repeat (first | apply zRa | apply zRn | apply zRd)); exact HO109.out) hb); have n2_ := zam (Kd.R_elder' (by (with_reducible repeat (first | apply zRa | apply zRn | apply zRd)); exact HO125.out) (Kd.R_base ho0) hb); have n3_ := zam (Kd.R_lower (Kd.R_new' ho0 (Kd.R_lt (by (with_reducible repeat (first | apply zRa | apply zRn | apply zRd)); exact HO125.out))) (zbz (by repeat (first | (with_reducible first | exact HB.out | apply zba | apply zbn | apply zb1 | refine zbs ?_ GE117.out | refine zbs ?_ GE121.out) | exact HB.out)))); have n4_ := zam (zkb (g := gb117) (o := .cells #[.int .i64 t114, .int .i64 t115] 24 (0, 0)) (by (with_reducible repeat (first | refine zkn ?_ _ | refine zkd ?_ | refine zka ?_ _)); exact BK117.out) hb); have n5_ := zam (zkb (g := gb121) (o := .cells #[.int .i64 t118, .int .i64 t119] 24 (0, 0)) (by (with_reducible repeat (first | refine zkn ?_ _ | refine zkd ?_ | refine zka ?_ _)); exact BK121.out) hb); have n6_ := zam (zbt (by repeat (first | (with_reducible first | exact HB.out | apply zba | apply zbn | apply zb1 | refine zbs ?_ GE117.out | refine zbs ?_ GE121.out) | exact HB.out)) hb); clear HO105; clear HO109; clear HO125; clear BK117; clear BK121; clear HB; have HO105 := n0_; have HO109 := n1_; have HO125 := n2_; have HO129 := n3_; have BK117 := n4_; have BK121 := n5_; have HB := n6_; clear n0_ n1_ n2_ n3_ n4_ n5_ n6_; (try clear hb); (try clear hb2); (try clear hk); (try clear hi); (try clear ho0)) | ((with_reducible refine zgc (f := 31) rfl ?_); refine goesL_ (some 92) rfl rfl Try.func31 (by kernel_rfl) rfl #[.slice A2 l2.length c2, .int .i64 a4] rfl (by (try simp only [zmt, List.map_cons, List.map_nil]); first | done | rfl | (simp only [zld, zlt]; rfl)) ?_; (with_reducible refine (isobathref07_Choice.calls kj5 _ _ l2 a4 t130 _ ?side1 ?side2 A20.out).mono ?_); (case side1 => repeat (first | exact (Kd.C_below HR2.out HB.out) | (with_reducible refine Kd.C_alloc ?_ _) | (with_reducible refine Kd.C_drewN ?_ _) | (with_reducible refine Kd.C_drew ?_))); (case side2 => exact HC2.out); rintro e w' ⟨rfl, ⟨nd, rfl⟩⟩; refine ⟨_, rfl, ?_⟩; obtain ⟨Ao62, co62, eo62⟩ := Kd.R_slice HO105.out; subst eo62; obtain ⟨Ao63, co63, eo63⟩ := Kd.R_slice HO109.out; subst eo63) | ((with_reducible refine zgc (f := 46) rfl ?_); refine goesL_ (some 95) rfl rfl Try.func46 (by kernel_rfl) rfl #[.slice Ao62 t102.length co62, .slice Ao63 t106.length co63] rfl (by (try simp only [zmt, List.map_cons, List.map_nil]); first | done | rfl | (simp only [zld, zlt]; rfl)) ?_; (with_reducible refine (isobathlaw07_sameAnswers.calls kj5 _ _ t102 _ _ t106 true _ ?side1 ?side2 ?side3 ?side4 A21.out).mono ?_); (case side1 => repeat (first | exact (Kd.R_reads' HO105.out).2.2 | (with_reducible refine Kd.C_alloc ?_ _) | (with_reducible refine Kd.C_drewN ?_ _) | (with_reducible refine Kd.C_drew ?_))); (case side2 => exact (Kd.R_reads' HO105.out).2.1); (case side3 => repeat (first | exact (Kd.R_reads' HO109.out).2.2 | (with_reducible refine Kd.C_alloc ?_ _) | (with_reducible refine Kd.C_drewN ?_ _) | (with_reducible refine Kd.C_drew ?_))); (case side4 => exact (Kd.R_reads' HO109.out).2.1); rintro e w' ⟨rfl, ⟨nd, rfl⟩⟩; refine ⟨_, rfl, ?_⟩; have hcz64_0 : w61.cell? ⟨gb117, 0, none⟩ = some (.int .i64 t114) := (zkc BK117.out 0).trans rfl; have hcz64_1 : w61.cell? ⟨gb117, 1, none⟩ = some (.int .i64 t115) := (zkc BK117.out 1).trans rfl; have hfz64_0 := zkz BK117.out 0; have hfz64_1 := zkz BK117.out 1; have hcz65_0 : w61.cell? ⟨gb121, 0, none⟩ = some (.int .i64 t118) := (zkc BK121.out 0).trans rfl; have hcz65_1 : w61.cell? ⟨gb121, 1, none⟩ = some (.int .i64 t119) := (zkc BK121.out 1).trans rfl; have hfz65_0 := zkz BK121.out 0; have hfz65_1 := zkz BK121.out 1; obtain ⟨Ao66, co66, eo66⟩ := Kd.R_slice HO125.out; subst eo66; obtain ⟨Ao67, co67, eo67⟩ := Kd.R_slice HO129.out; subst eo67) | (go_at_call 14; (with_reducible refine (isobathlaw07_Works.calls kj5  t133 _ A50.out).mono ?_); rintro e w68 ⟨rfl, hb⟩; have n0_ := zam (Kd.R_below (by (with_reducible repeat (first | apply zRa | apply zRn | apply zRd)); exact HO105.out) hb); have n1_ := zam (Kd.R_below (by (with_reducible repeat (first | apply zRa | apply zRn | apply zRd)); exact HO109.out) hb); have n2_ := zam (Kd.R_below (by (with_reducible repeat (first | apply zRa | apply zRn | apply zRd)); exact HO125.out) hb); have n3_ := zam (Kd.R_below (by (with_reducible repeat (first | apply zRa | apply zRn | apply zRd)); exact HO129.out) hb); have n4_ := zam (zkb (g := gb117) (o := .cells #[.int .i64 t114, .int .i64 t115] 24 (0, 0)) (by (with_reducible repeat (first | refine zkn ?_ _ | refine zkd ?_ | refine zka ?_ _)); exact BK117.out) hb); have n5_ := zam (zkb (g := gb121) (o := .cells #[.int .i64 t118, .int .i64 t119] 24 (0, 0)) (by (with_reducible repeat (first | refine zkn ?_ _ | refine zkd ?_ | refine zka ?_ _)); exact BK121.out) hb); have n6_ := zam (zbt (by repeat (first | (with_reducible first | exact HB.out | apply zba | apply zbn | apply zb1 | refine zbs ?_ GE117.out | refine zbs ?_ GE121.out) | exact HB.out)) hb); clear HO105; clear HO109; clear HO125; clear HO129; clear BK117; clear BK121; clear HB; have HO105 := n0_; have HO109 := n1_; have HO125 := n2_; have HO129 := n3_; have BK117 := n4_; have BK121 := n5_; have HB := n6_; clear n0_ n1_ n2_ n3_ n4_ n5_ n6_; (try clear hb); (try clear hb2); (try clear hk); (try clear hi)))
             go_ret
             exact ⟨by first | rfl | (simp [errW_none, errW_some] <;> rfl) | (simp [*, errW_none, errW_some] <;> rfl), by repeat (first | (with_reducible first | exact HB.out | apply zba | apply zbn | apply zb1 | refine zbs ?_ GE117.out | refine zbs ?_ GE121.out) | exact HB.out)⟩
            rw [if_neg c49] at H
            exact absurd H (by simp)
           rw [if_neg c48] at H
           exact absurd H (by simp)
          rw [if_neg c29] at H
          exact absurd H (by simp)
         rw [if_neg c28] at H
         exact absurd H (by simp)
        rw [if_neg c27] at H
        exact absurd H (by simp)
       rw [if_neg c26] at H
       exact absurd H (by simp)
      rw [if_neg c25] at H
      exact absurd H (by simp)
     rw [if_neg c24] at H
     exact absurd H (by simp)
    rw [if_neg c23] at H
    exact absurd H (by simp)
   replace c22 := Bool.eq_false_iff.mpr c22
   subst c22
   have H1 : (none) = some r := by rw [if_neg (show ¬ (false = true) by decide)] at H; exact H
   clear H
   have H := H1
   clear H1
   exact absurd H (by simp)
end Go.Proofs.Ytaheamdoldiojaa.P
namespace Go.Proofs.Ytaheamdoldiojaa.P
open Go.RowKit Go.Proofs.YtaheamdoldiojaaW.PrintWords Go.Proofs.YtaheamdoldiojaaW.PrintLast Go.Proofs.YtaheamdoldiojaaW.PrintMore
namespace soundCounts
open Go.ChangeShapes Go.WideShapes Go.ChangeAt
set_option linter.unusedVariables false
set_option linter.unusedSimpArgs false
def B24 (x : S24) : Prop := (fun n : Int => (Lit.int .i64 n).wf = true) x.f0 ∧ (fun n : Int => (Lit.int .i64 n).wf = true) x.f1
theorem opens24 : Opens Try.prog 24 k24 B24 := Opens.struct (fs := _) Try.underlying24 (fun x : S24 => (x.f0, x.f1)) (fun t => ⟨t.1, t.2⟩) (fun _ => rfl) (OpensF.cons rfl (by kernel_rfl) (Opens.int Try.underlying2) (OpensF.last rfl (by kernel_rfl) (Opens.int Try.underlying2)))
def Pure : Prop := ∀ (x0 : (List S24)) (x1 : Int) (x2 : (List Int)) (x3 : (List Bool)) (x4 : Int), (fun xs : List S24 => xs.length ≤ 9223372036854775807 ∧ ∀ x ∈ xs, B24 x) x0 → (fun n : Int => (Lit.int .i64 n).wf = true) x1 → (fun xs : List Int => xs.length ≤ 9223372036854775807 ∧ ∀ x ∈ xs, (fun n : Int => (Lit.int .i64 n).wf = true) x) x2 → (fun xs : List Bool => xs.length ≤ 9223372036854775807 ∧ ∀ x ∈ xs, (fun _ : Bool => True) x) x3 → (fun n : Int => (Lit.int .i64 n).wf = true) x4 → ∃ k, isobathlaw07_SoundCounts.f k x0 x1 x2 x3 x4 = some true
theorem own : ownKnob Try.prog.godebug = none := by kernel_rfl
theorem laidOut : laidOutB Try.prog = true := by kernel_rfl
set_option maxRecDepth 100000 in
theorem lifted (hP : Pure) (os : Os) (started : os.Started) (H : Type) (enc : TypeId × Value → H) :
  ReturnsInHanded {} Try.checked os 10 .any (Rows.soundCountsSpec.pre6 enc Try.prog Try.f10 Rows.soundCountsRow.domain false) (Rows.soundCountsSpec.post enc Try.prog Try.f10 false true false false) := by
 refine returnsInHanded_of_change_sized (C := Try.checked) own started (by kernel_rfl) Try.func10
  (ChangeSpec.witness6 (enc := enc) (C := Try.checked) false ⟨#[], #[.slice none 0 0, .int .i64 0, .slice none 0 0, .slice none 0 0, .int .i64 0], []⟩ 8 (by kernel_rfl) (by kernel_rfl) (by kernel_rfl) (by kernel_rfl)) ?_
 intro W base args ds gs before hval0 hW hcnd hsz0 _
 have hval : ∀ (j : Nat) t v, Try.f10.params[j]? = some t → args[j]? = some v → Value.okWide Try.prog W .any base t v := hval0
 have hW' := hW
 obtain ⟨p, q, hA0, hV, rfl, hfz, hnd⟩ := hW
 have hA : DataW.TrodAll enc Try.prog W 0 (fun _ => true) true Try.f10.params.toList args.toList ds p := hA0
 rw [Try.params10] at hA hval
 obtain ⟨v0, vs0, d0, ds0, p0, q0, hargs, rfl, rfl, h0, r0⟩ := trodAll_cons hA
 obtain ⟨v1, vs1, d1, ds1, p1, q1, rfl, rfl, rfl, h1, r1⟩ := trodAll_cons r0
 obtain ⟨v2, vs2, d2, ds2, p2, q2, rfl, rfl, rfl, h2, r2⟩ := trodAll_cons r1
 obtain ⟨v3, vs3, d3, ds3, p3, q3, rfl, rfl, rfl, h3, r3⟩ := trodAll_cons r2
 obtain ⟨v4, vs4, d4, ds4, p4, q4, rfl, rfl, rfl, h4, r4⟩ := trodAll_cons r3
 obtain ⟨rfl, rfl, rfl⟩ := trodAll_nil r4
 obtain rfl : args = #[v0, v1, v2, v3, v4] := by cases args; simp_all
 obtain ⟨rfl, rfl⟩ := trodVars_none hV
 have k0 := h0
 have lt0 : ∀ x ∈ p0, x.block < W.heap.size := by obtain ⟨m, hm⟩ := k0; exact DataW.trod_lt m _ _ _ hm
 obtain ⟨m0, hm0⟩ := h0
 obtain ⟨x0, hk0, w0⟩ := Opens.run (Opens.slice Try.underlying27 (by kernel_rfl) opens24) hm0
 obtain ⟨a0, len0, cap0, rfl⟩ := okWide_slice Try.underlying27 (hval 0 27 v0 rfl rfl)
 obtain ⟨A0, c0, hcs0, hc0, hr0⟩ := hk0
 simp [Value.cells] at hcs0
 obtain ⟨rfl, rfl, rfl⟩ := hcs0
 obtain ⟨x1, rfl, rfl, rfl, w1⟩ := open_int Try.underlying2 (hval 1 2 v1 rfl rfl) h1
 have k2 := h2
 have lt2 : ∀ x ∈ p2, x.block < W.heap.size := by obtain ⟨m, hm⟩ := k2; exact DataW.trod_lt m _ _ _ hm
 obtain ⟨m2, hm2⟩ := h2
 obtain ⟨x2, hk2, w2⟩ := Opens.run (Opens.slice Try.underlying66 (by kernel_rfl) (Opens.int Try.underlying50)) hm2
 obtain ⟨a2, len2, cap2, rfl⟩ := okWide_slice Try.underlying66 (hval 2 66 v2 rfl rfl)
 obtain ⟨A2, c2, hcs2, hc2, hr2⟩ := hk2
 simp [Value.cells] at hcs2
 obtain ⟨rfl, rfl, rfl⟩ := hcs2
 have k3 := h3
 have lt3 : ∀ x ∈ p3, x.block < W.heap.size := by obtain ⟨m, hm⟩ := k3; exact DataW.trod_lt m _ _ _ hm
 obtain ⟨m3, hm3⟩ := h3
 obtain ⟨x3, hk3, w3⟩ := Opens.run (Opens.slice Try.underlying71 (by kernel_rfl) (Opens.bool Try.underlying4)) hm3
 obtain ⟨a3, len3, cap3, rfl⟩ := okWide_slice Try.underlying71 (hval 3 71 v3 rfl rfl)
 obtain ⟨A3, c3, hcs3, hc3, hr3⟩ := hk3
 simp [Value.cells] at hcs3
 obtain ⟨rfl, rfl, rfl⟩ := hcs3
 obtain ⟨x4, rfl, rfl, rfl, w4⟩ := open_int Try.underlying3 (hval 4 3 v4 rfl rfl) h4
 clear hA0 hval0 hsz0
 obtain ⟨k, hf⟩ := hP x0 x1 x2 x3 x4 w0 w1 w2 w3 w4
 refine (isobathlaw07_SoundCounts.calls (k := k) (A0 := a0) (c0 := cap0) (l0 := x0) (a1 := x1) (A2 := a2) (c2 := cap2) (l2 := x2) (A3 := a3) (c3 := cap3) (l3 := x3) (a4 := x4) (r := true) (w := W) (hr0 := hr0) (hc0 := hc0) (hr2 := hr2) (hc2 := hc2) (hr3 := hr3) (hc3 := hc3) (h := hf)).mono fun e W' ⟨he, hd⟩ => ?_
 have bel : Below W.heap.size W W' := by first | exact hd | (obtain ⟨m, rfl⟩ := hd; exact zbn (Below.refl _ _) m)
 subst he
 exact ⟨_, rfl, _, _, _, [], _, [], hW', trodAll_mk1 (shut_bool Try.underlying4 _), (trodAll_cons_mk (Below.trod laidOut (by kernel_rfl) (zod (by kernel_rfl)) k0 bel lt0) (trodAll_cons_mk (shut_int Try.underlying2 w1) (trodAll_cons_mk (Below.trod laidOut (by kernel_rfl) (zod (by kernel_rfl)) k2 bel lt2) (trodAll_cons_mk (Below.trod laidOut (by kernel_rfl) (zod (by kernel_rfl)) k3 bel lt3) (trodAll_cons_mk (shut_int Try.underlying3 w4) trodAll_mk0))))), rfl, bel.frame _, fun h => by cases h⟩
theorem over (hP : Pure) : Rows.soundCountsRow.holds Try.pinned (OpenSpec.ofChange Rows.soundCountsSpec) :=
 OpenClaim.holds_of_wide 10 Try.f10 rfl rfl rfl rfl rfl rfl rfl ⟨rfl, rfl, rfl, rfl, rfl⟩ rfl rfl rfl rfl rfl (by kernel_rfl) Try.func10 (by kernel_rfl)
  (zod (by kernel_rfl)) (by unfold Func.isWrapper; first | (rw [if_pos (by decide +kernel)]; kernel_rfl) | (rw [if_neg (by decide +kernel)]; exact ⟨rfl, rfl⟩))
  (fun os started H enc _ => lifted hP os started H enc)
theorem proved (hP : Pure) : Rows.SoundCountsSaid := over hP
end soundCounts
end Go.Proofs.Ytaheamdoldiojaa.P
namespace Go.Proofs.Ytaheamdoldiojaa.P
open Go.RowKit Go.Proofs.YtaheamdoldiojaaW.PrintWords Go.Proofs.YtaheamdoldiojaaW.PrintLast Go.Proofs.YtaheamdoldiojaaW.PrintMore
attribute [local go_sem] max2_int min2_int max_two min_two max_three min_three max_four min_four   -- for this text's walks alone
set_option linter.unusedVariables false
set_option linter.unusedSimpArgs false
theorem Sp.same_l0 (xs : List Int) (hl : xs.length ≤ 9223372036854775807) : ∀ (n k i : Nat), i + n = xs.length → n < k → isobathlaw07_sameAnswers.l0 k xs xs (i : Int) = some true
 | 0, k, i, hi, hk => by
  obtain ⟨k, rfl⟩ : ∃ m, k = m + 1 := ⟨k - 1, by omega⟩
  rw [isobathlaw07_sameAnswers.l0, if_neg (by omega)]
 | n + 1, k, i, hi, hk => by
  obtain ⟨k, rfl⟩ : ∃ m, k = m + 1 := ⟨k - 1, by omega⟩
  have hlt : i < xs.length := by omega
  rw [isobathlaw07_sameAnswers.l0, if_pos (by omega), if_pos (by omega), if_pos (by omega), if_pos rfl, wrap_succ hlt hl]
  exact Sp.same_l0 xs hl n k (i + 1) (by omega) (by omega)
theorem Sp.same (xs : List Int) {k : Nat} (hl : xs.length ≤ 256) (hk : 300 ≤ k) : isobathlaw07_sameAnswers.f k xs xs = some true := by
 unfold isobathlaw07_sameAnswers.f
 rw [if_pos rfl]
 exact Sp.same_l0 xs (by omega) xs.length k 0 (by omega) (by omega)
theorem Sp.loud_len (l : List S24) (h : Int) : (Sp.loud l h).1.length ≤ 256 := by
 unfold Sp.loud
 split
 ·next hc =>
  split
  ·simp [(Sp.track_ok hc).1]
  simp
 simp
theorem Sp.counts (l : List S24) (h : Int) (a : List Int) (c : List Bool) (n : Int) : ∃ k, isobathlaw07_SoundCounts.f k l h a c n = some true := by
 obtain ⟨k, hk⟩ : ∃ k : Nat, 140000 ≤ k := ⟨140000, Nat.le.refl⟩
 have hW := Sp.works (k := k) (by omega)
 have bad : isobathlaw07_SoundCounts.j0 (k + 1) l h a c n true = some true := by
  rw [isobathlaw07_SoundCounts.j0, if_pos rfl, hW]
  rfl
 refine ⟨k + 1, ?_⟩
 unfold isobathlaw07_SoundCounts.f
 by_cases h1 : (l.length : Int) > 300
 ·rw [if_pos h1, bad]
 rw [if_neg h1]
 by_cases h2 : (a.length : Int) > 300
 ·rw [if_pos h2, bad]
 rw [if_neg h2]
 by_cases h3 : (c.length : Int) > 300
 ·rw [zdt h3, bad]
 rw [zdf h3, isobathlaw07_SoundCounts.j0, if_neg (by decide)]
 obtain ⟨b1, e1, _, e2⟩ := Sp.fewest_b a n (k := k) (by omega)
 obtain ⟨b2, e3, _, e4⟩ := Sp.most_b a n (k := k) (by omega)
 rw [Sp.loud_b l h (by omega), Sp.loud_r l h (by omega), Sp.calls_b c n (by omega), Sp.calls_r c n (by omega), Sp.count_b a n (by omega), Sp.count_r a n hk, e1, e3, Sp.choice_r a n (by omega)]
 simp only [Option.bind_some]
 rw [Sp.same _ (Sp.loud_len l h) (by omega)]
 simp only [Option.bind_some, if_true, beq_self_eq_true, Bool.and_self]
 have hce : (Sp.count a n).2.2 = Sp.ans a n := by
  unfold Sp.count
  split
  ·next hh => exact hh.symm
  rfl
 by_cases hz : Sp.ans a n = 0
 ·rw [if_pos hz, hW]
  rfl
 rw [if_neg hz, e2 hz, e4 hz, hW]
 rfl
theorem soundCounts_holds : Rows.SoundCountsSaid := soundCounts.proved fun l h a c n _ _ _ _ _ => Sp.counts l h a c n
#print axioms soundCounts_holds
end Go.Proofs.Ytaheamdoldiojaa.P
