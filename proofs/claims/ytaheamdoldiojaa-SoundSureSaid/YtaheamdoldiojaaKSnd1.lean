/- .. Part 2 of 5. -/
-- Put together by wip/tools/shake.py, a program of this work: out of the words that the kit's print tool (print.sh) writes for a claim and what wip/tools/xprint.py prints, those that this claim reaches, and this work's own texts.
import Derived.Test.YtaheamdoldiojaaKSnd0
namespace Go.Proofs.Ytaheamdoldiojaa.P
open Go.RowKit Go.Proofs.YtaheamdoldiojaaW.PrintWords Go.Proofs.YtaheamdoldiojaaW.PrintLast Go.Proofs.YtaheamdoldiojaaW.PrintMore
attribute [local go_sem] max2_int min2_int max_two min_two max_three min_three max_four min_four   -- for this text's walks alone
set_option linter.unusedVariables false
set_option linter.unusedSimpArgs false
def sound_checkAnswers_1.f (a0 : Int) : Option (Bool) := if a0 < 0 then (some true) else (some (decide (a0 > 2)))
set_option maxHeartbeats 8000000 in
set_option maxRecDepth 100000 in
theorem sound_checkAnswers_1.calls (a0 : Int) (r : Bool) (w : World) (h : sound_checkAnswers_1.f a0 = some r) :
  Calls Try.prog 111 #[.int .i64 a0] w fun e w' => e = .returned (.bool r) ∧ Drawn0 w w' := by
 have H : (if a0 < 0 then (some true) else (some (decide (a0 > 2)))) = some r := h
 clear h
 by_cases c2 : a0 < 0
 ·rw [if_pos c2] at H
  have c2b0 : decide (a0 < 0) = true := zdt c2
  clear c2
  obtain rfl := zsi H
  go_enter Try.func111, Try.ntmps111
  go_wp2
  go_ret
  exact ⟨by first | rfl | (simp; done) | (simp [*]; done), by repeat (first | exact Drawn0.refl _ | apply Drawn0.step)⟩
 rw [if_neg c2] at H
 have c2b0 : decide (a0 < 0) = false := zdf c2
 clear c2
 obtain rfl := zsi H
 go_enter Try.func111, Try.ntmps111
 go_wp2
 go_ret
 exact ⟨by first | rfl | (simp; done) | (simp [*]; done), by repeat (first | exact Drawn0.refl _ | apply Drawn0.step)⟩
def slices_IndexFunc_Answer_sound_checkAnswers_1.l0 : Nat → List Int → Int → Int → Option (Int)
 | 0, _, _, _ => none
 | k + 1, x0, x7, x8 => if x8 < x7 then (if 0 ≤ x8 then (if x8 < (x0.length : Int) then ((sound_checkAnswers_1.f (rd x0 x8)).bind fun t102 => (if t102 = true then (some x8) else (slices_IndexFunc_Answer_sound_checkAnswers_1.l0 k x0 x7 (wrap64 (x8 + 1))))) else (none)) else (none)) else (some (-1))
def slices_IndexFunc_Answer_sound_checkAnswers_1.f (k : Nat) (l0 : List Int)  : Option (Int) := slices_IndexFunc_Answer_sound_checkAnswers_1.l0 k l0 (l0.length : Int) 0
set_option maxHeartbeats 8000000 in
set_option maxRecDepth 100000 in
theorem slices_IndexFunc_Answer_sound_checkAnswers_1.calls (k : Nat) (A0 : Option Addr) (c0 : Nat) (l0 : List Int)  (r : Int) (w : World) (hr0 : Kd.C (Kd.int .i64) w A0 l0.length l0) (hc0 : l0.length ≤ c0) (h : slices_IndexFunc_Answer_sound_checkAnswers_1.f k l0 = some r) :
  Calls Try.prog 64 #[.slice A0 l0.length c0, .func (.func 111) #[] #[]] w fun e w' => e = .returned (.int .i64 r) ∧ Drawn0 w w' := by
 have HR0 := zam hr0
 have HC0 := zam hc0
 clear hr0 hc0
 have H : (slices_IndexFunc_Answer_sound_checkAnswers_1.l0 k l0 (l0.length : Int) 0) = some r := h
 clear h
 have H' := zam H
 clear H
 go_enter Try.func64, Try.ntmps64
 go_wp2
 go_loopg [8] k (fun kq v8 w' => ∃ (x8_1 : Int), v8 = .int .i64 x8_1 ∧ Aside0 (slices_IndexFunc_Answer_sound_checkAnswers_1.l0 kq l0 (l0.length : Int) x8_1 = some r) ∧ Aside0 (kq ≤ k) ∧ Drawn0 w w')
 case atStart => exact ⟨(0), (by first | rfl | (simp; done) | (simp [*]; done)), H', ⟨Nat.le_refl _⟩, by repeat (first | exact Drawn0.refl _ | apply Drawn0.step)⟩
 case round =>
  clear H'
  try clear p2
  obtain ⟨x8_1, rfl, HA, HK1, ⟨m1, rfl⟩⟩ := hrel
  cases gk with
  | zero => exact absurd HA.out (by simp [slices_IndexFunc_Answer_sound_checkAnswers_1.l0])
  | succ k1 =>
   have H := HA.out
   clear HA
   simp only [slices_IndexFunc_Answer_sound_checkAnswers_1.l0] at H
   by_cases c3 : x8_1 < (l0.length : Int)
   ·rw [if_pos c3] at H
    have c3b0 : decide (x8_1 < (l0.length : Int)) = true := zdt c3
    clear c3
    by_cases c4 : 0 ≤ x8_1
    ·rw [if_pos c4] at H
     have c4b0 : decide (0 ≤ x8_1) = true := zdt c4
     clear c4
     by_cases c5 : x8_1 < (l0.length : Int)
     ·rw [if_pos c5] at H
      have c5b0 : decide (x8_1 < (l0.length : Int)) = true := zdt c5
      clear c5
      replace H := Option.bind_eq_some_iff.mp H
      obtain ⟨t102, A60, H⟩ := H
      replace H : (if t102 = true then (some x8_1) else (slices_IndexFunc_Answer_sound_checkAnswers_1.l0 k1 l0 (l0.length : Int) (wrap64 (x8_1 + 1)))) = some r := H
      have A6 := zam A60
      clear A60
      by_cases c7 : t102 = true
      ·subst c7
       have H1 : (some x8_1) = some r := by rw [if_pos rfl] at H; exact H
       clear H
       have H := H1
       clear H1
       obtain rfl := zsi H
       have p101 : 0 ≤ (x8_1 : Int) := zod (by first | (with_reducible assumption) | assumption)
       have q101 : x8_1 < (l0.length : Int) := zod (by first | (with_reducible assumption) | assumption)
       obtain ⟨ad101, e101, hx101_0⟩ := Kd.at_int HR0.out x8_1 p101 q101
       cases e101
       replace p101 := eq_true p101
       replace q101 := eq_true q101
       go_wp2_with (first | (go_at_call 111; (with_reducible refine (sound_checkAnswers_1.calls (rd l0 x8_1) true _ A6.out).mono ?_); rintro e w' ⟨rfl, ⟨nd, rfl⟩⟩))
       go_ret
       exact ⟨by first | rfl | (simp; done) | (simp [*]; done), by repeat (first | exact Drawn0.refl _ | apply Drawn0.step)⟩
      replace c7 := Bool.eq_false_iff.mpr c7
      subst c7
      have H1 : (slices_IndexFunc_Answer_sound_checkAnswers_1.l0 k1 l0 (l0.length : Int) (wrap64 (x8_1 + 1))) = some r := by rw [if_neg (show ¬ (false = true) by decide)] at H; exact H
      clear H
      have H := H1
      clear H1
      have H' := zam H
      clear H
      have p101 : 0 ≤ (x8_1 : Int) := zod (by first | (with_reducible assumption) | assumption)
      have q101 : x8_1 < (l0.length : Int) := zod (by first | (with_reducible assumption) | assumption)
      obtain ⟨ad101, e101, hx101_0⟩ := Kd.at_int HR0.out x8_1 p101 q101
      cases e101
      replace p101 := eq_true p101
      replace q101 := eq_true q101
      go_wp2_with (first | (go_at_call 111; (with_reducible refine (sound_checkAnswers_1.calls (rd l0 x8_1) false _ A6.out).mono ?_); rintro e w' ⟨rfl, ⟨nd, rfl⟩⟩))
      go_roundg k1
      case measure => have := HK1.out; omega
      case rel => exact ⟨(wrap64 (x8_1 + 1)), (by first | rfl | (simp; done) | (simp [*]; done)), H', ⟨by have := HK1.out; omega⟩, by repeat (first | exact Drawn0.refl _ | apply Drawn0.step)⟩
     rw [if_neg c5] at H
     exact absurd H (by simp)
    rw [if_neg c4] at H
    exact absurd H (by simp)
   rw [if_neg c3] at H
   have c3b0 : decide (x8_1 < (l0.length : Int)) = false := zdf c3
   clear c3
   obtain rfl := zsi H
   go_wp2
   go_ret
   exact ⟨by first | rfl | (simp; done) | (simp [*]; done), by repeat (first | exact Drawn0.refl _ | apply Drawn0.step)⟩
def slices_ContainsFunc_Answer_sound_checkAnswers_1.f (k : Nat) (l0 : List Int)  : Option (Bool) := (slices_IndexFunc_Answer_sound_checkAnswers_1.f k l0).bind fun t101 => (some (decide (t101 ≥ 0)))
set_option maxHeartbeats 8000000 in
set_option maxRecDepth 100000 in
theorem slices_ContainsFunc_Answer_sound_checkAnswers_1.calls (k : Nat) (A0 : Option Addr) (c0 : Nat) (l0 : List Int)  (r : Bool) (w : World) (hr0 : Kd.C (Kd.int .i64) w A0 l0.length l0) (hc0 : l0.length ≤ c0) (h : slices_ContainsFunc_Answer_sound_checkAnswers_1.f k l0 = some r) :
  Calls Try.prog 110 #[.slice A0 l0.length c0, .func (.func 111) #[] #[]] w fun e w' => e = .returned (.bool r) ∧ Drawn0 w w' := by
 have HR0 := zam hr0
 have HC0 := zam hc0
 clear hr0 hc0
 have H : ((slices_IndexFunc_Answer_sound_checkAnswers_1.f k l0).bind fun t101 => (some (decide (t101 ≥ 0)))) = some r := h
 clear h
 replace H := Option.bind_eq_some_iff.mp H
 obtain ⟨t101, A30, H⟩ := H
 replace H : (some (decide (t101 ≥ 0))) = some r := H
 have A3 := zam A30
 clear A30
 obtain rfl := zsi H
 go_enter Try.func110, Try.ntmps110
 go_wp2_with (first | ((with_reducible refine zgc (f := 64) rfl ?_); refine goesL_ (some 7) rfl rfl Try.func64 (by kernel_rfl) rfl #[.slice A0 l0.length c0, .func (.func 111) #[] #[]] rfl (by (try simp only [zmt, List.map_cons, List.map_nil]); first | done | rfl | (simp only [zld, zlt]; rfl)) ?_; (with_reducible refine (slices_IndexFunc_Answer_sound_checkAnswers_1.calls k _ _ l0  t101 _ ?side1 ?side2 A3.out).mono ?_); (case side1 => repeat (first | exact HR0.out | (with_reducible refine Kd.C_alloc ?_ _) | (with_reducible refine Kd.C_drewN ?_ _) | (with_reducible refine Kd.C_drew ?_))); (case side2 => exact HC0.out); rintro e w' ⟨rfl, ⟨nd, rfl⟩⟩; refine ⟨_, rfl, ?_⟩))
 go_ret
 exact ⟨by first | rfl | (simp; done) | (simp [*]; done), by repeat (first | exact Drawn0.refl _ | apply Drawn0.step)⟩
def sound_checkAnswers.f (k : Nat) (l0 : List Int) (a1 : Int) : Option (Int) := if (l0.length : Int) > 256 then (some 6) else ((slices_ContainsFunc_Answer_sound_checkAnswers_1.f k l0).bind fun t101 => (if t101 = true then (some 2) else (if a1 < 1 then (some 3) else (if a1 > 256 then (some 3) else (some 0)))))
set_option maxHeartbeats 8000000 in
set_option maxRecDepth 100000 in
theorem sound_checkAnswers.calls (k : Nat) (A0 : Option Addr) (c0 : Nat) (l0 : List Int) (a1 : Int) (r : Int) (w : World) (hr0 : Kd.C (Kd.int .i64) w A0 l0.length l0) (hc0 : l0.length ≤ c0) (h : sound_checkAnswers.f k l0 a1 = some r) :
  Calls Try.prog 73 #[.slice A0 l0.length c0, .int .i64 a1] w fun e w' => e = .returned (.int .i64 r) ∧ Drawn0 w w' := by
 have HR0 := zam hr0
 have HC0 := zam hc0
 clear hr0 hc0
 have H : (if (l0.length : Int) > 256 then (some 6) else ((slices_ContainsFunc_Answer_sound_checkAnswers_1.f k l0).bind fun t101 => (if t101 = true then (some 2) else (if a1 < 1 then (some 3) else (if a1 > 256 then (some 3) else (some 0)))))) = some r := h
 clear h
 by_cases c3 : (l0.length : Int) > 256
 ·rw [if_pos c3] at H
  have c3b0 : decide (256 < (l0.length : Int)) = true := zdt c3
  have c3b1 : decide (256 < l0.length) = true := zdt (by omega)
  clear c3
  obtain rfl := zsi H
  go_enter Try.func73, Try.ntmps73
  go_wp2
  go_ret
  exact ⟨by first | rfl | (simp; done) | (simp [*]; done), by repeat (first | exact Drawn0.refl _ | apply Drawn0.step)⟩
 rw [if_neg c3] at H
 have c3b0 : decide (256 < (l0.length : Int)) = false := zdf c3
 have c3b1 : decide (256 < l0.length) = false := zdf (by omega)
 clear c3
 replace H := Option.bind_eq_some_iff.mp H
 obtain ⟨t101, A40, H⟩ := H
 replace H : (if t101 = true then (some 2) else (if a1 < 1 then (some 3) else (if a1 > 256 then (some 3) else (some 0)))) = some r := H
 have A4 := zam A40
 clear A40
 by_cases c5 : t101 = true
 ·subst c5
  have H1 : (some 2) = some r := by rw [if_pos rfl] at H; exact H
  clear H
  have H := H1
  clear H1
  obtain rfl := zsi H
  go_enter Try.func73, Try.ntmps73
  go_wp2_with (first | ((with_reducible refine zgc (f := 110) rfl ?_); refine goesL_ (some 11) rfl rfl Try.func110 (by kernel_rfl) rfl #[.slice A0 l0.length c0, .func (.func 111) #[] #[]] rfl (by (try simp only [zmt, List.map_cons, List.map_nil]); first | done | rfl | (simp only [zld, zlt]; rfl)) ?_; (with_reducible refine (slices_ContainsFunc_Answer_sound_checkAnswers_1.calls k _ _ l0  true _ ?side1 ?side2 A4.out).mono ?_); (case side1 => repeat (first | exact HR0.out | (with_reducible refine Kd.C_alloc ?_ _) | (with_reducible refine Kd.C_drewN ?_ _) | (with_reducible refine Kd.C_drew ?_))); (case side2 => exact HC0.out); rintro e w' ⟨rfl, ⟨nd, rfl⟩⟩; refine ⟨_, rfl, ?_⟩))
  go_ret
  exact ⟨by first | rfl | (simp; done) | (simp [*]; done), by repeat (first | exact Drawn0.refl _ | apply Drawn0.step)⟩
 replace c5 := Bool.eq_false_iff.mpr c5
 subst c5
 have H1 : (if a1 < 1 then (some 3) else (if a1 > 256 then (some 3) else (some 0))) = some r := by rw [if_neg (show ¬ (false = true) by decide)] at H; exact H
 clear H
 have H := H1
 clear H1
 by_cases c6 : a1 < 1
 ·rw [if_pos c6] at H
  have c6b0 : decide (a1 < 1) = true := zdt c6
  clear c6
  obtain rfl := zsi H
  go_enter Try.func73, Try.ntmps73
  go_wp2_with (first | ((with_reducible refine zgc (f := 110) rfl ?_); refine goesL_ (some 11) rfl rfl Try.func110 (by kernel_rfl) rfl #[.slice A0 l0.length c0, .func (.func 111) #[] #[]] rfl (by (try simp only [zmt, List.map_cons, List.map_nil]); first | done | rfl | (simp only [zld, zlt]; rfl)) ?_; (with_reducible refine (slices_ContainsFunc_Answer_sound_checkAnswers_1.calls k _ _ l0  false _ ?side1 ?side2 A4.out).mono ?_); (case side1 => repeat (first | exact HR0.out | (with_reducible refine Kd.C_alloc ?_ _) | (with_reducible refine Kd.C_drewN ?_ _) | (with_reducible refine Kd.C_drew ?_))); (case side2 => exact HC0.out); rintro e w' ⟨rfl, ⟨nd, rfl⟩⟩; refine ⟨_, rfl, ?_⟩))
  go_ret
  exact ⟨by first | rfl | (simp; done) | (simp [*]; done), by repeat (first | exact Drawn0.refl _ | apply Drawn0.step)⟩
 rw [if_neg c6] at H
 have c6b0 : decide (a1 < 1) = false := zdf c6
 clear c6
 by_cases c7 : a1 > 256
 ·rw [if_pos c7] at H
  have c7b0 : decide (256 < a1) = true := zdt c7
  clear c7
  obtain rfl := zsi H
  go_enter Try.func73, Try.ntmps73
  go_wp2_with (first | ((with_reducible refine zgc (f := 110) rfl ?_); refine goesL_ (some 11) rfl rfl Try.func110 (by kernel_rfl) rfl #[.slice A0 l0.length c0, .func (.func 111) #[] #[]] rfl (by (try simp only [zmt, List.map_cons, List.map_nil]); first | done | rfl | (simp only [zld, zlt]; rfl)) ?_; (with_reducible refine (slices_ContainsFunc_Answer_sound_checkAnswers_1.calls k _ _ l0  false _ ?side1 ?side2 A4.out).mono ?_); (case side1 => repeat (first | exact HR0.out | (with_reducible refine Kd.C_alloc ?_ _) | (with_reducible refine Kd.C_drewN ?_ _) | (with_reducible refine Kd.C_drew ?_))); (case side2 => exact HC0.out); rintro e w' ⟨rfl, ⟨nd, rfl⟩⟩; refine ⟨_, rfl, ?_⟩))
  go_ret
  exact ⟨by first | rfl | (simp; done) | (simp [*]; done), by repeat (first | exact Drawn0.refl _ | apply Drawn0.step)⟩
 rw [if_neg c7] at H
 have c7b0 : decide (256 < a1) = false := zdf c7
 clear c7
 obtain rfl := zsi H
 go_enter Try.func73, Try.ntmps73
 go_wp2_with (first | ((with_reducible refine zgc (f := 110) rfl ?_); refine goesL_ (some 11) rfl rfl Try.func110 (by kernel_rfl) rfl #[.slice A0 l0.length c0, .func (.func 111) #[] #[]] rfl (by (try simp only [zmt, List.map_cons, List.map_nil]); first | done | rfl | (simp only [zld, zlt]; rfl)) ?_; (with_reducible refine (slices_ContainsFunc_Answer_sound_checkAnswers_1.calls k _ _ l0  false _ ?side1 ?side2 A4.out).mono ?_); (case side1 => repeat (first | exact HR0.out | (with_reducible refine Kd.C_alloc ?_ _) | (with_reducible refine Kd.C_drewN ?_ _) | (with_reducible refine Kd.C_drew ?_))); (case side2 => exact HC0.out); rintro e w' ⟨rfl, ⟨nd, rfl⟩⟩; refine ⟨_, rfl, ?_⟩))
 go_ret
 exact ⟨by first | rfl | (simp; done) | (simp [*]; done), by repeat (first | exact Drawn0.refl _ | apply Drawn0.step)⟩
set_option maxHeartbeats 4000000 in
theorem sound_fewest.calls (k : Nat) (A0 : Option Addr) (c0 : Nat) (l0 : List Int) (a1 : Int) (r1 : List Bool) (r2 : Int) (w : World) (hr0 : Kd.C (Kd.int .i64) w A0 l0.length l0) (hc0 : l0.length ≤ c0) (h : sound_fewest.f k l0 a1 = some (r1, r2)) :
  Calls Try.prog 74 #[.slice A0 l0.length c0, .int .i64 a1] w fun e w' => ∃ v0_ : Value, e = .returned (.tuple #[v0_, .int .i64 r2]) ∧ Kd.R Kd.bool 4 w' w.heap.size (fun _ => True) v0_ r1 ∧ Below w.heap.size w w' := by
 unfold sound_fewest.f at h
 split at h
 ·next hc =>
  obtain ⟨n, rfl⟩ : ∃ n : Nat, a1 = (n : Int) := ⟨a1.toNat, by omega⟩
  rw [Int.toNat_natCast] at h
  have BC := zam (sound_best_calls (fun c => c) 113 bst_val_few A0 c0 l0 n r1 r2 w hr0 hc0 (by omega) (by omega) h)
  clear hr0 hc0 h hc
  go_enter Try.func74, Try.ntmps74
  go_wp2_with (go_at_call 112; refine BC.out.mono ?_; rintro e w9 ⟨v, rfl, hR, hb⟩; have HR := zam hR; have HB := zam hb; clear hR hb BC)
  go_ret2
  exact ⟨v, rfl, HR.out, HB.out⟩
 cases h
set_option maxHeartbeats 4000000 in
theorem sound_most.calls (k : Nat) (A0 : Option Addr) (c0 : Nat) (l0 : List Int) (a1 : Int) (r1 : List Bool) (r2 : Int) (w : World) (hr0 : Kd.C (Kd.int .i64) w A0 l0.length l0) (hc0 : l0.length ≤ c0) (h : sound_most.f k l0 a1 = some (r1, r2)) :
  Calls Try.prog 75 #[.slice A0 l0.length c0, .int .i64 a1] w fun e w' => ∃ v0_ : Value, e = .returned (.tuple #[v0_, .int .i64 r2]) ∧ Kd.R Kd.bool 4 w' w.heap.size (fun _ => True) v0_ r1 ∧ Below w.heap.size w w' := by
 unfold sound_most.f at h
 split at h
 ·next hc =>
  obtain ⟨n, rfl⟩ : ∃ n : Nat, a1 = (n : Int) := ⟨a1.toNat, by omega⟩
  rw [Int.toNat_natCast] at h
  have BC := zam (sound_best_calls (fun c => wrap64 (-c)) 115 bst_val_most A0 c0 l0 n r1 r2 w hr0 hc0 (by omega) (by omega) h)
  clear hr0 hc0 h hc
  go_enter Try.func75, Try.ntmps75
  go_wp2_with (go_at_call 112; refine BC.out.mono ?_; rintro e w9 ⟨v, rfl, hR, hb⟩; have HR := zam hR; have HB := zam hb; clear hR hb BC)
  go_ret2
  exact ⟨v, rfl, HR.out, HB.out⟩
 cases h
def sound_Count.f (k : Nat) (l0 : List Int) (a1 : Int) : Option (Int × Int × Int) := (sound_checkAnswers.f k l0 a1).bind fun t102 => (if t102 = 0 then ((sound_fewest.f k l0 a1).bind fun bt103 => ((sound_most.f k l0 a1).bind fun bt107 => (some (bt103.2, bt107.2, 0)))) else (some (0, 0, t102)))
set_option maxHeartbeats 8000000 in
set_option maxRecDepth 100000 in
theorem sound_Count.calls (k : Nat) (A0 : Option Addr) (c0 : Nat) (l0 : List Int) (a1 : Int) (r1 : Int) (r2 : Int) (r3 : Int) (w : World) (hr0 : Kd.C (Kd.int .i64) w A0 l0.length l0) (hc0 : l0.length ≤ c0) (h : sound_Count.f k l0 a1 = some (r1, r2, r3)) :
  Calls Try.prog 30 #[.slice A0 l0.length c0, .int .i64 a1] w fun e w' => e = .returned (.tuple #[.agg #[.int .i64 r1, .int .i64 r2], .int .i64 r3]) ∧ Below w.heap.size w w' := by
 have hu24 := Try.underlying24
 have HR0 := zam hr0
 have HC0 := zam hc0
 clear hr0 hc0
 have HB := zam (Below.refl w.heap.size w)
 have H : ((sound_checkAnswers.f k l0 a1).bind fun t102 => (if t102 = 0 then ((sound_fewest.f k l0 a1).bind fun bt103 => ((sound_most.f k l0 a1).bind fun bt107 => (some (bt103.2, bt107.2, 0)))) else (some (0, 0, t102)))) = some (r1, r2, r3) := h
 clear h
 replace H := Option.bind_eq_some_iff.mp H
 obtain ⟨t102, A30, H⟩ := H
 replace H : (if t102 = 0 then ((sound_fewest.f k l0 a1).bind fun bt103 => ((sound_most.f k l0 a1).bind fun bt107 => (some (bt103.2, bt107.2, 0)))) else (some (0, 0, t102))) = some (r1, r2, r3) := H
 have A3 := zam A30
 clear A30
 by_cases c4 : t102 = 0
 ·rw [if_pos c4] at H
  have c4b0 : (t102 == 0) = true := beq_iff_eq.mpr c4
  have c4b1 : (t102 != 0) = false := bne_eq_false_iff_eq.mpr c4
  clear c4
  replace H := Option.bind_eq_some_iff.mp H
  obtain ⟨⟨t103, t104⟩, A50, H⟩ := H
  replace H : ((sound_most.f k l0 a1).bind fun bt107 => (some (t104, bt107.2, 0))) = some (r1, r2, r3) := H
  have A5 := zam A50
  clear A50
  replace H := Option.bind_eq_some_iff.mp H
  obtain ⟨⟨t107, t108⟩, A60, H⟩ := H
  replace H : (some (t104, t108, 0)) = some (r1, r2, r3) := H
  have A6 := zam A60
  clear A60
  simp only [Option.some.injEq, Prod.mk.injEq] at H
  obtain ⟨rfl, rfl, rfl⟩ := H
  go_enter Try.func30, Try.ntmps30
  go_wp2_with (first | ((with_reducible refine zgd (N := 4) rfl ?_); refine box_event ?hg (N := 4) ?hd (cs := #[.int .i64 0, .int .i64 0]) (t := 24) ?hr ?_; (case hd => rfl); (case hg => rfl); (case hr => first | (go_simp; done) | (go_simp; rfl)); intro gb101 hg w7 hbox hb; have n0_ := zam (zbt (by repeat (first | (with_reducible first | exact HB.out | apply zba | apply zbn | apply zb1) | exact HB.out)) hb); have n1_ := zam (hbox); have n2_ := zam ((by rw [hg]; exact (zbz (by repeat (first | (with_reducible first | exact HB.out | apply zba | apply zbn | apply zb1) | exact HB.out))) : w.heap.size ≤ gb101)); have n3_ := zam ((by rw [hg]; exact (zbz (by repeat (first | (with_reducible first | exact HB.out | apply zba | apply zbn | apply zb1) | exact HB.out))) : w.heap.size ≤ gb101)); clear HB; have HB := n0_; have BK101 := n1_; have GW101 := n2_; have GE101 := n3_; clear n0_ n1_ n2_ n3_; clear hb hbox hg) | ((with_reducible refine zgc (f := 73) rfl ?_); refine goesL_ (some 13) rfl rfl Try.func73 (by kernel_rfl) rfl #[.slice A0 l0.length c0, .int .i64 a1] rfl (by (try simp only [zmt, List.map_cons, List.map_nil]); first | done | rfl | (simp only [zld, zlt]; rfl)) ?_; (with_reducible refine (sound_checkAnswers.calls k _ _ l0 a1 t102 _ ?side1 ?side2 A3.out).mono ?_); (case side1 => repeat (first | exact (Kd.C_below HR0.out HB.out) | (with_reducible refine Kd.C_alloc ?_ _) | (with_reducible refine Kd.C_drewN ?_ _) | (with_reducible refine Kd.C_drew ?_))); (case side2 => exact HC0.out); rintro e w' ⟨rfl, ⟨nd, rfl⟩⟩; refine ⟨_, rfl, ?_⟩; (try (rw [drewN_self w7]; generalize hq_ : World.drewN w7 _ = w7; have n0_ : Aside0 (w7.heap[gb101]? = some (.cells #[.int .i64 0, .int .i64 0] 24 (0, 0))) := ⟨by rw [← hq_]; exact (by (with_reducible repeat (first | refine zkn ?_ _ | refine zkd ?_ | refine zka ?_ _)); exact BK101.out)⟩; have n1_ : Aside0 (Below w.heap.size w w7) := ⟨by rw [← hq_]; exact (by repeat (first | (with_reducible first | exact HB.out | apply zba | apply zbn | apply zb1 | refine zbs ?_ GE101.out) | exact HB.out))⟩; clear BK101 HB hq_; have BK101 := n0_; have HB := n1_; clear n0_ n1_))) | ((with_reducible refine zgc (f := 74) rfl ?_); refine goesL_ (some 21) rfl rfl Try.func74 (by kernel_rfl) rfl #[.slice A0 l0.length c0, .int .i64 a1] rfl (by (try simp only [zmt, List.map_cons, List.map_nil]); first | done | rfl | (simp only [zld, zlt]; rfl)) ?_; (with_reducible refine (sound_fewest.calls k _ _ l0 a1 t103 t104 _ ?side1 ?side2 A5.out).mono ?_); (case side1 => repeat (first | exact (Kd.C_below HR0.out HB.out) | (with_reducible refine Kd.C_alloc ?_ _) | (with_reducible refine Kd.C_drewN ?_ _) | (with_reducible refine Kd.C_drew ?_))); (case side2 => exact HC0.out); rintro e w8 ⟨v105, rfl, ho0, hb⟩; refine ⟨_, rfl, ?_⟩; have n0_ := zam (Kd.R_lower ho0 (zbz (by repeat (first | (with_reducible first | exact HB.out | apply zba | apply zbn | apply zb1 | refine zbs ?_ GE101.out) | exact HB.out)))); have n1_ := zam (zkb (g := gb101) (o := .cells #[.int .i64 0, .int .i64 0] 24 (0, 0)) (by (with_reducible repeat (first | refine zkn ?_ _ | refine zkd ?_ | refine zka ?_ _)); exact BK101.out) hb); have n2_ := zam (zbt (by repeat (first | (with_reducible first | exact HB.out | apply zba | apply zbn | apply zb1 | refine zbs ?_ GE101.out) | exact HB.out)) hb); clear BK101; clear HB; have HO106 := n0_; have BK101 := n1_; have HB := n2_; clear n0_ n1_ n2_; (try clear hb); (try clear hb2); (try clear hk); (try clear hi); (try clear ho0)) | ((with_reducible refine zgc (f := 75) rfl ?_); refine goesL_ (some 27) rfl rfl Try.func75 (by kernel_rfl) rfl #[.slice A0 l0.length c0, .int .i64 a1] rfl (by (try simp only [zmt, List.map_cons, List.map_nil]); first | done | rfl | (simp only [zld, zlt]; rfl)) ?_; (with_reducible refine (sound_most.calls k _ _ l0 a1 t107 t108 _ ?side1 ?side2 A6.out).mono ?_); (case side1 => repeat (first | exact (Kd.C_below HR0.out HB.out) | (with_reducible refine Kd.C_alloc ?_ _) | (with_reducible refine Kd.C_drewN ?_ _) | (with_reducible refine Kd.C_drew ?_))); (case side2 => exact HC0.out); rintro e w9 ⟨v109, rfl, ho0, hb⟩; refine ⟨_, rfl, ?_⟩; have n0_ := zam (Kd.R_elder' (by (with_reducible repeat (first | apply zRa | apply zRn | apply zRd)); exact HO106.out) (Kd.R_base ho0) hb); have n1_ := zam (Kd.R_lower (Kd.R_new' ho0 (Kd.R_lt (by (with_reducible repeat (first | apply zRa | apply zRn | apply zRd)); exact HO106.out))) (zbz (by repeat (first | (with_reducible first | exact HB.out | apply zba | apply zbn | apply zb1 | refine zbs ?_ GE101.out) | exact HB.out)))); have n2_ := zam (zkb (g := gb101) (o := .cells #[.int .i64 0, .int .i64 0] 24 (0, 0)) (by (with_reducible repeat (first | refine zkn ?_ _ | refine zkd ?_ | refine zka ?_ _)); exact BK101.out) hb); have n3_ := zam (zbt (by repeat (first | (with_reducible first | exact HB.out | apply zba | apply zbn | apply zb1 | refine zbs ?_ GE101.out) | exact HB.out)) hb); clear HO106; clear BK101; clear HB; have HO106 := n0_; have HO110 := n1_; have BK101 := n2_; have HB := n3_; clear n0_ n1_ n2_ n3_; (try clear hb); (try clear hb2); (try clear hk); (try clear hi); (try clear ho0); have hcz10_0 : w9.cell? ⟨gb101, 0, none⟩ = some (.int .i64 0) := (zkc BK101.out 0).trans rfl; have hcz10_1 : w9.cell? ⟨gb101, 1, none⟩ = some (.int .i64 0) := (zkc BK101.out 1).trans rfl; have hfz10_0 := zkz BK101.out 0; have hfz10_1 := zkz BK101.out 1))
  refine bodyPost_ret (results_ct rfl _ _ gb101 24 #[.int .i64 t104, .int .i64 t108] (0, 0) _ rfl (by (with_reducible repeat (first | refine zkn ?_ _ | refine zkd ?_ | refine zka ?_ _)); refine blk_put (cs := #[.int .i64 t104, .int .i64 0]) ?_ 1 _ rfl; (with_reducible repeat (first | refine zkn ?_ _ | refine zkd ?_ | refine zka ?_ _)); refine blk_put (cs := #[.int .i64 0, .int .i64 0]) ?_ 0 _ rfl; (with_reducible repeat (first | refine zkn ?_ _ | refine zkd ?_ | refine zka ?_ _)); exact BK101.out) Try.underlying24 rfl (by kernel_rfl)) rfl ?_
  exact ⟨by first | rfl | (simp [errW_none, errW_some] <;> rfl) | (simp [*, errW_none, errW_some] <;> rfl), by repeat (first | (with_reducible first | exact HB.out | apply zba | apply zbn | apply zb1 | refine zbs ?_ GE101.out) | exact HB.out)⟩
 rw [if_neg c4] at H
 have c4b0 : (t102 == 0) = false := beq_eq_false_iff_ne.mpr c4
 have c4b1 : (t102 != 0) = true := bne_iff_ne.mpr c4
 simp only [Option.some.injEq, Prod.mk.injEq] at H
 obtain ⟨rfl, rfl, rfl⟩ := H
 go_enter Try.func30, Try.ntmps30
 go_wp2_with (first | ((with_reducible refine zgd (N := 4) rfl ?_); refine box_event ?hg (N := 4) ?hd (cs := #[.int .i64 0, .int .i64 0]) (t := 24) ?hr ?_; (case hd => rfl); (case hg => rfl); (case hr => first | (go_simp; done) | (go_simp; rfl)); intro gb101 hg w11 hbox hb; have n0_ := zam (zbt (by repeat (first | (with_reducible first | exact HB.out | apply zba | apply zbn | apply zb1) | exact HB.out)) hb); have n1_ := zam (hbox); have n2_ := zam ((by rw [hg]; exact (zbz (by repeat (first | (with_reducible first | exact HB.out | apply zba | apply zbn | apply zb1) | exact HB.out))) : w.heap.size ≤ gb101)); have n3_ := zam ((by rw [hg]; exact (zbz (by repeat (first | (with_reducible first | exact HB.out | apply zba | apply zbn | apply zb1) | exact HB.out))) : w.heap.size ≤ gb101)); clear HB; have HB := n0_; have BK101 := n1_; have GW101 := n2_; have GE101 := n3_; clear n0_ n1_ n2_ n3_; clear hb hbox hg) | ((with_reducible refine zgc (f := 73) rfl ?_); refine goesL_ (some 13) rfl rfl Try.func73 (by kernel_rfl) rfl #[.slice A0 l0.length c0, .int .i64 a1] rfl (by (try simp only [zmt, List.map_cons, List.map_nil]); first | done | rfl | (simp only [zld, zlt]; rfl)) ?_; (with_reducible refine (sound_checkAnswers.calls k _ _ l0 a1 t102 _ ?side1 ?side2 A3.out).mono ?_); (case side1 => repeat (first | exact (Kd.C_below HR0.out HB.out) | (with_reducible refine Kd.C_alloc ?_ _) | (with_reducible refine Kd.C_drewN ?_ _) | (with_reducible refine Kd.C_drew ?_))); (case side2 => exact HC0.out); rintro e w' ⟨rfl, ⟨nd, rfl⟩⟩; refine ⟨_, rfl, ?_⟩; (try (rw [drewN_self w11]; generalize hq_ : World.drewN w11 _ = w11; have n0_ : Aside0 (w11.heap[gb101]? = some (.cells #[.int .i64 0, .int .i64 0] 24 (0, 0))) := ⟨by rw [← hq_]; exact (by (with_reducible repeat (first | refine zkn ?_ _ | refine zkd ?_ | refine zka ?_ _)); exact BK101.out)⟩; have n1_ : Aside0 (Below w.heap.size w w11) := ⟨by rw [← hq_]; exact (by repeat (first | (with_reducible first | exact HB.out | apply zba | apply zbn | apply zb1 | refine zbs ?_ GE101.out) | exact HB.out))⟩; clear BK101 HB hq_; have BK101 := n0_; have HB := n1_; clear n0_ n1_)); have hcz12_0 : w11.cell? ⟨gb101, 0, none⟩ = some (.int .i64 0) := (zkc BK101.out 0).trans rfl; have hcz12_1 : w11.cell? ⟨gb101, 1, none⟩ = some (.int .i64 0) := (zkc BK101.out 1).trans rfl; have hfz12_0 := zkz BK101.out 0; have hfz12_1 := zkz BK101.out 1))
 refine bodyPost_ret (results_ct rfl _ _ gb101 24 #[.int .i64 0, .int .i64 0] (0, 0) _ rfl (by (with_reducible repeat (first | refine zkn ?_ _ | refine zkd ?_ | refine zka ?_ _)); refine blk_put (cs := #[.int .i64 0, .int .i64 0]) ?_ 1 _ rfl; (with_reducible repeat (first | refine zkn ?_ _ | refine zkd ?_ | refine zka ?_ _)); refine blk_put (cs := #[.int .i64 0, .int .i64 0]) ?_ 0 _ rfl; (with_reducible repeat (first | refine zkn ?_ _ | refine zkd ?_ | refine zka ?_ _)); exact BK101.out) Try.underlying24 rfl (by kernel_rfl)) rfl ?_
 exact ⟨by first | rfl | (simp [errW_none, errW_some] <;> rfl) | (simp [*, errW_none, errW_some] <;> rfl), by repeat (first | (with_reducible first | exact HB.out | apply zba | apply zbn | apply zb1 | refine zbs ?_ GE101.out) | exact HB.out)⟩
def api_Answer_63.l0 : Nat → List Int → Int → Int → Int → Option (Int)
 | 0, _, _, _, _ => none
 | k + 1, x0, x1, x7, x8 => if x8 < x7 then (if 0 ≤ x8 then (if x8 < (x0.length : Int) then (if x1 = (rd x0 x8) then (some x8) else (api_Answer_63.l0 k x0 x1 x7 (wrap64 (x8 + 1)))) else (none)) else (none)) else (some (-1))
def api_Answer_63.f (k : Nat) (l0 : List Int) (a1 : Int) : Option (Int) := api_Answer_63.l0 k l0 a1 (l0.length : Int) 0
theorem api_Answer_63.mono_l : ∀ k, (∀ y0 y1 y2 y3, LeO (api_Answer_63.l0 k y0 y1 y2 y3) (api_Answer_63.l0 (k + 1) y0 y1 y2 y3))
 | 0 => fun _ _ _ _ r h => by simp [api_Answer_63.l0] at h
 | k + 1 => by
  have ih0 := api_Answer_63.mono_l k
  intro y0 y1 y2 y3
  unfold api_Answer_63.l0
  repeat' first
  | (with_reducible exact ih0 _ _ _ _)
  | (with_reducible exact LeO.refl _)
  | (with_reducible exact LeO.none _)
  | (with_reducible refine LeO.ite ?_ ?_)
  | (with_reducible refine LeO.bind ?_ (fun _ => ?_))
  | exact ih0 _ _ _ _
  | exact LeO.none _
  | refine LeO.ite ?_ ?_
  | refine LeO.bind ?_ (fun _ => ?_)
theorem api_Answer_63.mono : ∀ a0 a1 k, LeO (api_Answer_63.f k a0 a1) (api_Answer_63.f (k + 1) a0 a1) := by
 intro a0 a1 k
 have ih0 := api_Answer_63.mono_l k
 unfold api_Answer_63.f
 repeat' first
   | (with_reducible exact ih0 _ _ _ _)
   | (with_reducible exact LeO.refl _)
   | (with_reducible exact LeO.none _)
   | (with_reducible refine LeO.ite ?_ ?_)
   | (with_reducible refine LeO.bind ?_ (fun _ => ?_))
   | exact ih0 _ _ _ _
   | exact LeO.none _
   | refine LeO.ite ?_ ?_
   | refine LeO.bind ?_ (fun _ => ?_)
set_option maxHeartbeats 8000000 in
set_option maxRecDepth 100000 in
theorem api_Answer_63.calls (k : Nat) (A0 : Option Addr) (c0 : Nat) (l0 : List Int) (a1 : Int) (r : Int) (w : World) (hr0 : Kd.C (Kd.int .i64) w A0 l0.length l0) (hc0 : l0.length ≤ c0) (h : api_Answer_63.f k l0 a1 = some r) :
  Calls Try.prog 63 #[.slice A0 l0.length c0, .int .i64 a1] w fun e w' => e = .returned (.int .i64 r) ∧ Drawn0 w w' := by
 have HR0 := zam hr0
 have HC0 := zam hc0
 clear hr0 hc0
 have H : (api_Answer_63.l0 k l0 a1 (l0.length : Int) 0) = some r := h
 clear h
 have H' := zam H
 clear H
 go_enter Try.func63, Try.ntmps63
 go_wp2
 go_loopg [8] k (fun kq v8 w' => ∃ (x8_1 : Int), v8 = .int .i64 x8_1 ∧ Aside0 (api_Answer_63.l0 kq l0 a1 (l0.length : Int) x8_1 = some r) ∧ Aside0 (kq ≤ k) ∧ Drawn0 w w')
 case atStart => exact ⟨(0), (by first | rfl | (simp; done) | (simp [*]; done)), H', ⟨Nat.le_refl _⟩, by repeat (first | exact Drawn0.refl _ | apply Drawn0.step)⟩
 case round =>
  clear H'
  try clear p2
  obtain ⟨x8_1, rfl, HA, HK1, ⟨m1, rfl⟩⟩ := hrel
  cases gk with
  | zero => exact absurd HA.out (by simp [api_Answer_63.l0])
  | succ k1 =>
   have H := HA.out
   clear HA
   simp only [api_Answer_63.l0] at H
   by_cases c3 : x8_1 < (l0.length : Int)
   ·rw [if_pos c3] at H
    have c3b0 : decide (x8_1 < (l0.length : Int)) = true := zdt c3
    clear c3
    by_cases c4 : 0 ≤ x8_1
    ·rw [if_pos c4] at H
     have c4b0 : decide (0 ≤ x8_1) = true := zdt c4
     clear c4
     by_cases c5 : x8_1 < (l0.length : Int)
     ·rw [if_pos c5] at H
      have c5b0 : decide (x8_1 < (l0.length : Int)) = true := zdt c5
      clear c5
      by_cases c6 : a1 = (rd l0 x8_1)
      ·rw [if_pos c6] at H
       have c6b0 : (a1 == (rd l0 x8_1)) = true := beq_iff_eq.mpr c6
       have c6b1 : (a1 != (rd l0 x8_1)) = false := bne_eq_false_iff_eq.mpr c6
       clear c6
       obtain rfl := zsi H
       have p101 : 0 ≤ (x8_1 : Int) := zod (by first | (with_reducible assumption) | assumption)
       have q101 : x8_1 < (l0.length : Int) := zod (by first | (with_reducible assumption) | assumption)
       obtain ⟨ad101, e101, hx101_0⟩ := Kd.at_int HR0.out x8_1 p101 q101
       cases e101
       replace p101 := eq_true p101
       replace q101 := eq_true q101
       go_wp2
       go_ret
       exact ⟨by first | rfl | (simp; done) | (simp [*]; done), by repeat (first | exact Drawn0.refl _ | apply Drawn0.step)⟩
      rw [if_neg c6] at H
      have c6b0 : (a1 == (rd l0 x8_1)) = false := beq_eq_false_iff_ne.mpr c6
      have c6b1 : (a1 != (rd l0 x8_1)) = true := bne_iff_ne.mpr c6
      have H' := zam H
      clear H
      have p101 : 0 ≤ (x8_1 : Int) := zod (by first | (with_reducible assumption) | assumption)
      have q101 : x8_1 < (l0.length : Int) := zod (by first | (with_reducible assumption) | assumption)
      obtain ⟨ad101, e101, hx101_0⟩ := Kd.at_int HR0.out x8_1 p101 q101
      cases e101
      replace p101 := eq_true p101
      replace q101 := eq_true q101
      go_wp2
      go_roundg k1
      case measure => have := HK1.out; omega
      case rel => exact ⟨(wrap64 (x8_1 + 1)), (by first | rfl | (simp; done) | (simp [*]; done)), H', ⟨by have := HK1.out; omega⟩, by repeat (first | exact Drawn0.refl _ | apply Drawn0.step)⟩
     rw [if_neg c5] at H
     exact absurd H (by simp)
    rw [if_neg c4] at H
    exact absurd H (by simp)
   rw [if_neg c3] at H
   have c3b0 : decide (x8_1 < (l0.length : Int)) = false := zdf c3
   clear c3
   obtain rfl := zsi H
   go_wp2
   go_ret
   exact ⟨by first | rfl | (simp; done) | (simp [*]; done), by repeat (first | exact Drawn0.refl _ | apply Drawn0.step)⟩
def sound_First_1.f (a0 : Int) : Option (Bool) := some (a0 != 0)
set_option maxHeartbeats 8000000 in
set_option maxRecDepth 100000 in
theorem sound_First_1.calls (a0 : Int) (r : Bool) (w : World) (h : sound_First_1.f a0 = some r) :
  Calls Try.prog 65 #[.int .i64 a0] w fun e w' => e = .returned (.bool r) ∧ Drawn0 w w' := by
 have H : (some (a0 != 0)) = some r := h
 clear h
 obtain rfl := zsi H
 go_enter Try.func65, Try.ntmps65
 go_wp2
 go_ret
 exact ⟨by first | rfl | (simp; done) | (simp [*]; done), by repeat (first | exact Drawn0.refl _ | apply Drawn0.step)⟩
def slices_IndexFunc_Answer_sound_First_1.l0 : Nat → List Int → Int → Int → Option (Int)
 | 0, _, _, _ => none
 | k + 1, x0, x7, x8 => if x8 < x7 then (if 0 ≤ x8 then (if x8 < (x0.length : Int) then ((sound_First_1.f (rd x0 x8)).bind fun t102 => (if t102 = true then (some x8) else (slices_IndexFunc_Answer_sound_First_1.l0 k x0 x7 (wrap64 (x8 + 1))))) else (none)) else (none)) else (some (-1))
def slices_IndexFunc_Answer_sound_First_1.f (k : Nat) (l0 : List Int)  : Option (Int) := slices_IndexFunc_Answer_sound_First_1.l0 k l0 (l0.length : Int) 0
theorem slices_IndexFunc_Answer_sound_First_1.mono_l : ∀ k, (∀ y0 y1 y2, LeO (slices_IndexFunc_Answer_sound_First_1.l0 k y0 y1 y2) (slices_IndexFunc_Answer_sound_First_1.l0 (k + 1) y0 y1 y2))
 | 0 => fun _ _ _ r h => by simp [slices_IndexFunc_Answer_sound_First_1.l0] at h
 | k + 1 => by
  have ih0 := slices_IndexFunc_Answer_sound_First_1.mono_l k
  intro y0 y1 y2
  unfold slices_IndexFunc_Answer_sound_First_1.l0
  repeat' first
  | (with_reducible exact ih0 _ _ _)
  | (with_reducible exact LeO.refl _)
  | (with_reducible exact LeO.none _)
  | (with_reducible refine LeO.ite ?_ ?_)
  | (with_reducible refine LeO.bind ?_ (fun _ => ?_))
  | exact ih0 _ _ _
  | exact LeO.none _
  | refine LeO.ite ?_ ?_
  | refine LeO.bind ?_ (fun _ => ?_)
theorem slices_IndexFunc_Answer_sound_First_1.mono : ∀ a0 k, LeO (slices_IndexFunc_Answer_sound_First_1.f k a0) (slices_IndexFunc_Answer_sound_First_1.f (k + 1) a0) := by
 intro a0 k
 have ih0 := slices_IndexFunc_Answer_sound_First_1.mono_l k
 unfold slices_IndexFunc_Answer_sound_First_1.f
 repeat' first
   | (with_reducible exact ih0 _ _ _)
   | (with_reducible exact LeO.refl _)
   | (with_reducible exact LeO.none _)
   | (with_reducible refine LeO.ite ?_ ?_)
   | (with_reducible refine LeO.bind ?_ (fun _ => ?_))
   | exact ih0 _ _ _
   | exact LeO.none _
   | refine LeO.ite ?_ ?_
   | refine LeO.bind ?_ (fun _ => ?_)
set_option maxHeartbeats 8000000 in
set_option maxRecDepth 100000 in
theorem slices_IndexFunc_Answer_sound_First_1.calls (k : Nat) (A0 : Option Addr) (c0 : Nat) (l0 : List Int)  (r : Int) (w : World) (hr0 : Kd.C (Kd.int .i64) w A0 l0.length l0) (hc0 : l0.length ≤ c0) (h : slices_IndexFunc_Answer_sound_First_1.f k l0 = some r) :
  Calls Try.prog 64 #[.slice A0 l0.length c0, .func (.func 65) #[] #[]] w fun e w' => e = .returned (.int .i64 r) ∧ Drawn0 w w' := by
 have HR0 := zam hr0
 have HC0 := zam hc0
 clear hr0 hc0
 have H : (slices_IndexFunc_Answer_sound_First_1.l0 k l0 (l0.length : Int) 0) = some r := h
 clear h
 have H' := zam H
 clear H
 go_enter Try.func64, Try.ntmps64
 go_wp2
 go_loopg [8] k (fun kq v8 w' => ∃ (x8_1 : Int), v8 = .int .i64 x8_1 ∧ Aside0 (slices_IndexFunc_Answer_sound_First_1.l0 kq l0 (l0.length : Int) x8_1 = some r) ∧ Aside0 (kq ≤ k) ∧ Drawn0 w w')
 case atStart => exact ⟨(0), (by first | rfl | (simp; done) | (simp [*]; done)), H', ⟨Nat.le_refl _⟩, by repeat (first | exact Drawn0.refl _ | apply Drawn0.step)⟩
 case round =>
  clear H'
  try clear p2
  obtain ⟨x8_1, rfl, HA, HK1, ⟨m1, rfl⟩⟩ := hrel
  cases gk with
  | zero => exact absurd HA.out (by simp [slices_IndexFunc_Answer_sound_First_1.l0])
  | succ k1 =>
   have H := HA.out
   clear HA
   simp only [slices_IndexFunc_Answer_sound_First_1.l0] at H
   by_cases c3 : x8_1 < (l0.length : Int)
   ·rw [if_pos c3] at H
    have c3b0 : decide (x8_1 < (l0.length : Int)) = true := zdt c3
    clear c3
    by_cases c4 : 0 ≤ x8_1
    ·rw [if_pos c4] at H
     have c4b0 : decide (0 ≤ x8_1) = true := zdt c4
     clear c4
     by_cases c5 : x8_1 < (l0.length : Int)
     ·rw [if_pos c5] at H
      have c5b0 : decide (x8_1 < (l0.length : Int)) = true := zdt c5
      clear c5
      replace H := Option.bind_eq_some_iff.mp H
      obtain ⟨t102, A60, H⟩ := H
      replace H : (if t102 = true then (some x8_1) else (slices_IndexFunc_Answer_sound_First_1.l0 k1 l0 (l0.length : Int) (wrap64 (x8_1 + 1)))) = some r := H
      have A6 := zam A60
      clear A60
      by_cases c7 : t102 = true
      ·subst c7
       have H1 : (some x8_1) = some r := by rw [if_pos rfl] at H; exact H
       clear H
       have H := H1
       clear H1
       obtain rfl := zsi H
       have p101 : 0 ≤ (x8_1 : Int) := zod (by first | (with_reducible assumption) | assumption)
       have q101 : x8_1 < (l0.length : Int) := zod (by first | (with_reducible assumption) | assumption)
       obtain ⟨ad101, e101, hx101_0⟩ := Kd.at_int HR0.out x8_1 p101 q101
       cases e101
       replace p101 := eq_true p101
       replace q101 := eq_true q101
       go_wp2_with (first | (go_at_call 65; (with_reducible refine (sound_First_1.calls (rd l0 x8_1) true _ A6.out).mono ?_); rintro e w' ⟨rfl, ⟨nd, rfl⟩⟩))
       go_ret
       exact ⟨by first | rfl | (simp; done) | (simp [*]; done), by repeat (first | exact Drawn0.refl _ | apply Drawn0.step)⟩
      replace c7 := Bool.eq_false_iff.mpr c7
      subst c7
      have H1 : (slices_IndexFunc_Answer_sound_First_1.l0 k1 l0 (l0.length : Int) (wrap64 (x8_1 + 1))) = some r := by rw [if_neg (show ¬ (false = true) by decide)] at H; exact H
      clear H
      have H := H1
      clear H1
      have H' := zam H
      clear H
      have p101 : 0 ≤ (x8_1 : Int) := zod (by first | (with_reducible assumption) | assumption)
      have q101 : x8_1 < (l0.length : Int) := zod (by first | (with_reducible assumption) | assumption)
      obtain ⟨ad101, e101, hx101_0⟩ := Kd.at_int HR0.out x8_1 p101 q101
      cases e101
      replace p101 := eq_true p101
      replace q101 := eq_true q101
      go_wp2_with (first | (go_at_call 65; (with_reducible refine (sound_First_1.calls (rd l0 x8_1) false _ A6.out).mono ?_); rintro e w' ⟨rfl, ⟨nd, rfl⟩⟩))
      go_roundg k1
      case measure => have := HK1.out; omega
      case rel => exact ⟨(wrap64 (x8_1 + 1)), (by first | rfl | (simp; done) | (simp [*]; done)), H', ⟨by have := HK1.out; omega⟩, by repeat (first | exact Drawn0.refl _ | apply Drawn0.step)⟩
     rw [if_neg c5] at H
     exact absurd H (by simp)
    rw [if_neg c4] at H
    exact absurd H (by simp)
   rw [if_neg c3] at H
   have c3b0 : decide (x8_1 < (l0.length : Int)) = false := zdf c3
   clear c3
   obtain rfl := zsi H
   go_wp2
   go_ret
   exact ⟨by first | rfl | (simp; done) | (simp [*]; done), by repeat (first | exact Drawn0.refl _ | apply Drawn0.step)⟩
def sound_enough.l0 : Nat → Int → Int → Int → List Int → Int → Int → Option (Int)
 | 0, _, _, _, _, _, _ => none
 | k + 1, x0, x5, x6, x9, x10, x11 => if x11 < x10 then (if 0 ≤ x11 then (if x11 < (x9.length : Int) then (if (rd x9 x11) = 2 then (if (rd x9 x11) = 0 then (sound_enough.l0 k x0 (wrap64 (x5 + 1)) x6 x9 x10 (wrap64 (x11 + 1))) else (sound_enough.l0 k x0 (wrap64 (x5 + 1)) (wrap64 (x6 + 1)) x9 x10 (wrap64 (x11 + 1)))) else (if (rd x9 x11) = 0 then (sound_enough.l0 k x0 x5 x6 x9 x10 (wrap64 (x11 + 1))) else (sound_enough.l0 k x0 x5 (wrap64 (x6 + 1)) x9 x10 (wrap64 (x11 + 1))))) else (none)) else (none)) else (if x5 ≥ x0 then (some 2) else (if x6 < x0 then (some 0) else (some 1)))
def sound_enough.f (k : Nat) (a0 : Int) (l1 : List Int) : Option (Int) := sound_enough.l0 k a0 0 0 l1 (l1.length : Int) 0
theorem sound_enough.mono_l : ∀ k, (∀ y0 y1 y2 y3 y4 y5, LeO (sound_enough.l0 k y0 y1 y2 y3 y4 y5) (sound_enough.l0 (k + 1) y0 y1 y2 y3 y4 y5))
 | 0 => fun _ _ _ _ _ _ r h => by simp [sound_enough.l0] at h
 | k + 1 => by
  have ih0 := sound_enough.mono_l k
  intro y0 y1 y2 y3 y4 y5
  unfold sound_enough.l0
  repeat' first
  | (with_reducible exact ih0 _ _ _ _ _ _)
  | (with_reducible exact LeO.refl _)
  | (with_reducible exact LeO.none _)
  | (with_reducible refine LeO.ite ?_ ?_)
  | (with_reducible refine LeO.bind ?_ (fun _ => ?_))
  | exact ih0 _ _ _ _ _ _
  | exact LeO.none _
  | refine LeO.ite ?_ ?_
  | refine LeO.bind ?_ (fun _ => ?_)
theorem sound_enough.mono : ∀ a0 a1 k, LeO (sound_enough.f k a0 a1) (sound_enough.f (k + 1) a0 a1) := by
 intro a0 a1 k
 have ih0 := sound_enough.mono_l k
 unfold sound_enough.f
 repeat' first
   | (with_reducible exact ih0 _ _ _ _ _ _)
   | (with_reducible exact LeO.refl _)
   | (with_reducible exact LeO.none _)
   | (with_reducible refine LeO.ite ?_ ?_)
   | (with_reducible refine LeO.bind ?_ (fun _ => ?_))
   | exact ih0 _ _ _ _ _ _
   | exact LeO.none _
   | refine LeO.ite ?_ ?_
   | refine LeO.bind ?_ (fun _ => ?_)
set_option maxHeartbeats 8000000 in
set_option maxRecDepth 100000 in
theorem sound_enough.calls (k : Nat) (a0 : Int) (A1 : Option Addr) (c1 : Nat) (l1 : List Int) (r : Int) (w : World) (hr1 : Kd.C (Kd.int .i64) w A1 l1.length l1) (hc1 : l1.length ≤ c1) (h : sound_enough.f k a0 l1 = some r) :
  Calls Try.prog 107 #[.int .i64 a0, .slice A1 l1.length c1] w fun e w' => e = .returned (.int .i64 r) ∧ Drawn0 w w' := by
 have HR1 := zam hr1
 have HC1 := zam hc1
 clear hr1 hc1
 have H : (sound_enough.l0 k a0 0 0 l1 (l1.length : Int) 0) = some r := h
 clear h
 have H' := zam H
 clear H
 go_enter Try.func107, Try.ntmps107
 go_wp2
 go_loopg [5, 6, 11] k (fun kq v5 v6 v11 w' => ∃ (x5_1 : Int) (x6_1 : Int) (x11_1 : Int), v5 = .int .i64 x5_1 ∧ v6 = .int .i64 x6_1 ∧ v11 = .int .i64 x11_1 ∧ Aside0 (sound_enough.l0 kq a0 x5_1 x6_1 l1 (l1.length : Int) x11_1 = some r) ∧ Aside0 (kq ≤ k) ∧ Drawn0 w w')
 case atStart => exact ⟨(0), (0), (0), (by first | rfl | (simp; done) | (simp [*]; done)), (by first | rfl | (simp; done) | (simp [*]; done)), (by first | rfl | (simp; done) | (simp [*]; done)), H', ⟨Nat.le_refl _⟩, by repeat (first | exact Drawn0.refl _ | apply Drawn0.step)⟩
 case round =>
  clear H'
  try clear c1
  try clear p2
  obtain ⟨x5_1, x6_1, x11_1, rfl, rfl, rfl, HA, HK1, ⟨m1, rfl⟩⟩ := hrel
  cases gk with
  | zero => exact absurd HA.out (by simp [sound_enough.l0])
  | succ k1 =>
   have H := HA.out
   clear HA
   simp only [sound_enough.l0] at H
   by_cases c3 : x11_1 < (l1.length : Int)
   ·rw [if_pos c3] at H
    have c3b0 : decide (x11_1 < (l1.length : Int)) = true := zdt c3
    clear c3
    by_cases c4 : 0 ≤ x11_1
    ·rw [if_pos c4] at H
     have c4b0 : decide (0 ≤ x11_1) = true := zdt c4
     clear c4
     by_cases c5 : x11_1 < (l1.length : Int)
     ·rw [if_pos c5] at H
      have c5b0 : decide (x11_1 < (l1.length : Int)) = true := zdt c5
      clear c5
      by_cases c6 : (rd l1 x11_1) = 2
      ·rw [if_pos c6] at H
       have c6b0 : ((rd l1 x11_1) == 2) = true := beq_iff_eq.mpr c6
       have c6b1 : ((rd l1 x11_1) != 2) = false := bne_eq_false_iff_eq.mpr c6
       clear c6
       by_cases c7 : (rd l1 x11_1) = 0
       ·rw [if_pos c7] at H
        have c7b0 : ((rd l1 x11_1) == 0) = true := beq_iff_eq.mpr c7
        have c7b1 : ((rd l1 x11_1) != 0) = false := bne_eq_false_iff_eq.mpr c7
        clear c7
        have H' := zam H
        clear H
        have p101 : 0 ≤ (x11_1 : Int) := zod (by first | (with_reducible assumption) | assumption)
        have q101 : x11_1 < (l1.length : Int) := zod (by first | (with_reducible assumption) | assumption)
        obtain ⟨ad101, e101, hx101_0⟩ := Kd.at_int HR1.out x11_1 p101 q101
        cases e101
        replace p101 := eq_true p101
        replace q101 := eq_true q101
        go_wp2
        go_roundg k1
        case measure => have := HK1.out; omega
        case rel => exact ⟨(wrap64 (x5_1 + 1)), (x6_1), (wrap64 (x11_1 + 1)), (by first | rfl | (simp; done) | (simp [*]; done)), (by first | rfl | (simp; done) | (simp [*]; done)), (by first | rfl | (simp; done) | (simp [*]; done)), H', ⟨by have := HK1.out; omega⟩, by repeat (first | exact Drawn0.refl _ | apply Drawn0.step)⟩
       rw [if_neg c7] at H
       have c7b0 : ((rd l1 x11_1) == 0) = false := beq_eq_false_iff_ne.mpr c7
       have c7b1 : ((rd l1 x11_1) != 0) = true := bne_iff_ne.mpr c7
       have H' := zam H
       clear H
       have p101 : 0 ≤ (x11_1 : Int) := zod (by first | (with_reducible assumption) | assumption)
       have q101 : x11_1 < (l1.length : Int) := zod (by first | (with_reducible assumption) | assumption)
       obtain ⟨ad101, e101, hx101_0⟩ := Kd.at_int HR1.out x11_1 p101 q101
       cases e101
       replace p101 := eq_true p101
       replace q101 := eq_true q101
       go_wp2
       go_roundg k1
       case measure => have := HK1.out; omega
       case rel => exact ⟨(wrap64 (x5_1 + 1)), (wrap64 (x6_1 + 1)), (wrap64 (x11_1 + 1)), (by first | rfl | (simp; done) | (simp [*]; done)), (by first | rfl | (simp; done) | (simp [*]; done)), (by first | rfl | (simp; done) | (simp [*]; done)), H', ⟨by have := HK1.out; omega⟩, by repeat (first | exact Drawn0.refl _ | apply Drawn0.step)⟩
      rw [if_neg c6] at H
      have c6b0 : ((rd l1 x11_1) == 2) = false := beq_eq_false_iff_ne.mpr c6
      have c6b1 : ((rd l1 x11_1) != 2) = true := bne_iff_ne.mpr c6
      by_cases c8 : (rd l1 x11_1) = 0
      ·rw [if_pos c8] at H
       have c8b0 : ((rd l1 x11_1) == 0) = true := beq_iff_eq.mpr c8
       have c8b1 : ((rd l1 x11_1) != 0) = false := bne_eq_false_iff_eq.mpr c8
       clear c8
       have H' := zam H
       clear H
       have p101 : 0 ≤ (x11_1 : Int) := zod (by first | (with_reducible assumption) | assumption)
       have q101 : x11_1 < (l1.length : Int) := zod (by first | (with_reducible assumption) | assumption)
       obtain ⟨ad101, e101, hx101_0⟩ := Kd.at_int HR1.out x11_1 p101 q101
       cases e101
       replace p101 := eq_true p101
       replace q101 := eq_true q101
       go_wp2
       go_roundg k1
       case measure => have := HK1.out; omega
       case rel => exact ⟨(x5_1), (x6_1), (wrap64 (x11_1 + 1)), (by first | rfl | (simp; done) | (simp [*]; done)), (by first | rfl | (simp; done) | (simp [*]; done)), (by first | rfl | (simp; done) | (simp [*]; done)), H', ⟨by have := HK1.out; omega⟩, by repeat (first | exact Drawn0.refl _ | apply Drawn0.step)⟩
      rw [if_neg c8] at H
      have c8b0 : ((rd l1 x11_1) == 0) = false := beq_eq_false_iff_ne.mpr c8
      have c8b1 : ((rd l1 x11_1) != 0) = true := bne_iff_ne.mpr c8
      have H' := zam H
      clear H
      have p101 : 0 ≤ (x11_1 : Int) := zod (by first | (with_reducible assumption) | assumption)
      have q101 : x11_1 < (l1.length : Int) := zod (by first | (with_reducible assumption) | assumption)
      obtain ⟨ad101, e101, hx101_0⟩ := Kd.at_int HR1.out x11_1 p101 q101
      cases e101
      replace p101 := eq_true p101
      replace q101 := eq_true q101
      go_wp2
      go_roundg k1
      case measure => have := HK1.out; omega
      case rel => exact ⟨(x5_1), (wrap64 (x6_1 + 1)), (wrap64 (x11_1 + 1)), (by first | rfl | (simp; done) | (simp [*]; done)), (by first | rfl | (simp; done) | (simp [*]; done)), (by first | rfl | (simp; done) | (simp [*]; done)), H', ⟨by have := HK1.out; omega⟩, by repeat (first | exact Drawn0.refl _ | apply Drawn0.step)⟩
     rw [if_neg c5] at H
     exact absurd H (by simp)
    rw [if_neg c4] at H
    exact absurd H (by simp)
   rw [if_neg c3] at H
   have c3b0 : decide (x11_1 < (l1.length : Int)) = false := zdf c3
   clear c3
   by_cases c9 : x5_1 ≥ a0
   ·rw [if_pos c9] at H
    have c9b0 : decide (a0 ≤ x5_1) = true := zdt c9
    clear c9
    obtain rfl := zsi H
    go_wp2
    go_ret
    exact ⟨by first | rfl | (simp; done) | (simp [*]; done), by repeat (first | exact Drawn0.refl _ | apply Drawn0.step)⟩
   rw [if_neg c9] at H
   have c9b0 : decide (a0 ≤ x5_1) = false := zdf c9
   clear c9
   by_cases c10 : x6_1 < a0
   ·rw [if_pos c10] at H
    have c10b0 : decide (x6_1 < a0) = true := zdt c10
    clear c10
    obtain rfl := zsi H
    go_wp2
    go_ret
    exact ⟨by first | rfl | (simp; done) | (simp [*]; done), by repeat (first | exact Drawn0.refl _ | apply Drawn0.step)⟩
   rw [if_neg c10] at H
   have c10b0 : decide (x6_1 < a0) = false := zdf c10
   clear c10
   obtain rfl := zsi H
   go_wp2
   go_ret
   exact ⟨by first | rfl | (simp; done) | (simp [*]; done), by repeat (first | exact Drawn0.refl _ | apply Drawn0.step)⟩
def sound_high.j0 : Nat → Int → Bool → Int → Int → Option (Int)
 | 0, _, _, _, _ => none
 | k + 1, x1, x5, x102000, x102001 => if x5 = true then (some 2) else (if x102000 > (wrap64 (-x1)) then (if x102001 < x1 then (some 0) else (some 1)) else (some 1))
def sound_high.f (k : Nat) (a0_0 : Int) (a0_1 : Int) (a1 : Int) : Option (Int) := if a0_0 ≥ a1 then (sound_high.j0 k a1 true a0_0 a0_1) else (sound_high.j0 k a1 (decide (a0_1 ≤ (wrap64 (-a1)))) a0_0 a0_1)
theorem sound_high.mono_l : ∀ k, (∀ y0 y1 y2 y3, LeO (sound_high.j0 k y0 y1 y2 y3) (sound_high.j0 (k + 1) y0 y1 y2 y3))
 | 0 => fun _ _ _ _ r h => by simp [sound_high.j0] at h
 | k + 1 => by
  have ih0 := sound_high.mono_l k
  intro y0 y1 y2 y3
  unfold sound_high.j0
  repeat' first
  | (with_reducible exact ih0 _ _ _ _)
  | (with_reducible exact LeO.refl _)
  | (with_reducible exact LeO.none _)
  | (with_reducible refine LeO.ite ?_ ?_)
  | (with_reducible refine LeO.bind ?_ (fun _ => ?_))
  | exact ih0 _ _ _ _
  | exact LeO.none _
  | refine LeO.ite ?_ ?_
  | refine LeO.bind ?_ (fun _ => ?_)
theorem sound_high.mono : ∀ a0 a1 a2 k, LeO (sound_high.f k a0 a1 a2) (sound_high.f (k + 1) a0 a1 a2) := by
 intro a0 a1 a2 k
 have ih0 := sound_high.mono_l k
 unfold sound_high.f
 repeat' first
   | (with_reducible exact ih0 _ _ _ _)
   | (with_reducible exact LeO.refl _)
   | (with_reducible exact LeO.none _)
   | (with_reducible refine LeO.ite ?_ ?_)
   | (with_reducible refine LeO.bind ?_ (fun _ => ?_))
   | exact ih0 _ _ _ _
   | exact LeO.none _
   | refine LeO.ite ?_ ?_
   | refine LeO.bind ?_ (fun _ => ?_)
set_option maxHeartbeats 8000000 in
set_option maxRecDepth 100000 in
theorem sound_high.calls (k : Nat) (a0_0 : Int) (a0_1 : Int) (a1 : Int) (r : Int) (w : World) (h : sound_high.f k a0_0 a0_1 a1 = some r) :
  Calls Try.prog 129 #[.agg #[.int .i64 a0_0, .int .i64 a0_1], .int .i64 a1] w fun e w' => e = .returned (.int .i64 r) ∧ Below w.heap.size w w' := by
 have hu24 := Try.underlying24
 have HB := zam (Below.refl w.heap.size w)
 have H : (if a0_0 ≥ a1 then (sound_high.j0 k a1 true a0_0 a0_1) else (sound_high.j0 k a1 (decide (a0_1 ≤ (wrap64 (-a1)))) a0_0 a0_1)) = some r := h
 clear h
 have HC3 := zam H
 clear H
 go_enter Try.func129, Try.ntmps129
 go_upto_region 1 with (first | ((with_reducible refine zgd (N := 2) rfl ?_); refine box_event ?hg (N := 2) ?hd (cs := #[.int .i64 a0_0, .int .i64 a0_1]) (t := 24) ?hr ?_; (case hd => rfl); (case hg => rfl); (case hr => first | (go_simp; done) | (go_simp; rfl)); intro gb101 hg w4 hbox hb; have n0_ := zam (zbt (by repeat (first | (with_reducible first | exact HB.out | apply zba | apply zbn | apply zb1) | exact HB.out)) hb); have n1_ := zam (hbox); have n2_ := zam ((by rw [hg]; exact (zbz (by repeat (first | (with_reducible first | exact HB.out | apply zba | apply zbn | apply zb1) | exact HB.out))) : w.heap.size ≤ gb101)); have n3_ := zam ((by rw [hg]; exact (zbz (by repeat (first | (with_reducible first | exact HB.out | apply zba | apply zbn | apply zb1) | exact HB.out))) : w.heap.size ≤ gb101)); clear HB; have HB := n0_; have BK101 := n1_; have GW101 := n2_; have GE101 := n3_; clear n0_ n1_ n2_ n3_; clear hb hbox hg))
 (try simp only [Act.put, zsa, zsz, zss])
 go_cut [5] (fun v5 wc => ∃ (kq : Nat) (x5_2 : Bool), v5 = .bool x5_2 ∧ Aside0 (sound_high.j0 kq a1 x5_2 a0_0 a0_1 = some r) ∧ Aside0 (kq ≤ k) ∧ Aside0 (wc.heap[gb101]? = some (.cells #[.int .i64 a0_0, .int .i64 a0_1] 24 (0, 0))) ∧ Aside0 (Below w.heap.size w wc))
 case first =>
  have H := HC3.out
  clear HC3
  by_cases c5 : a0_0 ≥ a1
  ·rw [if_pos c5] at H
   have c5b0 : decide (a1 ≤ a0_0) = true := zdt c5
   clear c5
   (first | rw [c5b0] | (simp only [i64_w, i32_w]; rw [c5b0]) | skip)
   have H' := zam H
   clear H
   have hcz6_0 : w4.cell? ⟨gb101, 0, none⟩ = some (.int .i64 a0_0) := (zkc BK101.out 0).trans rfl
   have hcz6_1 : w4.cell? ⟨gb101, 1, none⟩ = some (.int .i64 a0_1) := (zkc BK101.out 1).trans rfl
   have hfz6_0 := zkz BK101.out 0
   have hfz6_1 := zkz BK101.out 1
   go_wp2
   go_meet
   case rel => exact ⟨_, (true), (by first | rfl | (simp; done) | (simp [*]; done)), H', ⟨by first | omega | exact Nat.le_refl _⟩, ⟨by (with_reducible repeat (first | refine zkn ?_ _ | refine zkd ?_ | refine zka ?_ _)); exact BK101.out⟩, ⟨by repeat (first | (with_reducible first | exact HB.out | apply zba | apply zbn | apply zb1 | refine zbs ?_ GE101.out) | exact HB.out)⟩⟩
  rw [if_neg c5] at H
  have c5b0 : decide (a1 ≤ a0_0) = false := zdf c5
  clear c5
  (first | rw [c5b0] | (simp only [i64_w, i32_w]; rw [c5b0]) | skip)
  have H' := zam H
  clear H
  have hcz7_0 : w4.cell? ⟨gb101, 0, none⟩ = some (.int .i64 a0_0) := (zkc BK101.out 0).trans rfl
  have hcz7_1 : w4.cell? ⟨gb101, 1, none⟩ = some (.int .i64 a0_1) := (zkc BK101.out 1).trans rfl
  have hfz7_0 := zkz BK101.out 0
  have hfz7_1 := zkz BK101.out 1
  go_wp2
  go_meet
  case rel => exact ⟨_, (decide (a0_1 ≤ (wrap64 (-a1)))), (by first | rfl | (simp; done) | (simp [*]; done)), H', ⟨by first | omega | exact Nat.le_refl _⟩, ⟨by (with_reducible repeat (first | refine zkn ?_ _ | refine zkd ?_ | refine zka ?_ _)); exact BK101.out⟩, ⟨by repeat (first | (with_reducible first | exact HB.out | apply zba | apply zbn | apply zb1 | refine zbs ?_ GE101.out) | exact HB.out)⟩⟩
 case rest =>
  clear HC3
  try clear c1
  try clear p2
  try clear c5
  try clear c5b0
  try clear p6
  try clear hcz6_0
  try clear hcz6_1
  try clear hcz7_0
  try clear hcz7_1
  try clear hfz6_0
  try clear hfz6_1
  try clear hfz7_0
  try clear hfz7_1
  obtain ⟨kq, x5_2, rfl, HA, HJ2, BK101, HB⟩ := hcut
  cases kq with
  | zero => exact absurd HA.out (by simp [sound_high.j0])
  | succ kj2 =>
   have H := HA.out
   clear HA
   simp only [sound_high.j0] at H
   by_cases c8 : x5_2 = true
   ·subst c8
    have H1 : (some 2) = some r := by rw [if_pos rfl] at H; exact H
    clear H
    have H := H1
    clear H1
    obtain rfl := zsi H
    go_wp2
    go_ret
    exact ⟨by first | rfl | (simp [errW_none, errW_some] <;> rfl) | (simp [*, errW_none, errW_some] <;> rfl), by repeat (first | (with_reducible first | exact HB.out | apply zba | apply zbn | apply zb1 | refine zbs ?_ GE101.out) | exact HB.out)⟩
   replace c8 := Bool.eq_false_iff.mpr c8
   subst c8
   have H1 : (if a0_0 > (wrap64 (-a1)) then (if a0_1 < a1 then (some 0) else (some 1)) else (some 1)) = some r := by rw [if_neg (show ¬ (false = true) by decide)] at H; exact H
   clear H
   have H := H1
   clear H1
   by_cases c9 : a0_0 > (wrap64 (-a1))
   ·rw [if_pos c9] at H
    have c9b0 : decide ((wrap64 (-a1)) < a0_0) = true := zdt c9
    clear c9
    by_cases c10 : a0_1 < a1
    ·rw [if_pos c10] at H
     have c10b0 : decide (a0_1 < a1) = true := zdt c10
     clear c10
     obtain rfl := zsi H
     have hcz11_0 : wc.cell? ⟨gb101, 0, none⟩ = some (.int .i64 a0_0) := (zkc BK101.out 0).trans rfl
     have hcz11_1 : wc.cell? ⟨gb101, 1, none⟩ = some (.int .i64 a0_1) := (zkc BK101.out 1).trans rfl
     have hfz11_0 := zkz BK101.out 0
     have hfz11_1 := zkz BK101.out 1
     go_wp2
     go_ret
     exact ⟨by first | rfl | (simp [errW_none, errW_some] <;> rfl) | (simp [*, errW_none, errW_some] <;> rfl), by repeat (first | (with_reducible first | exact HB.out | apply zba | apply zbn | apply zb1 | refine zbs ?_ GE101.out) | exact HB.out)⟩
    rw [if_neg c10] at H
    have c10b0 : decide (a0_1 < a1) = false := zdf c10
    clear c10
    obtain rfl := zsi H
    have hcz12_0 : wc.cell? ⟨gb101, 0, none⟩ = some (.int .i64 a0_0) := (zkc BK101.out 0).trans rfl
    have hcz12_1 : wc.cell? ⟨gb101, 1, none⟩ = some (.int .i64 a0_1) := (zkc BK101.out 1).trans rfl
    have hfz12_0 := zkz BK101.out 0
    have hfz12_1 := zkz BK101.out 1
    go_wp2
    go_ret
    exact ⟨by first | rfl | (simp [errW_none, errW_some] <;> rfl) | (simp [*, errW_none, errW_some] <;> rfl), by repeat (first | (with_reducible first | exact HB.out | apply zba | apply zbn | apply zb1 | refine zbs ?_ GE101.out) | exact HB.out)⟩
   rw [if_neg c9] at H
   have c9b0 : decide ((wrap64 (-a1)) < a0_0) = false := zdf c9
   clear c9
   obtain rfl := zsi H
   have hcz13_0 : wc.cell? ⟨gb101, 0, none⟩ = some (.int .i64 a0_0) := (zkc BK101.out 0).trans rfl
   have hcz13_1 : wc.cell? ⟨gb101, 1, none⟩ = some (.int .i64 a0_1) := (zkc BK101.out 1).trans rfl
   have hfz13_0 := zkz BK101.out 0
   have hfz13_1 := zkz BK101.out 1
   go_wp2
   go_ret
   exact ⟨by first | rfl | (simp [errW_none, errW_some] <;> rfl) | (simp [*, errW_none, errW_some] <;> rfl), by repeat (first | (with_reducible first | exact HB.out | apply zba | apply zbn | apply zb1 | refine zbs ?_ GE101.out) | exact HB.out)⟩
mutual
def sound_risen.l0 : Nat → List Int → Int → Int → Int → List (S24) → Int → Int → Int → Int → Int → Option (List Int)
 | 0, _, _, _, _, _, _, _, _, _, _ => none
 | k + 1, x5, x6, x7, x8, x17, x18, x19, x103000, x103001, x103002 => if x19 < x18 then (if 0 ≤ x19 then (if x19 < (x17.length : Int) then ((sound_high.f k ((rd_T24 x17 x19).f0) ((rd_T24 x17 x19).f1) x103000).bind fun t108 => (if t108 = 2 then (sound_risen.j1 k x5 (wrap64 (x6 + 1)) (wrap64 (x7 + 1)) x8 x19 t108 x17 x18 x19 x103000 x103001 x103002) else (sound_risen.j1 k x5 0 (wrap64 (x7 + 1)) x8 x19 t108 x17 x18 x19 x103000 x103001 x103002))) else (none)) else (none)) else (some x5)
def sound_risen.j1 : Nat → List Int → Int → Int → Int → Int → Int → List (S24) → Int → Int → Int → Int → Int → Option (List Int)
 | 0, _, _, _, _, _, _, _, _, _, _, _, _ => none
 | k + 1, x5, x6, x7, x8, x9, x11, x17, x18, x19, x103000, x103001, x103002 => if x11 = 0 then (sound_risen.j2 k x5 x6 0 x8 x9 x17 x18 x19 x103000 x103001 x103002) else (sound_risen.j2 k x5 x6 x7 x8 x9 x17 x18 x19 x103000 x103001 x103002)
def sound_risen.j2 : Nat → List Int → Int → Int → Int → Int → List (S24) → Int → Int → Int → Int → Int → Option (List Int)
 | 0, _, _, _, _, _, _, _, _, _, _, _ => none
 | k + 1, x5, x6, x7, x8, x9, x17, x18, x19, x103000, x103001, x103002 => if x6 ≥ x103001 then (if 0 ≤ x9 then (if x9 < (x5.length : Int) then (sound_risen.l0 k (x5.set (x9 : Int).toNat 2) x6 x7 2 x17 x18 (wrap64 (x19 + 1)) x103000 x103001 x103002) else (none)) else (none)) else (if x7 ≥ x103001 then (if 0 ≤ x9 then (if x9 < (x5.length : Int) then (sound_risen.l0 k (x5.set (x9 : Int).toNat (mx x8 1)) x6 x7 (mx x8 1) x17 x18 (wrap64 (x19 + 1)) x103000 x103001 x103002) else (none)) else (none)) else (if 0 ≤ x9 then (if x9 < (x5.length : Int) then (sound_risen.l0 k (x5.set (x9 : Int).toNat x8) x6 x7 x8 x17 x18 (wrap64 (x19 + 1)) x103000 x103001 x103002) else (none)) else (none)))
end
def sound_risen.f (k : Nat) (l0_0 : List (S24)) (a1_0 : Int) (a1_1 : Int) (a1_2 : Int) : Option (List Int) := if 0 ≤ (l0_0.length : Int) then (if ((l0_0.length : Int) : Int).toNat ≤ 35184372088832 then (sound_risen.l0 k (List.replicate ((l0_0.length : Int) : Int).toNat 0) 0 0 0 l0_0 (l0_0.length : Int) 0 a1_0 a1_1 a1_2) else (none)) else (none)
theorem sound_risen.mono_l : ∀ k, (∀ y0 y1 y2 y3 y4 y5 y6 y7 y8 y9, LeO (sound_risen.l0 k y0 y1 y2 y3 y4 y5 y6 y7 y8 y9) (sound_risen.l0 (k + 1) y0 y1 y2 y3 y4 y5 y6 y7 y8 y9)) ∧ (∀ y0 y1 y2 y3 y4 y5 y6 y7 y8 y9 y10 y11, LeO (sound_risen.j1 k y0 y1 y2 y3 y4 y5 y6 y7 y8 y9 y10 y11) (sound_risen.j1 (k + 1) y0 y1 y2 y3 y4 y5 y6 y7 y8 y9 y10 y11)) ∧ (∀ y0 y1 y2 y3 y4 y5 y6 y7 y8 y9 y10, LeO (sound_risen.j2 k y0 y1 y2 y3 y4 y5 y6 y7 y8 y9 y10) (sound_risen.j2 (k + 1) y0 y1 y2 y3 y4 y5 y6 y7 y8 y9 y10))
 | 0 => ⟨fun _ _ _ _ _ _ _ _ _ _ r h => by simp [sound_risen.l0] at h, fun _ _ _ _ _ _ _ _ _ _ _ _ r h => by simp [sound_risen.j1] at h, fun _ _ _ _ _ _ _ _ _ _ _ r h => by simp [sound_risen.j2] at h⟩
 | k + 1 => by
  obtain ⟨ih0, ih1, ih2⟩ := sound_risen.mono_l k
  refine ⟨?_, ?_, ?_⟩
  ·intro y0 y1 y2 y3 y4 y5 y6 y7 y8 y9
   unfold sound_risen.l0
   repeat' first
   | (with_reducible exact ih0 _ _ _ _ _ _ _ _ _ _)
   | (with_reducible exact ih1 _ _ _ _ _ _ _ _ _ _ _ _)
   | (with_reducible exact ih2 _ _ _ _ _ _ _ _ _ _ _)
   | (with_reducible exact sound_high.mono _ _ _ _)
   | (with_reducible exact LeO.refl _)
   | (with_reducible exact LeO.none _)
   | (with_reducible refine LeO.ite ?_ ?_)
   | (with_reducible refine LeO.bind ?_ (fun _ => ?_))
   | exact ih0 _ _ _ _ _ _ _ _ _ _
   | exact ih1 _ _ _ _ _ _ _ _ _ _ _ _
   | exact ih2 _ _ _ _ _ _ _ _ _ _ _
   | exact sound_high.mono _ _ _ _
   | exact LeO.none _
   | refine LeO.ite ?_ ?_
   | refine LeO.bind ?_ (fun _ => ?_)
  ·intro y0 y1 y2 y3 y4 y5 y6 y7 y8 y9 y10 y11
   unfold sound_risen.j1
   repeat' first
   | (with_reducible exact ih0 _ _ _ _ _ _ _ _ _ _)
   | (with_reducible exact ih1 _ _ _ _ _ _ _ _ _ _ _ _)
   | (with_reducible exact ih2 _ _ _ _ _ _ _ _ _ _ _)
   | (with_reducible exact sound_high.mono _ _ _ _)
   | (with_reducible exact LeO.refl _)
   | (with_reducible exact LeO.none _)
   | (with_reducible refine LeO.ite ?_ ?_)
   | (with_reducible refine LeO.bind ?_ (fun _ => ?_))
   | exact ih0 _ _ _ _ _ _ _ _ _ _
   | exact ih1 _ _ _ _ _ _ _ _ _ _ _ _
   | exact ih2 _ _ _ _ _ _ _ _ _ _ _
   | exact sound_high.mono _ _ _ _
   | exact LeO.none _
   | refine LeO.ite ?_ ?_
   | refine LeO.bind ?_ (fun _ => ?_)
  intro y0 y1 y2 y3 y4 y5 y6 y7 y8 y9 y10
  unfold sound_risen.j2
  repeat' first
  | (with_reducible exact ih0 _ _ _ _ _ _ _ _ _ _)
  | (with_reducible exact ih1 _ _ _ _ _ _ _ _ _ _ _ _)
  | (with_reducible exact ih2 _ _ _ _ _ _ _ _ _ _ _)
  | (with_reducible exact sound_high.mono _ _ _ _)
  | (with_reducible exact LeO.refl _)
  | (with_reducible exact LeO.none _)
  | (with_reducible refine LeO.ite ?_ ?_)
  | (with_reducible refine LeO.bind ?_ (fun _ => ?_))
  | exact ih0 _ _ _ _ _ _ _ _ _ _
  | exact ih1 _ _ _ _ _ _ _ _ _ _ _ _
  | exact ih2 _ _ _ _ _ _ _ _ _ _ _
  | exact sound_high.mono _ _ _ _
  | exact LeO.none _
  | refine LeO.ite ?_ ?_
  | refine LeO.bind ?_ (fun _ => ?_)
theorem sound_risen.mono : ∀ a0 a1 a2 a3 k, LeO (sound_risen.f k a0 a1 a2 a3) (sound_risen.f (k + 1) a0 a1 a2 a3) := by
 intro a0 a1 a2 a3 k
 obtain ⟨ih0, ih1, ih2⟩ := sound_risen.mono_l k
 unfold sound_risen.f
 repeat' first
   | (with_reducible exact ih0 _ _ _ _ _ _ _ _ _ _)
   | (with_reducible exact ih1 _ _ _ _ _ _ _ _ _ _ _ _)
   | (with_reducible exact ih2 _ _ _ _ _ _ _ _ _ _ _)
   | (with_reducible exact sound_high.mono _ _ _ _)
   | (with_reducible exact LeO.refl _)
   | (with_reducible exact LeO.none _)
   | (with_reducible refine LeO.ite ?_ ?_)
   | (with_reducible refine LeO.bind ?_ (fun _ => ?_))
   | exact ih0 _ _ _ _ _ _ _ _ _ _
   | exact ih1 _ _ _ _ _ _ _ _ _ _ _ _
   | exact ih2 _ _ _ _ _ _ _ _ _ _ _
   | exact sound_high.mono _ _ _ _
   | exact LeO.none _
   | refine LeO.ite ?_ ?_
   | refine LeO.bind ?_ (fun _ => ?_)
set_option maxHeartbeats 8000000 in
set_option maxRecDepth 100000 in
theorem sound_risen.calls (k : Nat) (A0_0 : Option Addr) (c0_0 : Nat) (l0_0 : List (S24)) (a1_0 : Int) (a1_1 : Int) (a1_2 : Int) (r : List Int) (w : World) (hr0_0 : Kd.C k24 w A0_0 l0_0.length l0_0) (hc0_0 : l0_0.length ≤ c0_0) (h : sound_risen.f k l0_0 a1_0 a1_1 a1_2 = some r) :
  Calls Try.prog 106 #[.agg #[.slice A0_0 l0_0.length c0_0], .agg #[.int .i64 a1_0, .int .i64 a1_1, .int .i64 a1_2]] w fun e w' => ∃ v0_ : Value, e = .returned (v0_) ∧ Kd.R (Kd.int .i64) 50 w' w.heap.size (fun _ => True) v0_ r ∧ Below w.heap.size w w' := by
 have hu45 := Try.underlying45
 have hu39 := Try.underlying39
 have hu24 := Try.underlying24
 have HR0_0 := zam hr0_0
 have HC0_0 := zam hc0_0
 clear hr0_0 hc0_0
 have HB := zam (Below.refl w.heap.size w)
 have H : (if 0 ≤ (l0_0.length : Int) then (if ((l0_0.length : Int) : Int).toNat ≤ 35184372088832 then (sound_risen.l0 k (List.replicate ((l0_0.length : Int) : Int).toNat 0) 0 0 0 l0_0 (l0_0.length : Int) 0 a1_0 a1_1 a1_2) else (none)) else (none)) = some r := h
 clear h
 by_cases c3 : 0 ≤ (l0_0.length : Int)
 ·rw [if_pos c3] at H
  have c3b0 := eq_true c3
  have c3b1 : decide (0 ≤ (l0_0.length : Int)) = true := zdt c3
  clear c3
  by_cases c4 : ((l0_0.length : Int) : Int).toNat ≤ 35184372088832
  ·rw [if_pos c4] at H
   have c4b0 := eq_true c4
   have c4b1 : decide (((l0_0.length : Int) : Int).toNat ≤ 35184372088832) = true := zdt c4
   clear c4
   obtain ⟨y103, hy103⟩ : ∃ y_ : List Int, y_ = (List.replicate ((l0_0.length : Int) : Int).toNat 0) := ⟨_, rfl⟩
   replace H : (sound_risen.l0 k y103 0 0 0 l0_0 (l0_0.length : Int) 0 a1_0 a1_1 a1_2) = some r := by first | (rw [hy103]; with_reducible exact H) | (have H2_ := (Option.bind_some _ _).symm.trans H; rw [hy103]; with_reducible exact H2_) | (have H2_ := (Option.bind_some _ _).symm.trans H; with_reducible exact H2_) | with_reducible exact H | (rw [hy103]; exact H) | exact H
   have Ny103 := zam hy103
   clear hy103
   have H' := zam H
   clear H
   go_enter Try.func106, Try.ntmps106
   go_wp2_with (first | ((with_reducible refine zgd (N := 2) rfl ?_); refine box_event ?hg (N := 2) ?hd (cs := #[.slice A0_0 l0_0.length c0_0]) (t := 45) ?hr ?_; (case hd => rfl); (case hg => rfl); (case hr => first | (go_simp; done) | (go_simp; rfl)); intro gb101 hg w5 hbox hb; have n0_ := zam (zbt (by repeat (first | (with_reducible first | exact HB.out | apply zba | apply zbn | apply zb1) | exact HB.out)) hb); have n1_ := zam (hbox); have n2_ := zam ((by rw [hg]; exact (zbz (by repeat (first | (with_reducible first | exact HB.out | apply zba | apply zbn | apply zb1) | exact HB.out))) : w.heap.size ≤ gb101)); have n3_ := zam ((by rw [hg]; exact (zbz (by repeat (first | (with_reducible first | exact HB.out | apply zba | apply zbn | apply zb1) | exact HB.out))) : w.heap.size ≤ gb101)); clear HB; have HB := n0_; have BK101 := n1_; have GW101 := n2_; have GE101 := n3_; clear n0_ n1_ n2_ n3_; clear hb hbox hg) | ((with_reducible refine zgd (N := 3) rfl ?_); refine box_event ?hg (N := 3) ?hd (cs := #[.int .i64 a1_0, .int .i64 a1_1, .int .i64 a1_2]) (t := 39) ?hr ?_; (case hd => rfl); (case hg => rfl); (case hr => first | (go_simp; done) | (go_simp; rfl)); intro gb102 hg w6 hbox hb; have n0_ := zam (zkb (g := gb101) (o := .cells #[.slice A0_0 l0_0.length c0_0] 45 (0, 0)) (by (with_reducible repeat (first | refine zkn ?_ _ | refine zkd ?_ | refine zka ?_ _)); exact BK101.out) hb); have n1_ := zam (zbt (by repeat (first | (with_reducible first | exact HB.out | apply zba | apply zbn | apply zb1 | refine zbs ?_ GE101.out) | exact HB.out)) hb); have n2_ := zam (hbox); have n3_ := zam ((by rw [hg]; exact (zbz (by repeat (first | (with_reducible first | exact HB.out | apply zba | apply zbn | apply zb1 | refine zbs ?_ GE101.out) | exact HB.out))) : w.heap.size ≤ gb102)); have n4_ := zam ((by rw [hg]; exact (zbz (by repeat (first | (with_reducible first | exact HB.out | apply zba | apply zbn | apply zb1 | refine zbs ?_ GE101.out) | exact HB.out))) : w.heap.size ≤ gb102)); have n5_ := zam ((by rw [hg]; exact Nat.ne_of_lt (blk_lt (g := gb101) (o := .cells #[.slice A0_0 l0_0.length c0_0] 45 (0, 0)) (by (with_reducible repeat (first | refine zkn ?_ _ | refine zkd ?_ | refine zka ?_ _)); exact BK101.out)) : gb101 ≠ gb102)); have n6_ := zam ((by rw [hg]; exact Nat.ne_of_gt (blk_lt (g := gb101) (o := .cells #[.slice A0_0 l0_0.length c0_0] 45 (0, 0)) (by (with_reducible repeat (first | refine zkn ?_ _ | refine zkd ?_ | refine zka ?_ _)); exact BK101.out)) : gb102 ≠ gb101)); clear BK101; clear HB; have BK101 := n0_; have HB := n1_; have BK102 := n2_; have GW102 := n3_; have GE102 := n4_; have NB101_102 := n5_; have NB102_101 := n6_; clear n0_ n1_ n2_ n3_ n4_ n5_ n6_; clear hb hbox hg; have hnb7 := NB101_102.out; have hnc7 := NB102_101.out; have hcz8_0 : w6.cell? ⟨gb101, 0, none⟩ = some (.slice A0_0 l0_0.length c0_0) := (zkc BK101.out 0).trans rfl; have hfz8_0 := zkz BK101.out 0) | ((with_reducible refine zgd (N := 15) rfl ?_); refine Kd.R_make (Kd.int .i64) _ 50 rfl (N := 15) rfl 66 _ _ rfl (l0_0.length : Int) rfl rfl Try.underlying66 (.int .i64 0) 8 info50 rfl (by decide) (by omega) 0 (ok := fun _ => True) (okp := fun _ => True) rfl (fun _ hk => hk) trivial (zod (by first | (with_reducible assumption) | assumption)) (Nat.le_trans (Nat.mul_le_mul_right _ (zod (by first | (with_reducible assumption) | assumption) : (l0_0.length : Int).toNat ≤ 35184372088832)) (by omega)) (Below.refl _ _) (Nat.le_refl _) ?_; intro v104 w9 ho10 hb hg_ hnew_; clear hg_ hnew_; (first | rw [← Ny103.out] at ho10 | (simp only [Int.reduceToNat] at ho10; rw [← Ny103.out] at ho10)); have n0_ := zam (Kd.R_lower ho10 (zbz (by repeat (first | (with_reducible first | exact HB.out | apply zba | apply zbn | apply zb1 | refine zbs ?_ GE101.out | refine zbs ?_ GE102.out) | exact HB.out)))); have n1_ := zam (zkb (g := gb101) (o := .cells #[.slice A0_0 l0_0.length c0_0] 45 (0, 0)) (by (with_reducible repeat (first | refine zkn ?_ _ | refine zkd ?_ | refine zka ?_ _)); exact BK101.out) hb); have n2_ := zam (zkb (g := gb102) (o := .cells #[.int .i64 a1_0, .int .i64 a1_1, .int .i64 a1_2] 39 (0, 0)) (by (with_reducible repeat (first | refine zkn ?_ _ | refine zkd ?_ | refine zka ?_ _)); exact BK102.out) hb); have n3_ := zam (zbt (by repeat (first | (with_reducible first | exact HB.out | apply zba | apply zbn | apply zb1 | refine zbs ?_ GE101.out | refine zbs ?_ GE102.out) | exact HB.out)) hb); clear BK101; clear BK102; clear HB; have HO105 := n0_; have BK101 := n1_; have BK102 := n2_; have HB := n3_; clear n0_ n1_ n2_ n3_; clear hb ho10; have hcz11_0 : w9.cell? ⟨gb101, 0, none⟩ = some (.slice A0_0 l0_0.length c0_0) := (zkc BK101.out 0).trans rfl; have hfz11_0 := zkz BK101.out 0))
   go_loopg [6, 7, 8, 19] k (fun kq v6 v7 v8 v19 w' => ∃ (x5_1 : List Int) (x6_1 : Int) (x7_1 : Int) (x8_1 : Int) (x19_1 : Int), v6 = .int .i64 x6_1 ∧ v7 = .int .i64 x7_1 ∧ v8 = .int .i64 x8_1 ∧ v19 = .int .i64 x19_1 ∧ Aside0 (sound_risen.l0 kq x5_1 x6_1 x7_1 x8_1 l0_0 (l0_0.length : Int) x19_1 a1_0 a1_1 a1_2 = some r) ∧ Aside0 (kq ≤ k) ∧ Aside0 (Kd.R (Kd.int .i64) 50 w' w.heap.size (fun _ => True) v104 x5_1) ∧ Aside0 (w'.heap[gb101]? = some (.cells #[(.slice A0_0 l0_0.length c0_0)] 45 (0, 0))) ∧ Aside0 (w'.heap[gb102]? = some (.cells #[.int .i64 a1_0, .int .i64 a1_1, .int .i64 a1_2] 39 (0, 0))) ∧ Aside0 (Below w.heap.size w w'))
   case atStart => exact ⟨(y103), (0), (0), (0), (0), (by first | rfl | (simp; done) | (simp [*]; done)), (by first | rfl | (simp; done) | (simp [*]; done)), (by first | rfl | (simp; done) | (simp [*]; done)), (by first | rfl | (simp; done) | (simp [*]; done)), H', ⟨Nat.le_refl _⟩, ⟨by (with_reducible repeat (first | apply zRa | apply zRn | apply zRd)); exact HO105.out⟩, ⟨by (with_reducible repeat (first | refine zkn ?_ _ | refine zkd ?_ | refine zka ?_ _)); exact BK101.out⟩, ⟨by (with_reducible repeat (first | refine zkn ?_ _ | refine zkd ?_ | refine zka ?_ _)); exact BK102.out⟩, ⟨by repeat (first | (with_reducible first | exact HB.out | apply zba | apply zbn | apply zb1 | refine zbs ?_ GE101.out | refine zbs ?_ GE102.out) | exact HB.out)⟩⟩
   case round =>
    clear H'
    try clear c1
    try clear p2
    try clear c3
    try clear c3b0
    try clear c3b1
    try clear c4
    try clear c4b0
    try clear c4b1
    try clear c7
    try clear c10
    try clear hcz11_0
    try clear hcz8_0
    try clear hfz11_0
    try clear hfz8_0
    obtain ⟨x5_1, x6_1, x7_1, x8_1, x19_1, rfl, rfl, rfl, rfl, HA, HK1, HO_5, BK101, BK102, HB⟩ := hrel
    cases gk with
    | zero => exact absurd HA.out (by simp [sound_risen.l0])
    | succ k1 =>
     have H := HA.out
     clear HA
     simp only [sound_risen.l0] at H
     by_cases c12 : x19_1 < (l0_0.length : Int)
     ·rw [if_pos c12] at H
      have c12b0 : decide (x19_1 < (l0_0.length : Int)) = true := zdt c12
      clear c12
      by_cases c13 : 0 ≤ x19_1
      ·rw [if_pos c13] at H
       have c13b0 : decide (0 ≤ x19_1) = true := zdt c13
       clear c13
       by_cases c14 : x19_1 < (l0_0.length : Int)
       ·rw [if_pos c14] at H
        have c14b0 : decide (x19_1 < (l0_0.length : Int)) = true := zdt c14
        clear c14
        replace H := Option.bind_eq_some_iff.mp H
        obtain ⟨t108, A150, H⟩ := H
        replace H : (if t108 = 2 then (sound_risen.j1 k1 x5_1 (wrap64 (x6_1 + 1)) (wrap64 (x7_1 + 1)) x8_1 x19_1 t108 l0_0 (l0_0.length : Int) x19_1 a1_0 a1_1 a1_2) else (sound_risen.j1 k1 x5_1 0 (wrap64 (x7_1 + 1)) x8_1 x19_1 t108 l0_0 (l0_0.length : Int) x19_1 a1_0 a1_1 a1_2)) = some r := H
        have A15 := zam A150
        clear A150
        have HC16 := zam H
        clear H
        have p106 : 0 ≤ (x19_1 : Int) := zod (by first | (with_reducible assumption) | assumption)
        have q106 : x19_1 < (l0_0.length : Int) := zod (by first | (with_reducible assumption) | assumption)
        obtain ⟨ad106, e106, hx106_0, hx106_1⟩ := at_T24 HR0_0.out x19_1 p106 q106
        cases e106
        replace hx106_0 := (HB.out.cell (zwb w _ hx106_0)).trans hx106_0
        replace hx106_1 := (HB.out.cell (zwb w _ hx106_1)).trans hx106_1
        replace p106 := eq_true p106
        replace q106 := eq_true q106
        go_upto_if 33 with (first | ((with_reducible refine zgd (N := 10) rfl ?_); refine box_event ?hg (N := 10) ?hd (cs := #[.int .i64 0, .int .i64 0]) (t := 24) ?hr ?_; (case hd => rfl); (case hg => rfl); (case hr => first | (go_simp; done) | (go_simp; rfl)); intro gb107 hg w17 hbox hb; have n0_ := zam (Kd.R_below (by (with_reducible repeat (first | apply zRa | apply zRn | apply zRd)); exact HO_5.out) hb); have n1_ := zam (zkb (g := gb101) (o := .cells #[.slice (some ad106) l0_0.length c0_0] 45 (0, 0)) (by (with_reducible repeat (first | refine zkn ?_ _ | refine zkd ?_ | refine zka ?_ _)); exact BK101.out) hb); have n2_ := zam (zkb (g := gb102) (o := .cells #[.int .i64 a1_0, .int .i64 a1_1, .int .i64 a1_2] 39 (0, 0)) (by (with_reducible repeat (first | refine zkn ?_ _ | refine zkd ?_ | refine zka ?_ _)); exact BK102.out) hb); have n3_ := zam (zbt (by repeat (first | (with_reducible first | exact HB.out | apply zba | apply zbn | apply zb1 | refine zbs ?_ GE101.out | refine zbs ?_ GE102.out) | exact HB.out)) hb); have n4_ := zam (hbox); have n5_ := zam ((by rw [hg]; exact (zbz (by repeat (first | (with_reducible first | exact HB.out | apply zba | apply zbn | apply zb1 | refine zbs ?_ GE101.out | refine zbs ?_ GE102.out) | exact HB.out))) : w.heap.size ≤ gb107)); have n6_ := zam ((by rw [hg]; exact (zbz (by repeat (first | (with_reducible first | exact HB.out | apply zba | apply zbn | apply zb1 | refine zbs ?_ GE101.out | refine zbs ?_ GE102.out) | exact HB.out))) : w.heap.size ≤ gb107)); have n7_ := zam ((by rw [hg]; exact Nat.ne_of_lt (blk_lt (g := gb101) (o := .cells #[.slice (some ad106) l0_0.length c0_0] 45 (0, 0)) (by (with_reducible repeat (first | refine zkn ?_ _ | refine zkd ?_ | refine zka ?_ _)); exact BK101.out)) : gb101 ≠ gb107)); have n8_ := zam ((by rw [hg]; exact Nat.ne_of_gt (blk_lt (g := gb101) (o := .cells #[.slice (some ad106) l0_0.length c0_0] 45 (0, 0)) (by (with_reducible repeat (first | refine zkn ?_ _ | refine zkd ?_ | refine zka ?_ _)); exact BK101.out)) : gb107 ≠ gb101)); have n9_ := zam ((by rw [hg]; exact Nat.ne_of_lt (blk_lt (g := gb102) (o := .cells #[.int .i64 a1_0, .int .i64 a1_1, .int .i64 a1_2] 39 (0, 0)) (by (with_reducible repeat (first | refine zkn ?_ _ | refine zkd ?_ | refine zka ?_ _)); exact BK102.out)) : gb102 ≠ gb107)); have n10_ := zam ((by rw [hg]; exact Nat.ne_of_gt (blk_lt (g := gb102) (o := .cells #[.int .i64 a1_0, .int .i64 a1_1, .int .i64 a1_2] 39 (0, 0)) (by (with_reducible repeat (first | refine zkn ?_ _ | refine zkd ?_ | refine zka ?_ _)); exact BK102.out)) : gb107 ≠ gb102)); clear HO_5; clear BK101; clear BK102; clear HB; have HO_5 := n0_; have BK101 := n1_; have BK102 := n2_; have HB := n3_; have BK107 := n4_; have GW107 := n5_; have GE107 := n6_; have NB101_107 := n7_; have NB107_101 := n8_; have NB102_107 := n9_; have NB107_102 := n10_; clear n0_ n1_ n2_ n3_ n4_ n5_ n6_ n7_ n8_ n9_ n10_; clear hb hbox hg; have hnb18 := NB107_101.out; have hnc18 := NB101_107.out; have hnb19 := NB107_102.out; have hnc19 := NB102_107.out; have hcz20_0 : w17.cell? ⟨gb107, 0, none⟩ = some (.int .i64 0) := (zkc BK107.out 0).trans rfl; have hcz20_1 : w17.cell? ⟨gb107, 1, none⟩ = some (.int .i64 0) := (zkc BK107.out 1).trans rfl; have hfz20_0 := zkz BK107.out 0; have hfz20_1 := zkz BK107.out 1; have hnb21 := NB102_101.out; have hnc21 := NB101_102.out; have hcz22_0 : w17.cell? ⟨gb102, 0, none⟩ = some (.int .i64 a1_0) := (zkc BK102.out 0).trans rfl; have hcz22_1 : w17.cell? ⟨gb102, 1, none⟩ = some (.int .i64 a1_1) := (zkc BK102.out 1).trans rfl; have hcz22_2 : w17.cell? ⟨gb102, 2, none⟩ = some (.int .i64 a1_2) := (zkc BK102.out 2).trans rfl; have hfz22_0 := zkz BK102.out 0; have hfz22_1 := zkz BK102.out 1; have hfz22_2 := zkz BK102.out 2) | ((with_reducible refine zgc (f := 129) rfl ?_); refine goesL_ (some 27) rfl rfl Try.func129 (by kernel_rfl) rfl #[.agg #[.int .i64 ((rd_T24 l0_0 x19_1).f0), .int .i64 ((rd_T24 l0_0 x19_1).f1)], .int .i64 a1_0] rfl (by (try simp only [zmt, List.map_cons, List.map_nil]); first | done | rfl | (simp only [zld, zlt]; rfl)) ?_; (with_reducible refine (sound_high.calls k1 ((rd_T24 l0_0 x19_1).f0) ((rd_T24 l0_0 x19_1).f1) a1_0 t108 _ A15.out).mono ?_); rintro e w23 ⟨rfl, hb⟩; refine ⟨_, rfl, ?_⟩; have n0_ := zam (Kd.R_below (by (with_reducible repeat (first | apply zRa | apply zRn | apply zRd)); exact (Kd.R_mono (Kd.R_far (p := ⟨gb107, 1, none⟩) (Kd.R_far (p := ⟨gb107, 0, none⟩) (Kd.R_types HO_5.out BK107.out (by decide)) (fun _ hk => hk.2) (.int .i64 ((rd_T24 l0_0 x19_1).f0))) (fun _ hk => hk.2) (.int .i64 ((rd_T24 l0_0 x19_1).f1))) (fun _ h_ => h_.1))) hb); have n1_ := zam (zkb (g := gb101) (o := .cells #[.slice (some ad106) l0_0.length c0_0] 45 (0, 0)) (by (with_reducible repeat (first | refine zkn ?_ _ | refine zkd ?_ | refine zka ?_ _)); refine zkf ?_ NB101_107.out _; (with_reducible repeat (first | refine zkn ?_ _ | refine zkd ?_ | refine zka ?_ _)); refine zkf ?_ NB101_107.out _; (with_reducible repeat (first | refine zkn ?_ _ | refine zkd ?_ | refine zka ?_ _)); exact BK101.out) hb); have n2_ := zam (zkb (g := gb102) (o := .cells #[.int .i64 a1_0, .int .i64 a1_1, .int .i64 a1_2] 39 (0, 0)) (by (with_reducible repeat (first | refine zkn ?_ _ | refine zkd ?_ | refine zka ?_ _)); refine zkf ?_ NB102_107.out _; (with_reducible repeat (first | refine zkn ?_ _ | refine zkd ?_ | refine zka ?_ _)); refine zkf ?_ NB102_107.out _; (with_reducible repeat (first | refine zkn ?_ _ | refine zkd ?_ | refine zka ?_ _)); exact BK102.out) hb); have n3_ := zam (zkb (g := gb107) (o := .cells #[.int .i64 ((rd_T24 l0_0 x19_1).f0), .int .i64 ((rd_T24 l0_0 x19_1).f1)] 24 (0, 0)) (by (with_reducible repeat (first | refine zkn ?_ _ | refine zkd ?_ | refine zka ?_ _)); refine blk_put (cs := #[.int .i64 ((rd_T24 l0_0 x19_1).f0), .int .i64 0]) ?_ 1 _ rfl; (with_reducible repeat (first | refine zkn ?_ _ | refine zkd ?_ | refine zka ?_ _)); refine blk_put (cs := #[.int .i64 0, .int .i64 0]) ?_ 0 _ rfl; (with_reducible repeat (first | refine zkn ?_ _ | refine zkd ?_ | refine zka ?_ _)); exact BK107.out) hb); have n4_ := zam (zbt (by repeat (first | (with_reducible first | exact HB.out | apply zba | apply zbn | apply zb1 | refine zbs ?_ GE101.out | refine zbs ?_ GE102.out | refine zbs ?_ GE107.out) | exact HB.out)) hb); clear HO_5; clear BK101; clear BK102; clear BK107; clear HB; have HO_5 := n0_; have BK101 := n1_; have BK102 := n2_; have BK107 := n3_; have HB := n4_; clear n0_ n1_ n2_ n3_ n4_; (try clear hb); (try clear hb2); (try clear hk); (try clear hi)))
        (try simp only [Act.put, zsa, zsz, zss])
        go_cut [6] (fun v6 wc => ∃ (kq : Nat) (x6_15 : Int), v6 = .int .i64 x6_15 ∧ Aside0 (sound_risen.j1 kq x5_1 x6_15 (wrap64 (x7_1 + 1)) x8_1 x19_1 t108 l0_0 (l0_0.length : Int) x19_1 a1_0 a1_1 a1_2 = some r) ∧ Aside0 (kq ≤ k1) ∧ Aside0 (Kd.R (Kd.int .i64) 50 wc w.heap.size (fun _ => True) v104 x5_1) ∧ Aside0 (wc.heap[gb101]? = some (.cells #[(.slice (some ad106) l0_0.length c0_0)] 45 (0, 0))) ∧ Aside0 (wc.heap[gb102]? = some (.cells #[.int .i64 a1_0, .int .i64 a1_1, .int .i64 a1_2] 39 (0, 0))) ∧ Aside0 (wc.heap[gb107]? = some (.cells #[.int .i64 ((rd_T24 l0_0 x19_1).f0), .int .i64 ((rd_T24 l0_0 x19_1).f1)] 24 (0, 0))) ∧ Aside0 (Below w.heap.size w wc))
        case first =>
         have H := HC16.out
         clear HC16
         by_cases c24 : t108 = 2
         ·rw [if_pos c24] at H
          have c24b0 : (t108 == 2) = true := beq_iff_eq.mpr c24
          have c24b1 : (t108 != 2) = false := bne_eq_false_iff_eq.mpr c24
          clear c24
          (first | rw [c24b0] | (simp only [i64_w, i32_w]; rw [c24b0]) | skip)
          have H' := zam H
          clear H
          go_wp2
          go_meet
          case rel => exact ⟨_, (wrap64 (x6_1 + 1)), (by first | rfl | (simp; done) | (simp [*]; done)), H', ⟨by have := HK1.out; first | omega | exact Nat.le_refl _⟩, ⟨by (with_reducible repeat (first | apply zRa | apply zRn | apply zRd)); exact HO_5.out⟩, ⟨by (with_reducible repeat (first | refine zkn ?_ _ | refine zkd ?_ | refine zka ?_ _)); exact BK101.out⟩, ⟨by (with_reducible repeat (first | refine zkn ?_ _ | refine zkd ?_ | refine zka ?_ _)); exact BK102.out⟩, ⟨by (with_reducible repeat (first | refine zkn ?_ _ | refine zkd ?_ | refine zka ?_ _)); exact BK107.out⟩, ⟨by repeat (first | (with_reducible first | exact HB.out | apply zba | apply zbn | apply zb1 | refine zbs ?_ GE101.out | refine zbs ?_ GE102.out | refine zbs ?_ GE107.out) | exact HB.out)⟩⟩
         rw [if_neg c24] at H
         have c24b0 : (t108 == 2) = false := beq_eq_false_iff_ne.mpr c24
         have c24b1 : (t108 != 2) = true := bne_iff_ne.mpr c24
         (first | rw [c24b0] | (simp only [i64_w, i32_w]; rw [c24b0]) | skip)
         have H' := zam H
         clear H
         go_wp2
         go_meet
         case rel => exact ⟨_, (0), (by first | rfl | (simp; done) | (simp [*]; done)), H', ⟨by have := HK1.out; first | omega | exact Nat.le_refl _⟩, ⟨by (with_reducible repeat (first | apply zRa | apply zRn | apply zRd)); exact HO_5.out⟩, ⟨by (with_reducible repeat (first | refine zkn ?_ _ | refine zkd ?_ | refine zka ?_ _)); exact BK101.out⟩, ⟨by (with_reducible repeat (first | refine zkn ?_ _ | refine zkd ?_ | refine zka ?_ _)); exact BK102.out⟩, ⟨by (with_reducible repeat (first | refine zkn ?_ _ | refine zkd ?_ | refine zka ?_ _)); exact BK107.out⟩, ⟨by repeat (first | (with_reducible first | exact HB.out | apply zba | apply zbn | apply zb1 | refine zbs ?_ GE101.out | refine zbs ?_ GE102.out | refine zbs ?_ GE107.out) | exact HB.out)⟩⟩
        case rest =>
         clear HC16
         try clear c1
         try clear p1
         try clear q1
         try clear hx1
         try clear c2
         try clear p2
         try clear c3
         try clear c3b0
         try clear c3b1
         try clear c4
         try clear c4b0
         try clear c4b1
         try clear p6
         try clear c7
         try clear c10
         try clear p10
         try clear q10
         try clear hx10
         try clear c12
         try clear c12b0
         try clear c13
         try clear c13b0
         try clear c14
         try clear c14b0
         try clear c18
         try clear c19
         try clear c21
         try clear c24
         try clear c24b0
         try clear c24b1
         try clear hcz11_0
         try clear hcz20_0
         try clear hcz20_1
         try clear hcz22_0
         try clear hcz22_1
         try clear hcz22_2
         try clear hcz8_0
         try clear hfz11_0
         try clear hfz20_0
         try clear hfz20_1
         try clear hfz22_0
         try clear hfz22_1
         try clear hfz22_2
         try clear hfz8_0
         try clear hx106_0
         try clear hx106_1
         try clear p106
         try clear p2
         try clear q106
         obtain ⟨kq, x6_15, rfl, HA, HJ15, HO_5, BK101, BK102, BK107, HB⟩ := hcut
         cases kq with
         | zero => exact absurd HA.out (by simp [sound_risen.j1])
         | succ kj15 =>
          have H := HA.out
          clear HA
          simp only [sound_risen.j1] at H
          have HC25 := zam H
          clear H
          go_upto_if 35 with (fail)
          go_cut [7] (fun v7 wc => ∃ (kq : Nat) (x7_24 : Int), v7 = .int .i64 x7_24 ∧ Aside0 (sound_risen.j2 kq x5_1 x6_15 x7_24 x8_1 x19_1 l0_0 (l0_0.length : Int) x19_1 a1_0 a1_1 a1_2 = some r) ∧ Aside0 (kq ≤ kj15) ∧ Aside0 (Kd.R (Kd.int .i64) 50 wc w.heap.size (fun _ => True) v104 x5_1) ∧ Aside0 (wc.heap[gb101]? = some (.cells #[(.slice (some ad106) l0_0.length c0_0)] 45 (0, 0))) ∧ Aside0 (wc.heap[gb102]? = some (.cells #[.int .i64 a1_0, .int .i64 a1_1, .int .i64 a1_2] 39 (0, 0))) ∧ Aside0 (wc.heap[gb107]? = some (.cells #[.int .i64 ((rd_T24 l0_0 x19_1).f0), .int .i64 ((rd_T24 l0_0 x19_1).f1)] 24 (0, 0))) ∧ Aside0 (Below w.heap.size w wc))
          case first =>
           have H := HC25.out
           clear HC25
           by_cases c26 : t108 = 0
           ·rw [if_pos c26] at H
            have c26b0 : (t108 == 0) = true := beq_iff_eq.mpr c26
            have c26b1 : (t108 != 0) = false := bne_eq_false_iff_eq.mpr c26
            clear c26
            (first | rw [c26b0] | (simp only [i64_w, i32_w]; rw [c26b0]) | skip)
            have H' := zam H
            clear H
            go_wp2
            go_meet
            case rel => exact ⟨_, (0), (by first | rfl | (simp; done) | (simp [*]; done)), H', ⟨by have := HK1.out; have := HJ15.out; first | omega | exact Nat.le_refl _⟩, ⟨by (with_reducible repeat (first | apply zRa | apply zRn | apply zRd)); exact HO_5.out⟩, ⟨by (with_reducible repeat (first | refine zkn ?_ _ | refine zkd ?_ | refine zka ?_ _)); exact BK101.out⟩, ⟨by (with_reducible repeat (first | refine zkn ?_ _ | refine zkd ?_ | refine zka ?_ _)); exact BK102.out⟩, ⟨by (with_reducible repeat (first | refine zkn ?_ _ | refine zkd ?_ | refine zka ?_ _)); exact BK107.out⟩, ⟨by repeat (first | (with_reducible first | exact HB.out | apply zba | apply zbn | apply zb1 | refine zbs ?_ GE101.out | refine zbs ?_ GE102.out | refine zbs ?_ GE107.out) | exact HB.out)⟩⟩
           rw [if_neg c26] at H
           have c26b0 : (t108 == 0) = false := beq_eq_false_iff_ne.mpr c26
           have c26b1 : (t108 != 0) = true := bne_iff_ne.mpr c26
           (first | rw [c26b0] | (simp only [i64_w, i32_w]; rw [c26b0]) | skip)
           have H' := zam H
           clear H
           go_wp2
           go_meet
           case rel => exact ⟨_, ((wrap64 (x7_1 + 1))), (by first | rfl | (simp; done) | (simp [*]; done)), H', ⟨by have := HK1.out; have := HJ15.out; first | omega | exact Nat.le_refl _⟩, ⟨by (with_reducible repeat (first | apply zRa | apply zRn | apply zRd)); exact HO_5.out⟩, ⟨by (with_reducible repeat (first | refine zkn ?_ _ | refine zkd ?_ | refine zka ?_ _)); exact BK101.out⟩, ⟨by (with_reducible repeat (first | refine zkn ?_ _ | refine zkd ?_ | refine zka ?_ _)); exact BK102.out⟩, ⟨by (with_reducible repeat (first | refine zkn ?_ _ | refine zkd ?_ | refine zka ?_ _)); exact BK107.out⟩, ⟨by repeat (first | (with_reducible first | exact HB.out | apply zba | apply zbn | apply zb1 | refine zbs ?_ GE101.out | refine zbs ?_ GE102.out | refine zbs ?_ GE107.out) | exact HB.out)⟩⟩
          case rest =>
           clear HC25
           try clear c1
           try clear p1
           try clear q1
           try clear hx1
           try clear c2
           try clear p2
           try clear c3
           try clear c3b0
           try clear c3b1
           try clear c4
           try clear c4b0
           try clear c4b1
           try clear p6
           try clear c7
           try clear c10
           try clear p10
           try clear q10
           try clear hx10
           try clear c12
           try clear c12b0
           try clear c13
           try clear c13b0
           try clear c14
           try clear c14b0
           try clear c18
           try clear c19
           try clear c21
           try clear c24
           try clear c24b0
           try clear c24b1
           try clear c26
           try clear c26b0
           try clear c26b1
           try clear hcz11_0
           try clear hcz20_0
           try clear hcz20_1
           try clear hcz22_0
           try clear hcz22_1
           try clear hcz22_2
           try clear hcz8_0
           try clear hfz11_0
           try clear hfz20_0
           try clear hfz20_1
           try clear hfz22_0
           try clear hfz22_1
           try clear hfz22_2
           try clear hfz8_0
           try clear hx106_0
           try clear hx106_1
           try clear p1
           try clear p10
           try clear p106
           try clear p2
           try clear p6
           try clear q1
           try clear q10
           try clear q106
           obtain ⟨kq, x7_24, rfl, HA, HJ24, HO_5, BK101, BK102, BK107, HB⟩ := hcut
           cases kq with
           | zero => exact absurd HA.out (by simp [sound_risen.j2])
           | succ kj24 =>
            have H := HA.out
            clear HA
            simp only [sound_risen.j2] at H
            by_cases c27 : x6_15 ≥ a1_1
            ·rw [if_pos c27] at H
             have c27b0 : decide (a1_1 ≤ x6_15) = true := zdt c27
             clear c27
             by_cases c28 : 0 ≤ x19_1
             ·rw [if_pos c28] at H
              have c28b0 : decide (0 ≤ x19_1) = true := zdt c28
              clear c28
              by_cases c29 : x19_1 < (x5_1.length : Int)
              ·rw [if_pos c29] at H
               have c29b0 : decide (x19_1 < (x5_1.length : Int)) = true := zdt c29
               clear c29
               obtain ⟨y109, hy109⟩ : ∃ y_ : List Int, y_ = (x5_1.set (x19_1 : Int).toNat 2) := ⟨_, rfl⟩
               replace H : (sound_risen.l0 kj24 y109 x6_15 x7_24 2 l0_0 (l0_0.length : Int) (wrap64 (x19_1 + 1)) a1_0 a1_1 a1_2) = some r := by first | (rw [hy109]; with_reducible exact H) | (have H2_ := (Option.bind_some _ _).symm.trans H; rw [hy109]; with_reducible exact H2_) | (have H2_ := (Option.bind_some _ _).symm.trans H; with_reducible exact H2_) | with_reducible exact H | (rw [hy109]; exact H) | exact H
               have Ny109 := zam hy109
               clear hy109
               have H' := zam H
               clear H
               have hnb31 := NB102_101.out
               have hnc31 := NB101_102.out
               have hnb32 := NB102_107.out
               have hnc32 := NB107_102.out
               have hcz33_0 : wc.cell? ⟨gb102, 0, none⟩ = some (.int .i64 a1_0) := (zkc BK102.out 0).trans rfl
               have hcz33_1 : wc.cell? ⟨gb102, 1, none⟩ = some (.int .i64 a1_1) := (zkc BK102.out 1).trans rfl
               have hcz33_2 : wc.cell? ⟨gb102, 2, none⟩ = some (.int .i64 a1_2) := (zkc BK102.out 2).trans rfl
               have hfz33_0 := zkz BK102.out 0
               have hfz33_1 := zkz BK102.out 1
               have hfz33_2 := zkz BK102.out 2
               have p30 : 0 ≤ (x19_1 : Int) := zod (by first | (with_reducible assumption) | assumption)
               have q30 : (x19_1 : Int) < ((x5_1.length : Int) : Int) := zod (by first | (with_reducible assumption) | assumption)
               obtain ⟨go30, co30, eo30, gb30, gl30, cl30, HG30⟩ := Kd.R_form HO_5.out (by omega)
               (first | cases eo30 | (injection eo30 with ea_ en_ ec_; (first | subst ea_ | (injection ea_ with ea_; subst ea_)); subst ec_; clear en_))
               have GB30 := zam gb30
               have GG30 := zam HG30
               clear gb30 gl30 HG30
               obtain ⟨hx30_0, hf30_0⟩ := Kd.R_celln 0 HO_5.out (x19_1 : Int) p30 q30
               replace p30 := eq_true p30
               replace q30 := eq_true q30
               have HP34 := Kd.R_putg HO_5.out (x19_1 : Int) 2
               go_wp2_with (first | ((with_reducible refine gate_store (t := 50) (p := 49) rfl ?_); refine store_event (t := 50) (p := 49) (v := ?vo_w35) (w1 := (wc.setCell ⟨go30, (x19_1 : Int).toNat, none⟩ (.int .i64 2))) ?hg ?ho ?hn ?hr ?_; (case ho => rfl); (case hg => rfl); (case hn => rfl); (case hr => first | (go_simp; done) | (go_simp; rfl)); intro w35 hw; have hg : wc.grownBy w35 (some go30) := (by rw [hw]; exact HP34.2); have hp_ : Kd.R (Kd.int .i64) 50 w35 w.heap.size (fun _ => True) (.slice (some ⟨go30, 0, none⟩) x5_1.length co30) y109 := (by rw [hw, Ny109.out]; exact HP34.1); clear HP34; have n0_ := zam (hp_); have n1_ := zam (blk_grown (g := gb101) (o := .cells #[.slice (some ad106) l0_0.length c0_0] 45 (0, 0)) (by (with_reducible repeat (first | refine zkn ?_ _ | refine zkd ?_ | refine zka ?_ _)); exact BK101.out) hg (Kd.R_ne HO_5.out BK101.out (by decide))); have n2_ := zam (blk_grown (g := gb102) (o := .cells #[.int .i64 a1_0, .int .i64 a1_1, .int .i64 a1_2] 39 (0, 0)) (by (with_reducible repeat (first | refine zkn ?_ _ | refine zkd ?_ | refine zka ?_ _)); exact BK102.out) hg (Kd.R_ne HO_5.out BK102.out (by decide))); have n3_ := zam (blk_grown (g := gb107) (o := .cells #[.int .i64 ((rd_T24 l0_0 x19_1).f0), .int .i64 ((rd_T24 l0_0 x19_1).f1)] 24 (0, 0)) (by (with_reducible repeat (first | refine zkn ?_ _ | refine zkd ?_ | refine zka ?_ _)); exact BK107.out) hg (Kd.R_ne HO_5.out BK107.out (by decide))); have n4_ := zam ((by rw [hw]; exact zbs (HB.out) GB30.out : Below w.heap.size w w35)); clear HO_5; clear BK101; clear BK102; clear BK107; clear HB; have HO_5 := n0_; have BK101 := n1_; have BK102 := n2_; have BK107 := n3_; have HB := n4_; clear n0_ n1_ n2_ n3_ n4_; clear hg hw hp_))
               go_roundg kj24
               case measure => have := HK1.out; have := HJ15.out; have := HJ24.out; omega
               case rel => exact ⟨(y109), (x6_15), (x7_24), (2), (wrap64 (x19_1 + 1)), (by first | rfl | (simp; done) | (simp [*]; done)), (by first | rfl | (simp; done) | (simp [*]; done)), (by first | rfl | (simp; done) | (simp [*]; done)), (by first | rfl | (simp; done) | (simp [*]; done)), H', ⟨by have := HK1.out; have := HJ15.out; have := HJ24.out; omega⟩, ⟨by (with_reducible repeat (first | apply zRa | apply zRn | apply zRd)); exact HO_5.out⟩, ⟨by (with_reducible repeat (first | refine zkn ?_ _ | refine zkd ?_ | refine zka ?_ _)); exact BK101.out⟩, ⟨by (with_reducible repeat (first | refine zkn ?_ _ | refine zkd ?_ | refine zka ?_ _)); exact BK102.out⟩, ⟨by repeat (first | (with_reducible first | exact HB.out | apply zba | apply zbn | apply zb1 | refine zbs ?_ GE101.out | refine zbs ?_ GE102.out | refine zbs ?_ GE107.out) | exact HB.out)⟩⟩
              rw [if_neg c29] at H
              exact absurd H (by simp)
             rw [if_neg c28] at H
             exact absurd H (by simp)
            rw [if_neg c27] at H
            have c27b0 : decide (a1_1 ≤ x6_15) = false := zdf c27
            clear c27
            by_cases c36 : x7_24 ≥ a1_1
            ·rw [if_pos c36] at H
             have c36b0 : decide (a1_1 ≤ x7_24) = true := zdt c36
             clear c36
             obtain ⟨ji37, hji37⟩ : ∃ j_ : Int, (mx x8_1 1) = j_ := ⟨_, rfl⟩
             replace H : (if 0 ≤ x19_1 then (if x19_1 < (x5_1.length : Int) then (sound_risen.l0 kj24 (x5_1.set (x19_1 : Int).toNat (ji37)) x6_15 x7_24 ji37 l0_0 (l0_0.length : Int) (wrap64 (x19_1 + 1)) a1_0 a1_1 a1_2) else (none)) else (none)) = some r := by first | (rw [hji37] at H; exact H) | (simp only [hji37] at H ⊢; exact H)
             have hji37_ : (if x8_1 < 1 then 1 else x8_1) = ji37 := hji37
             by_cases c38 : 0 ≤ x19_1
             ·rw [if_pos c38] at H
              have c38b0 : decide (0 ≤ x19_1) = true := zdt c38
              clear c38
              by_cases c39 : x19_1 < (x5_1.length : Int)
              ·rw [if_pos c39] at H
               have c39b0 : decide (x19_1 < (x5_1.length : Int)) = true := zdt c39
               clear c39
               obtain ⟨y110, hy110⟩ : ∃ y_ : List Int, y_ = (x5_1.set (x19_1 : Int).toNat (ji37)) := ⟨_, rfl⟩
               replace H : (sound_risen.l0 kj24 y110 x6_15 x7_24 ji37 l0_0 (l0_0.length : Int) (wrap64 (x19_1 + 1)) a1_0 a1_1 a1_2) = some r := by first | (rw [hy110]; with_reducible exact H) | (have H2_ := (Option.bind_some _ _).symm.trans H; rw [hy110]; with_reducible exact H2_) | (have H2_ := (Option.bind_some _ _).symm.trans H; with_reducible exact H2_) | with_reducible exact H | (rw [hy110]; exact H) | exact H
               have Ny110 := zam hy110
               clear hy110
               have H' := zam H
               clear H
               have hnb41 := NB102_101.out
               have hnc41 := NB101_102.out
               have hnb42 := NB102_107.out
               have hnc42 := NB107_102.out
               have hcz43_0 : wc.cell? ⟨gb102, 0, none⟩ = some (.int .i64 a1_0) := (zkc BK102.out 0).trans rfl
               have hcz43_1 : wc.cell? ⟨gb102, 1, none⟩ = some (.int .i64 a1_1) := (zkc BK102.out 1).trans rfl
               have hcz43_2 : wc.cell? ⟨gb102, 2, none⟩ = some (.int .i64 a1_2) := (zkc BK102.out 2).trans rfl
               have hfz43_0 := zkz BK102.out 0
               have hfz43_1 := zkz BK102.out 1
               have hfz43_2 := zkz BK102.out 2
               have p40 : 0 ≤ (x19_1 : Int) := zod (by first | (with_reducible assumption) | assumption)
               have q40 : (x19_1 : Int) < ((x5_1.length : Int) : Int) := zod (by first | (with_reducible assumption) | assumption)
               obtain ⟨go40, co40, eo40, gb40, gl40, cl40, HG40⟩ := Kd.R_form HO_5.out (by omega)
               (first | cases eo40 | (injection eo40 with ea_ en_ ec_; (first | subst ea_ | (injection ea_ with ea_; subst ea_)); subst ec_; clear en_))
               have GB40 := zam gb40
               have GG40 := zam HG40
               clear gb40 gl40 HG40
               obtain ⟨hx40_0, hf40_0⟩ := Kd.R_celln 0 HO_5.out (x19_1 : Int) p40 q40
               replace p40 := eq_true p40
               replace q40 := eq_true q40
               have HP44 := Kd.R_putg HO_5.out (x19_1 : Int) ji37
               go_wp2_with (first | ((with_reducible refine gate_store (t := 50) (p := 49) rfl ?_); refine store_event (t := 50) (p := 49) (v := ?vo_w45) (w1 := (wc.setCell ⟨go40, (x19_1 : Int).toNat, none⟩ (.int .i64 ji37))) ?hg ?ho ?hn ?hr ?_; (case ho => rfl); (case hg => rfl); (case hn => rfl); (case hr => first | (go_simp; done) | (go_simp; rfl)); intro w45 hw; have hg : wc.grownBy w45 (some go40) := (by rw [hw]; exact HP44.2); have hp_ : Kd.R (Kd.int .i64) 50 w45 w.heap.size (fun _ => True) (.slice (some ⟨go40, 0, none⟩) x5_1.length co40) y110 := (by rw [hw, Ny110.out]; exact HP44.1); clear HP44; have n0_ := zam (hp_); have n1_ := zam (blk_grown (g := gb101) (o := .cells #[.slice (some ad106) l0_0.length c0_0] 45 (0, 0)) (by (with_reducible repeat (first | refine zkn ?_ _ | refine zkd ?_ | refine zka ?_ _)); exact BK101.out) hg (Kd.R_ne HO_5.out BK101.out (by decide))); have n2_ := zam (blk_grown (g := gb102) (o := .cells #[.int .i64 a1_0, .int .i64 a1_1, .int .i64 a1_2] 39 (0, 0)) (by (with_reducible repeat (first | refine zkn ?_ _ | refine zkd ?_ | refine zka ?_ _)); exact BK102.out) hg (Kd.R_ne HO_5.out BK102.out (by decide))); have n3_ := zam (blk_grown (g := gb107) (o := .cells #[.int .i64 ((rd_T24 l0_0 x19_1).f0), .int .i64 ((rd_T24 l0_0 x19_1).f1)] 24 (0, 0)) (by (with_reducible repeat (first | refine zkn ?_ _ | refine zkd ?_ | refine zka ?_ _)); exact BK107.out) hg (Kd.R_ne HO_5.out BK107.out (by decide))); have n4_ := zam ((by rw [hw]; exact zbs (HB.out) GB40.out : Below w.heap.size w w45)); clear HO_5; clear BK101; clear BK102; clear BK107; clear HB; have HO_5 := n0_; have BK101 := n1_; have BK102 := n2_; have BK107 := n3_; have HB := n4_; clear n0_ n1_ n2_ n3_ n4_; clear hg hw hp_))
               go_roundg kj24
               case measure => have := HK1.out; have := HJ15.out; have := HJ24.out; omega
               case rel => exact ⟨(y110), (x6_15), (x7_24), (ji37), (wrap64 (x19_1 + 1)), (by first | rfl | (simp; done) | (simp [*]; done)), (by first | rfl | (simp; done) | (simp [*]; done)), (by first | rfl | (simp; done) | (simp only [← hji37] <;> (first | rfl | simp)) | (simp [*]; done)), (by first | rfl | (simp; done) | (simp [*]; done)), H', ⟨by have := HK1.out; have := HJ15.out; have := HJ24.out; omega⟩, ⟨by (with_reducible repeat (first | apply zRa | apply zRn | apply zRd)); exact HO_5.out⟩, ⟨by (with_reducible repeat (first | refine zkn ?_ _ | refine zkd ?_ | refine zka ?_ _)); exact BK101.out⟩, ⟨by (with_reducible repeat (first | refine zkn ?_ _ | refine zkd ?_ | refine zka ?_ _)); exact BK102.out⟩, ⟨by repeat (first | (with_reducible first | exact HB.out | apply zba | apply zbn | apply zb1 | refine zbs ?_ GE101.out | refine zbs ?_ GE102.out | refine zbs ?_ GE107.out) | exact HB.out)⟩⟩
              rw [if_neg c39] at H
              exact absurd H (by simp)
             rw [if_neg c38] at H
             exact absurd H (by simp)
            rw [if_neg c36] at H
            have c36b0 : decide (a1_1 ≤ x7_24) = false := zdf c36
            clear c36
            by_cases c46 : 0 ≤ x19_1
            ·rw [if_pos c46] at H
             have c46b0 : decide (0 ≤ x19_1) = true := zdt c46
             clear c46
             by_cases c47 : x19_1 < (x5_1.length : Int)
             ·rw [if_pos c47] at H
              have c47b0 : decide (x19_1 < (x5_1.length : Int)) = true := zdt c47
              clear c47
              obtain ⟨y111, hy111⟩ : ∃ y_ : List Int, y_ = (x5_1.set (x19_1 : Int).toNat x8_1) := ⟨_, rfl⟩
              replace H : (sound_risen.l0 kj24 y111 x6_15 x7_24 x8_1 l0_0 (l0_0.length : Int) (wrap64 (x19_1 + 1)) a1_0 a1_1 a1_2) = some r := by first | (rw [hy111]; with_reducible exact H) | (have H2_ := (Option.bind_some _ _).symm.trans H; rw [hy111]; with_reducible exact H2_) | (have H2_ := (Option.bind_some _ _).symm.trans H; with_reducible exact H2_) | with_reducible exact H | (rw [hy111]; exact H) | exact H
              have Ny111 := zam hy111
              clear hy111
              have H' := zam H
              clear H
              have hnb49 := NB102_101.out
              have hnc49 := NB101_102.out
              have hnb50 := NB102_107.out
              have hnc50 := NB107_102.out
              have hcz51_0 : wc.cell? ⟨gb102, 0, none⟩ = some (.int .i64 a1_0) := (zkc BK102.out 0).trans rfl
              have hcz51_1 : wc.cell? ⟨gb102, 1, none⟩ = some (.int .i64 a1_1) := (zkc BK102.out 1).trans rfl
              have hcz51_2 : wc.cell? ⟨gb102, 2, none⟩ = some (.int .i64 a1_2) := (zkc BK102.out 2).trans rfl
              have hfz51_0 := zkz BK102.out 0
              have hfz51_1 := zkz BK102.out 1
              have hfz51_2 := zkz BK102.out 2
              have p48 : 0 ≤ (x19_1 : Int) := zod (by first | (with_reducible assumption) | assumption)
              have q48 : (x19_1 : Int) < ((x5_1.length : Int) : Int) := zod (by first | (with_reducible assumption) | assumption)
              obtain ⟨go48, co48, eo48, gb48, gl48, cl48, HG48⟩ := Kd.R_form HO_5.out (by omega)
              (first | cases eo48 | (injection eo48 with ea_ en_ ec_; (first | subst ea_ | (injection ea_ with ea_; subst ea_)); subst ec_; clear en_))
              have GB48 := zam gb48
              have GG48 := zam HG48
              clear gb48 gl48 HG48
              obtain ⟨hx48_0, hf48_0⟩ := Kd.R_celln 0 HO_5.out (x19_1 : Int) p48 q48
              replace p48 := eq_true p48
              replace q48 := eq_true q48
              have HP52 := Kd.R_putg HO_5.out (x19_1 : Int) x8_1
              go_wp2_with (first | ((with_reducible refine gate_store (t := 50) (p := 49) rfl ?_); refine store_event (t := 50) (p := 49) (v := ?vo_w53) (w1 := (wc.setCell ⟨go48, (x19_1 : Int).toNat, none⟩ (.int .i64 x8_1))) ?hg ?ho ?hn ?hr ?_; (case ho => rfl); (case hg => rfl); (case hn => rfl); (case hr => first | (go_simp; done) | (go_simp; rfl)); intro w53 hw; have hg : wc.grownBy w53 (some go48) := (by rw [hw]; exact HP52.2); have hp_ : Kd.R (Kd.int .i64) 50 w53 w.heap.size (fun _ => True) (.slice (some ⟨go48, 0, none⟩) x5_1.length co48) y111 := (by rw [hw, Ny111.out]; exact HP52.1); clear HP52; have n0_ := zam (hp_); have n1_ := zam (blk_grown (g := gb101) (o := .cells #[.slice (some ad106) l0_0.length c0_0] 45 (0, 0)) (by (with_reducible repeat (first | refine zkn ?_ _ | refine zkd ?_ | refine zka ?_ _)); exact BK101.out) hg (Kd.R_ne HO_5.out BK101.out (by decide))); have n2_ := zam (blk_grown (g := gb102) (o := .cells #[.int .i64 a1_0, .int .i64 a1_1, .int .i64 a1_2] 39 (0, 0)) (by (with_reducible repeat (first | refine zkn ?_ _ | refine zkd ?_ | refine zka ?_ _)); exact BK102.out) hg (Kd.R_ne HO_5.out BK102.out (by decide))); have n3_ := zam (blk_grown (g := gb107) (o := .cells #[.int .i64 ((rd_T24 l0_0 x19_1).f0), .int .i64 ((rd_T24 l0_0 x19_1).f1)] 24 (0, 0)) (by (with_reducible repeat (first | refine zkn ?_ _ | refine zkd ?_ | refine zka ?_ _)); exact BK107.out) hg (Kd.R_ne HO_5.out BK107.out (by decide))); have n4_ := zam ((by rw [hw]; exact zbs (HB.out) GB48.out : Below w.heap.size w w53)); clear HO_5; clear BK101; clear BK102; clear BK107; clear HB; have HO_5 := n0_; have BK101 := n1_; have BK102 := n2_; have BK107 := n3_; have HB := n4_; clear n0_ n1_ n2_ n3_ n4_; clear hg hw hp_))
              go_roundg kj24
              case measure => have := HK1.out; have := HJ15.out; have := HJ24.out; omega
              case rel => exact ⟨(y111), (x6_15), (x7_24), (x8_1), (wrap64 (x19_1 + 1)), (by first | rfl | (simp; done) | (simp [*]; done)), (by first | rfl | (simp; done) | (simp [*]; done)), (by first | rfl | (simp; done) | (simp [*]; done)), (by first | rfl | (simp; done) | (simp [*]; done)), H', ⟨by have := HK1.out; have := HJ15.out; have := HJ24.out; omega⟩, ⟨by (with_reducible repeat (first | apply zRa | apply zRn | apply zRd)); exact HO_5.out⟩, ⟨by (with_reducible repeat (first | refine zkn ?_ _ | refine zkd ?_ | refine zka ?_ _)); exact BK101.out⟩, ⟨by (with_reducible repeat (first | refine zkn ?_ _ | refine zkd ?_ | refine zka ?_ _)); exact BK102.out⟩, ⟨by repeat (first | (with_reducible first | exact HB.out | apply zba | apply zbn | apply zb1 | refine zbs ?_ GE101.out | refine zbs ?_ GE102.out | refine zbs ?_ GE107.out) | exact HB.out)⟩⟩
             rw [if_neg c47] at H
             exact absurd H (by simp)
            rw [if_neg c46] at H
            exact absurd H (by simp)
       rw [if_neg c14] at H
       exact absurd H (by simp)
      rw [if_neg c13] at H
      exact absurd H (by simp)
     rw [if_neg c12] at H
     have c12b0 : decide (x19_1 < (l0_0.length : Int)) = false := zdf c12
     clear c12
     obtain rfl := zsi H
     go_wp2
     go_ret
     exact ⟨_, by first | rfl | (simp [errW_none, errW_some] <;> rfl) | (simp [*, errW_none, errW_some] <;> rfl), by (with_reducible repeat (first | apply zRa | apply zRn | apply zRd)); exact HO_5.out, by repeat (first | (with_reducible first | exact HB.out | apply zba | apply zbn | apply zb1 | refine zbs ?_ GE101.out | refine zbs ?_ GE102.out) | exact HB.out)⟩
  rw [if_neg c4] at H
  exact absurd H (by simp)
 rw [if_neg c3] at H
 exact absurd H (by simp)
mutual
def sound_alarm.l0 : Nat → List (S45) → List (List Int) → List (S45) → Int → Int → Int → Int → Int → Option (List Int)
 | 0, _, _, _, _, _, _, _, _ => none
 | k + 1, x0, x5, x13, x14, x15, x102000, x102001, x102002 => if x15 < x14 then (if 0 ≤ x15 then (if x15 < (x13.length : Int) then ((sound_risen.f k ((rd_T45 x13 x15).f0) x102000 x102001 x102002).bind fun t104 => (if x5.length < 5864062014805 then (sound_alarm.l0 k x0 (x5 ++ [t104]) x13 x14 (wrap64 (x15 + 1)) x102000 x102001 x102002) else (none))) else (none)) else (none)) else (if 0 < (x0.length : Int) then (if 0 ≤ (((rd_T45 x0 0).f0).length : Int) then (if ((((rd_T45 x0 0).f0).length : Int) : Int).toNat ≤ 35184372088832 then ((some (List.replicate ((((rd_T45 x0 0).f0).length : Int) : Int).toNat 0 : List Int)).bind fun y111 => (sound_alarm.l1 k x5 y111 (y111.length : Int) 0 x102000 x102001 x102002)) else (none)) else (none)) else (none))
def sound_alarm.l1 : Nat → List (List Int) → List Int → Int → Int → Int → Int → Int → Option (List Int)
 | 0, _, _, _, _, _, _, _ => none
 | k + 1, x5, x8, x33, x34, x102000, x102001, x102002 => if x34 < x33 then (sound_alarm.l2 k x5 x8 x34 ([] : List Int) x33 x34 x5 (x5.length : Int) 0 x102000 x102001 x102002) else (some x8)
def sound_alarm.l2 : Nat → List (List Int) → List Int → Int → List Int → Int → Int → List (List Int) → Int → Int → Int → Int → Int → Option (List Int)
 | 0, _, _, _, _, _, _, _, _, _, _, _, _ => none
 | k + 1, x5, x8, x9, x10, x33, x34, x37, x38, x39, x102000, x102001, x102002 => if x39 < x38 then (if 0 ≤ x39 then (if x39 < (x37.length : Int) then (if 0 ≤ x9 then (if x9 < ((rd_L4 x37 x39).length : Int) then (if x10.length < 17592186044416 then (sound_alarm.l2 k x5 x8 x9 (x10 ++ [rd (rd_L4 x37 x39) x9]) x33 x34 x37 x38 (wrap64 (x39 + 1)) x102000 x102001 x102002) else (none)) else (none)) else (none)) else (none)) else (none)) else ((sound_enough.f k x102002 x10).bind fun t119 => (if 0 ≤ x9 then (if x9 < (x8.length : Int) then (sound_alarm.l1 k x5 (x8.set (x9 : Int).toNat t119) x33 (wrap64 (x34 + 1)) x102000 x102001 x102002) else (none)) else (none)))
end
def sound_alarm.f (k : Nat) (l0 : List (S45)) (a1_0 : Int) (a1_1 : Int) (a1_2 : Int) : Option (List Int) := sound_alarm.l0 k l0 ([] : List (List Int)) l0 (l0.length : Int) 0 a1_0 a1_1 a1_2
theorem sound_alarm.mono_l : ∀ k, (∀ y0 y1 y2 y3 y4 y5 y6 y7, LeO (sound_alarm.l0 k y0 y1 y2 y3 y4 y5 y6 y7) (sound_alarm.l0 (k + 1) y0 y1 y2 y3 y4 y5 y6 y7)) ∧ (∀ y0 y1 y2 y3 y4 y5 y6, LeO (sound_alarm.l1 k y0 y1 y2 y3 y4 y5 y6) (sound_alarm.l1 (k + 1) y0 y1 y2 y3 y4 y5 y6)) ∧ (∀ y0 y1 y2 y3 y4 y5 y6 y7 y8 y9 y10 y11, LeO (sound_alarm.l2 k y0 y1 y2 y3 y4 y5 y6 y7 y8 y9 y10 y11) (sound_alarm.l2 (k + 1) y0 y1 y2 y3 y4 y5 y6 y7 y8 y9 y10 y11))
 | 0 => ⟨fun _ _ _ _ _ _ _ _ r h => by simp [sound_alarm.l0] at h, fun _ _ _ _ _ _ _ r h => by simp [sound_alarm.l1] at h, fun _ _ _ _ _ _ _ _ _ _ _ _ r h => by simp [sound_alarm.l2] at h⟩
 | k + 1 => by
  obtain ⟨ih0, ih1, ih2⟩ := sound_alarm.mono_l k
  refine ⟨?_, ?_, ?_⟩
  ·intro y0 y1 y2 y3 y4 y5 y6 y7
   unfold sound_alarm.l0
   repeat' first
   | (with_reducible exact ih0 _ _ _ _ _ _ _ _)
   | (with_reducible exact ih1 _ _ _ _ _ _ _)
   | (with_reducible exact ih2 _ _ _ _ _ _ _ _ _ _ _ _)
   | (with_reducible exact sound_enough.mono _ _ _)
   | (with_reducible exact sound_risen.mono _ _ _ _ _)
   | (with_reducible exact LeO.refl _)
   | (with_reducible exact LeO.none _)
   | (with_reducible refine LeO.ite ?_ ?_)
   | (with_reducible refine LeO.bind ?_ (fun _ => ?_))
   | exact ih0 _ _ _ _ _ _ _ _
   | exact ih1 _ _ _ _ _ _ _
   | exact ih2 _ _ _ _ _ _ _ _ _ _ _ _
   | exact sound_enough.mono _ _ _
   | exact sound_risen.mono _ _ _ _ _
   | exact LeO.none _
   | refine LeO.ite ?_ ?_
   | refine LeO.bind ?_ (fun _ => ?_)
  ·intro y0 y1 y2 y3 y4 y5 y6
   unfold sound_alarm.l1
   repeat' first
   | (with_reducible exact ih0 _ _ _ _ _ _ _ _)
   | (with_reducible exact ih1 _ _ _ _ _ _ _)
   | (with_reducible exact ih2 _ _ _ _ _ _ _ _ _ _ _ _)
   | (with_reducible exact sound_enough.mono _ _ _)
   | (with_reducible exact sound_risen.mono _ _ _ _ _)
   | (with_reducible exact LeO.refl _)
   | (with_reducible exact LeO.none _)
   | (with_reducible refine LeO.ite ?_ ?_)
   | (with_reducible refine LeO.bind ?_ (fun _ => ?_))
   | exact ih0 _ _ _ _ _ _ _ _
   | exact ih1 _ _ _ _ _ _ _
   | exact ih2 _ _ _ _ _ _ _ _ _ _ _ _
   | exact sound_enough.mono _ _ _
   | exact sound_risen.mono _ _ _ _ _
   | exact LeO.none _
   | refine LeO.ite ?_ ?_
   | refine LeO.bind ?_ (fun _ => ?_)
  intro y0 y1 y2 y3 y4 y5 y6 y7 y8 y9 y10 y11
  unfold sound_alarm.l2
  repeat' first
  | (with_reducible exact ih0 _ _ _ _ _ _ _ _)
  | (with_reducible exact ih1 _ _ _ _ _ _ _)
  | (with_reducible exact ih2 _ _ _ _ _ _ _ _ _ _ _ _)
  | (with_reducible exact sound_enough.mono _ _ _)
  | (with_reducible exact sound_risen.mono _ _ _ _ _)
  | (with_reducible exact LeO.refl _)
  | (with_reducible exact LeO.none _)
  | (with_reducible refine LeO.ite ?_ ?_)
  | (with_reducible refine LeO.bind ?_ (fun _ => ?_))
  | exact ih0 _ _ _ _ _ _ _ _
  | exact ih1 _ _ _ _ _ _ _
  | exact ih2 _ _ _ _ _ _ _ _ _ _ _ _
  | exact sound_enough.mono _ _ _
  | exact sound_risen.mono _ _ _ _ _
  | exact LeO.none _
  | refine LeO.ite ?_ ?_
  | refine LeO.bind ?_ (fun _ => ?_)
theorem sound_alarm.mono : ∀ a0 a1 a2 a3 k, LeO (sound_alarm.f k a0 a1 a2 a3) (sound_alarm.f (k + 1) a0 a1 a2 a3) := by
 intro a0 a1 a2 a3 k
 obtain ⟨ih0, ih1, ih2⟩ := sound_alarm.mono_l k
 unfold sound_alarm.f
 repeat' first
   | (with_reducible exact ih0 _ _ _ _ _ _ _ _)
   | (with_reducible exact ih1 _ _ _ _ _ _ _)
   | (with_reducible exact ih2 _ _ _ _ _ _ _ _ _ _ _ _)
   | (with_reducible exact sound_enough.mono _ _ _)
   | (with_reducible exact sound_risen.mono _ _ _ _ _)
   | (with_reducible exact LeO.refl _)
   | (with_reducible exact LeO.none _)
   | (with_reducible refine LeO.ite ?_ ?_)
   | (with_reducible refine LeO.bind ?_ (fun _ => ?_))
   | exact ih0 _ _ _ _ _ _ _ _
   | exact ih1 _ _ _ _ _ _ _
   | exact ih2 _ _ _ _ _ _ _ _ _ _ _ _
   | exact sound_enough.mono _ _ _
   | exact sound_risen.mono _ _ _ _ _
   | exact LeO.none _
   | refine LeO.ite ?_ ?_
   | refine LeO.bind ?_ (fun _ => ?_)
set_option maxHeartbeats 8000000 in
set_option maxRecDepth 100000 in
theorem sound_alarm.calls (k : Nat) (A0 : Option Addr) (c0 : Nat) (l0 : List (S45)) (a1_0 : Int) (a1_1 : Int) (a1_2 : Int) (r : List Int) (w : World) (hr0 : Kd.C k45 w A0 l0.length l0) (hc0 : l0.length ≤ c0) (h : sound_alarm.f k l0 a1_0 a1_1 a1_2 = some r) :
  Calls Try.prog 62 #[.slice A0 l0.length c0, .agg #[.int .i64 a1_0, .int .i64 a1_1, .int .i64 a1_2]] w fun e w' => ∃ v0_ : Value, e = .returned (v0_) ∧ Kd.R (Kd.int .i64) 50 w' w.heap.size (fun _ => True) v0_ r ∧ Below w.heap.size w w' := by
 have hu39 := Try.underlying39
 have hu45 := Try.underlying45
 have HR0 := zam hr0
 have HC0 := zam hc0
 clear hr0 hc0
 have HB := zam (Below.refl w.heap.size w)
 have H : (sound_alarm.l0 k l0 ([] : List (List Int)) l0 (l0.length : Int) 0 a1_0 a1_1 a1_2) = some r := h
 clear h
 have H' := zam H
 clear H
 go_enter Try.func62, Try.ntmps62
 go_wp2_with (first | ((with_reducible refine zgd (N := 3) rfl ?_); refine box_event ?hg (N := 3) ?hd (cs := #[.int .i64 a1_0, .int .i64 a1_1, .int .i64 a1_2]) (t := 39) ?hr ?_; (case hd => rfl); (case hg => rfl); (case hr => first | (go_simp; done) | (go_simp; rfl)); intro gb101 hg w3 hbox hb; have n0_ := zam (zbt (by repeat (first | (with_reducible first | exact HB.out | apply zba | apply zbn | apply zb1) | exact HB.out)) hb); have n1_ := zam (hbox); have n2_ := zam ((by rw [hg]; exact (zbz (by repeat (first | (with_reducible first | exact HB.out | apply zba | apply zbn | apply zb1) | exact HB.out))) : w.heap.size ≤ gb101)); have n3_ := zam ((by rw [hg]; exact (zbz (by repeat (first | (with_reducible first | exact HB.out | apply zba | apply zbn | apply zb1) | exact HB.out))) : w.heap.size ≤ gb101)); clear HB; have HB := n0_; have BK101 := n1_; have GW101 := n2_; have GE101 := n3_; clear n0_ n1_ n2_ n3_; clear hb hbox hg))
 go_loopg [5, 15] k (fun kq v5 v15 w' => ∃ (x5_1 : List (List Int)) (x15_1 : Int), v15 = .int .i64 x15_1 ∧ Aside0 (sound_alarm.l0 kq l0 x5_1 l0 (l0.length : Int) x15_1 a1_0 a1_1 a1_2 = some r) ∧ Aside0 (kq ≤ k) ∧ Aside0 (Kd.S (Kd.slice 50 (Kd.int .i64)) 66 w' w.heap.size (fun _ => True) v5 x5_1) ∧ Aside0 (w'.heap[gb101]? = some (.cells #[.int .i64 a1_0, .int .i64 a1_1, .int .i64 a1_2] 39 (0, 0))) ∧ Aside0 (Below w.heap.size w w'))
 case atStart => exact ⟨(([] : List (List Int))), (0), (by first | rfl | (simp; done) | (simp [*]; done)), H', ⟨Nat.le_refl _⟩, ⟨by first | exact Kd.S_nil _ _ _ _ _ | exact Kd.N_nil _ _ _ _ _ | exact Kd.V_nil _ _ _ _ _ | exact Kd.Q_nil _ _ _ _ _ | exact Kd.R_nil _ _ _ _ _⟩, ⟨by (with_reducible repeat (first | refine zkn ?_ _ | refine zkd ?_ | refine zka ?_ _)); exact BK101.out⟩, ⟨by repeat (first | (with_reducible first | exact HB.out | apply zba | apply zbn | apply zb1 | refine zbs ?_ GE101.out) | exact HB.out)⟩⟩
 case round =>
  clear H'
  try clear p2
  obtain ⟨x5_1, x15_1, rfl, HA, HK1, HO_5, BK101, HB⟩ := hrel
  cases gk with
  | zero => exact absurd HA.out (by simp [sound_alarm.l0])
  | succ k1 =>
   have H := HA.out
   clear HA
   simp only [sound_alarm.l0] at H
   by_cases c4 : x15_1 < (l0.length : Int)
   ·rw [if_pos c4] at H
    have c4b0 : decide (x15_1 < (l0.length : Int)) = true := zdt c4
    clear c4
    by_cases c5 : 0 ≤ x15_1
    ·rw [if_pos c5] at H
     have c5b0 : decide (0 ≤ x15_1) = true := zdt c5
     clear c5
     by_cases c6 : x15_1 < (l0.length : Int)
     ·rw [if_pos c6] at H
      have c6b0 : decide (x15_1 < (l0.length : Int)) = true := zdt c6
      clear c6
      replace H := Option.bind_eq_some_iff.mp H
      obtain ⟨t104, A70, H⟩ := H
      replace H : (if x5_1.length < 5864062014805 then (sound_alarm.l0 k1 l0 (x5_1 ++ [t104]) l0 (l0.length : Int) (wrap64 (x15_1 + 1)) a1_0 a1_1 a1_2) else (none)) = some r := H
      have A7 := zam A70
      clear A70
      by_cases c8 : x5_1.length < 5864062014805
      ·rw [if_pos c8] at H
       have LMc8 := zam c8
       clear c8
       obtain ⟨y107, hy107⟩ : ∃ y_ : List (List Int), y_ = (x5_1 ++ [t104]) := ⟨_, rfl⟩
       replace H : (sound_alarm.l0 k1 l0 y107 l0 (l0.length : Int) (wrap64 (x15_1 + 1)) a1_0 a1_1 a1_2) = some r := by first | (rw [hy107]; with_reducible exact H) | (have H2_ := (Option.bind_some _ _).symm.trans H; rw [hy107]; with_reducible exact H2_) | (have H2_ := (Option.bind_some _ _).symm.trans H; with_reducible exact H2_) | with_reducible exact H | (rw [hy107]; exact H) | exact H
       have Ny107 := zam hy107
       clear hy107
       have H' := zam H
       clear H
       have p102 : 0 ≤ (x15_1 : Int) := zod (by first | (with_reducible assumption) | assumption)
       have q102 : x15_1 < (l0.length : Int) := zod (by first | (with_reducible assumption) | assumption)
       obtain ⟨ad102, A102_0, c102_0, e102, hx102_0, hl102_0, hi102_0⟩ := at_T45 HR0.out x15_1 p102 q102
       cases e102
       replace hx102_0 := (HB.out.cell (zwb w _ hx102_0)).trans hx102_0
       have HR102_0 := zam hi102_0
       have HC102_0 := zam hl102_0
       clear hi102_0 hl102_0
       replace p102 := eq_true p102
       replace q102 := eq_true q102
       go_wp2_with (first | ((with_reducible refine zgd (N := 7) rfl ?_); refine box_event ?hg (N := 7) ?hd (cs := #[.slice none 0 0]) (t := 45) ?hr ?_; (case hd => rfl); (case hg => rfl); (case hr => first | (go_simp; done) | (go_simp; rfl)); intro gb103 hg w9 hbox hb; have n0_ := zam (Kd.S_below (by (with_reducible repeat (first | apply Kd.S_alloc | apply Kd.S_drewN | apply Kd.S_drew)); exact HO_5.out) hb); have n1_ := zam (zkb (g := gb101) (o := .cells #[.int .i64 a1_0, .int .i64 a1_1, .int .i64 a1_2] 39 (0, 0)) (by (with_reducible repeat (first | refine zkn ?_ _ | refine zkd ?_ | refine zka ?_ _)); exact BK101.out) hb); have n2_ := zam (zbt (by repeat (first | (with_reducible first | exact HB.out | apply zba | apply zbn | apply zb1 | refine zbs ?_ GE101.out) | exact HB.out)) hb); have n3_ := zam (hbox); have n4_ := zam ((by rw [hg]; exact (zbz (by repeat (first | (with_reducible first | exact HB.out | apply zba | apply zbn | apply zb1 | refine zbs ?_ GE101.out) | exact HB.out))) : w.heap.size ≤ gb103)); have n5_ := zam ((by rw [hg]; exact (zbz (by repeat (first | (with_reducible first | exact HB.out | apply zba | apply zbn | apply zb1 | refine zbs ?_ GE101.out) | exact HB.out))) : w.heap.size ≤ gb103)); have n6_ := zam ((by rw [hg]; exact Nat.ne_of_lt (blk_lt (g := gb101) (o := .cells #[.int .i64 a1_0, .int .i64 a1_1, .int .i64 a1_2] 39 (0, 0)) (by (with_reducible repeat (first | refine zkn ?_ _ | refine zkd ?_ | refine zka ?_ _)); exact BK101.out)) : gb101 ≠ gb103)); have n7_ := zam ((by rw [hg]; exact Nat.ne_of_gt (blk_lt (g := gb101) (o := .cells #[.int .i64 a1_0, .int .i64 a1_1, .int .i64 a1_2] 39 (0, 0)) (by (with_reducible repeat (first | refine zkn ?_ _ | refine zkd ?_ | refine zka ?_ _)); exact BK101.out)) : gb103 ≠ gb101)); clear HO_5; clear BK101; clear HB; have HO_5 := n0_; have BK101 := n1_; have HB := n2_; have BK103 := n3_; have GW103 := n4_; have GE103 := n5_; have NB101_103 := n6_; have NB103_101 := n7_; clear n0_ n1_ n2_ n3_ n4_ n5_ n6_ n7_; clear hb hbox hg; have hnb10 := NB103_101.out; have hnc10 := NB101_103.out; have hcz11_0 : w9.cell? ⟨gb103, 0, none⟩ = some (.slice none 0 0) := (zkc BK103.out 0).trans rfl; have hfz11_0 := zkz BK103.out 0; have hcz12_0 : w9.cell? ⟨gb101, 0, none⟩ = some (.int .i64 a1_0) := (zkc BK101.out 0).trans rfl; have hcz12_1 : w9.cell? ⟨gb101, 1, none⟩ = some (.int .i64 a1_1) := (zkc BK101.out 1).trans rfl; have hcz12_2 : w9.cell? ⟨gb101, 2, none⟩ = some (.int .i64 a1_2) := (zkc BK101.out 2).trans rfl; have hfz12_0 := zkz BK101.out 0; have hfz12_1 := zkz BK101.out 1; have hfz12_2 := zkz BK101.out 2) | ((with_reducible refine zgc (f := 106) rfl ?_); refine goesL_ (some 22) rfl rfl Try.func106 (by kernel_rfl) rfl #[.agg #[.slice A102_0 ((rd_T45 l0 x15_1).f0).length c102_0], .agg #[.int .i64 a1_0, .int .i64 a1_1, .int .i64 a1_2]] rfl (by (try simp only [zmt, List.map_cons, List.map_nil]); first | done | rfl | (simp only [zld, zlt]; rfl)) ?_; (with_reducible refine (sound_risen.calls k1 _ _ ((rd_T45 l0 x15_1).f0) a1_0 a1_1 a1_2 t104 _ ?side1 ?side2 A7.out).mono ?_); (case side1 => exact Kd.C_below HR102_0.out (by repeat (first | (with_reducible first | exact HB.out | apply zba | apply zbn | apply zb1 | refine zbs ?_ GE101.out | refine zbs ?_ GE103.out) | exact HB.out))); (case side2 => exact HC102_0.out); rintro e w13 ⟨v105, rfl, ho0, hb⟩; refine ⟨_, rfl, ?_⟩; have n0_ := zam (Kd.S_elder' (by (with_reducible repeat (first | apply Kd.S_alloc | apply Kd.S_drewN | apply Kd.S_drew)); exact (Kd.S_mono (Kd.S_far (p := ⟨gb103, 0, none⟩) (Kd.S_types HO_5.out BK103.out (by decide)) (fun _ hk => hk.2) (.slice A102_0 ((rd_T45 l0 x15_1).f0).length c102_0)) (fun _ h_ => h_.1))) (Kd.R_base ho0) hb); have n1_ := zam (Kd.R_lower ho0 (zbz (by repeat (first | (with_reducible first | exact HB.out | apply zba | apply zbn | apply zb1 | refine zbs ?_ GE101.out | refine zbs ?_ GE103.out) | exact HB.out)))); have n2_ := zam (zkb (g := gb101) (o := .cells #[.int .i64 a1_0, .int .i64 a1_1, .int .i64 a1_2] 39 (0, 0)) (by (with_reducible repeat (first | refine zkn ?_ _ | refine zkd ?_ | refine zka ?_ _)); refine zkf ?_ NB101_103.out _; (with_reducible repeat (first | refine zkn ?_ _ | refine zkd ?_ | refine zka ?_ _)); exact BK101.out) hb); have n3_ := zam (zkb (g := gb103) (o := .cells #[.slice A102_0 ((rd_T45 l0 x15_1).f0).length c102_0] 45 (0, 0)) (by (with_reducible repeat (first | refine zkn ?_ _ | refine zkd ?_ | refine zka ?_ _)); refine blk_put (cs := #[.slice none 0 0]) ?_ 0 _ rfl; (with_reducible repeat (first | refine zkn ?_ _ | refine zkd ?_ | refine zka ?_ _)); exact BK103.out) hb); have n4_ := zam (zbt (by repeat (first | (with_reducible first | exact HB.out | apply zba | apply zbn | apply zb1 | refine zbs ?_ GE101.out | refine zbs ?_ GE103.out) | exact HB.out)) hb); clear HO_5; clear BK101; clear BK103; clear HB; have HO_5 := n0_; have HO106 := n1_; have BK101 := n2_; have BK103 := n3_; have HB := n4_; clear n0_ n1_ n2_ n3_ n4_; (try clear hb); (try clear hb2); (try clear hk); (try clear hi); (try clear ho0); obtain ⟨Ao15, co15, eo15⟩ := Kd.R_slice HO106.out; subst eo15) | ((with_reducible refine gate_builtin (b := .append) (xs := #[.tmp 19, .tmp 23]) rfl ?_); at_builtin; refine Kd.S_append (Kd.slice 50 (Kd.int .i64)) (w0 := w) w.heap.size rfl (.tmp 19) (.tmp 23) 143 66 (.slice none 0 0) 24 rfl Try.underlying143 info66 rfl (by decide) (by omega) u5 x5_1 t104 [.slice Ao15 t104.length co15] (fun _ => True) (fun k_ => some k_ = (.slice Ao15 t104.length co15 : Value).ownBlock) rfl rfl ?aP (fun k_ hk_ => ((Kd.R_mono (ok' := fun k_ => ((fun _ => True)) k_ ∧ some k_ ≠ (u5 : Value).ownBlock) (Kd.R_apart' (HO106.out) (Kd.S_typed HO_5.out) (by decide)) (fun k_ hk => ⟨trivial, hk.2⟩))).1 k_ hk_.symm) ?aF ?aO ?aB ?aS ?aL ?_; (case aP => exact Kd.M_row (Kd.R_mono (Kd.R_tight rfl (Kd.R_mono (ok' := fun k_ => ((fun _ => True)) k_ ∧ some k_ ≠ (u5 : Value).ownBlock) (Kd.R_apart' (HO106.out) (Kd.S_typed HO_5.out) (by decide)) (fun k_ hk => ⟨trivial, hk.2⟩))) (fun _ h_ => h_))); (case aB => exact (by repeat (first | (with_reducible first | exact HB.out | apply zba | apply zbn | apply zb1 | refine zbs ?_ GE101.out | refine zbs ?_ GE103.out) | exact HB.out))); (case aF => exact (fun _ _ => trivial)); (case aO => exact (by (with_reducible repeat (first | apply Kd.S_alloc | apply Kd.S_drewN | apply Kd.S_drew)); exact Kd.S_mono HO_5.out (fun k_ hk => ⟨trivial, fun e_ => hk.2 e_⟩))); (case aS => exact (zbz (by repeat (first | (with_reducible first | exact HB.out | apply zba | apply zbn | apply zb1 | refine zbs ?_ GE101.out | refine zbs ?_ GE103.out) | exact HB.out)))); (case aL => have := LMc8.out; omega); intro v108 w14 ho hb hg hat; rw [← Ny107.out] at ho; have n0_ := zam (blk_grown (g := gb101) (o := .cells #[.int .i64 a1_0, .int .i64 a1_1, .int .i64 a1_2] 39 (0, 0)) (by (with_reducible repeat (first | refine zkn ?_ _ | refine zkd ?_ | refine zka ?_ _)); exact BK101.out) hg (Kd.S_ne HO_5.out BK101.out (by decide))); have n1_ := zam (blk_grown (g := gb103) (o := .cells #[.slice A102_0 ((rd_T45 l0 x15_1).f0).length c102_0] 45 (0, 0)) (by (with_reducible repeat (first | refine zkn ?_ _ | refine zkd ?_ | refine zka ?_ _)); exact BK103.out) hg (Kd.S_ne HO_5.out BK103.out (by decide))); have n2_ := zam (hb); have n3_ := zam (ho); clear BK101; clear BK103; clear HB; clear HO_5; clear HO106; have BK101 := n0_; have BK103 := n1_; have HB := n2_; have HO109 := n3_; clear n0_ n1_ n2_ n3_; clear ho hb hg hat))
       go_roundg k1
       case measure => have := HK1.out; omega
       case rel => exact ⟨(y107), (wrap64 (x15_1 + 1)), (by first | rfl | (simp; done) | (simp [*]; done)), H', ⟨by have := HK1.out; omega⟩, ⟨by (with_reducible repeat (first | apply Kd.S_alloc | apply Kd.S_drewN | apply Kd.S_drew)); exact HO109.out⟩, ⟨by (with_reducible repeat (first | refine zkn ?_ _ | refine zkd ?_ | refine zka ?_ _)); exact BK101.out⟩, ⟨by repeat (first | (with_reducible first | exact HB.out | apply zba | apply zbn | apply zb1 | refine zbs ?_ GE101.out | refine zbs ?_ GE103.out) | exact HB.out)⟩⟩
      rw [if_neg c8] at H
      exact absurd H (by simp)
     rw [if_neg c6] at H
     exact absurd H (by simp)
    rw [if_neg c5] at H
    exact absurd H (by simp)
   rw [if_neg c4] at H
   have c4b0 : decide (x15_1 < (l0.length : Int)) = false := zdf c4
   clear c4
   by_cases c16 : 0 < (l0.length : Int)
   ·rw [if_pos c16] at H
    have c16b0 : decide (0 < (l0.length : Int)) = true := zdt c16
    have c16b1 : decide (0 < l0.length) = true := zdt (by omega)
    clear c16
    by_cases c17 : 0 ≤ (((rd_T45 l0 0).f0).length : Int)
    ·rw [if_pos c17] at H
     have c17b0 := eq_true c17
     have c17b1 : decide (0 ≤ (((rd_T45 l0 0).f0).length : Int)) = true := zdt c17
     clear c17
     by_cases c18 : ((((rd_T45 l0 0).f0).length : Int) : Int).toNat ≤ 35184372088832
     ·rw [if_pos c18] at H
      have c18b0 := eq_true c18
      have c18b1 : decide (((((rd_T45 l0 0).f0).length : Int) : Int).toNat ≤ 35184372088832) = true := zdt c18
      clear c18
      obtain ⟨y111, hy111⟩ : ∃ y_ : List Int, y_ = (List.replicate ((((rd_T45 l0 0).f0).length : Int) : Int).toNat 0) := ⟨_, rfl⟩
      replace H : (sound_alarm.l1 k1 x5_1 y111 (y111.length : Int) 0 a1_0 a1_1 a1_2) = some r := by first | (rw [hy111]; with_reducible exact H) | (have H2_ := (Option.bind_some _ _).symm.trans H; rw [hy111]; with_reducible exact H2_) | (have H2_ := (Option.bind_some _ _).symm.trans H; with_reducible exact H2_) | with_reducible exact H | (rw [hy111]; exact H) | exact H
      have Ny111 := zam hy111
      clear hy111
      have H' := zam H
      clear H
      have p110 : 0 ≤ (0 : Int) := (by omega)
      have q110 : 0 < (l0.length : Int) := zod (by first | (with_reducible assumption) | assumption)
      obtain ⟨ad110, A110_0, c110_0, e110, hx110_0, hl110_0, hi110_0⟩ := at_T45 HR0.out 0 p110 q110
      cases e110
      have qi110 : (0 < l0.length) = True := eq_true (by omega)
      (try rw [show ((0 : Int)).toNat = 0 from rfl] at hx110_0)
      (try rw [Addr.add_zero'] at hx110_0)
      replace hx110_0 := (HB.out.cell (zwb w _ hx110_0)).trans hx110_0
      have HR110_0 := zam hi110_0
      have HC110_0 := zam hl110_0
      clear hi110_0 hl110_0
      replace p110 := eq_true p110
      replace q110 := eq_true q110
      go_wp2_with (first | ((with_reducible refine zgd (N := 31) rfl ?_); refine Kd.R_make (Kd.int .i64) _ 50 rfl (N := 31) rfl 66 _ _ rfl (((rd_T45 l0 0).f0).length : Int) rfl rfl Try.underlying66 (.int .i64 0) 8 info50 rfl (by decide) (by omega) 0 (ok := fun _ => True) (okp := fun _ => True) rfl (fun _ hk => hk) trivial (zod (by first | (with_reducible assumption) | assumption)) (Nat.le_trans (Nat.mul_le_mul_right _ (zod (by first | (with_reducible assumption) | assumption) : (((rd_T45 l0 0).f0).length : Int).toNat ≤ 35184372088832)) (by omega)) (Below.refl _ _) (Nat.le_refl _) ?_; intro v112 w19 ho20 hb hg_ hnew_; clear hg_ hnew_; (first | rw [← Ny111.out] at ho20 | (simp only [Int.reduceToNat] at ho20; rw [← Ny111.out] at ho20)); have n0_ := zam (Kd.S_elder' (by (with_reducible repeat (first | apply Kd.S_alloc | apply Kd.S_drewN | apply Kd.S_drew)); exact HO_5.out) (Kd.R_base ho20) hb); have n1_ := zam (Kd.R_lower ho20 (zbz (by repeat (first | (with_reducible first | exact HB.out | apply zba | apply zbn | apply zb1 | refine zbs ?_ GE101.out) | exact HB.out)))); have n2_ := zam (zkb (g := gb101) (o := .cells #[.int .i64 a1_0, .int .i64 a1_1, .int .i64 a1_2] 39 (0, 0)) (by (with_reducible repeat (first | refine zkn ?_ _ | refine zkd ?_ | refine zka ?_ _)); exact BK101.out) hb); have n3_ := zam (zbt (by repeat (first | (with_reducible first | exact HB.out | apply zba | apply zbn | apply zb1 | refine zbs ?_ GE101.out) | exact HB.out)) hb); clear HO_5; clear BK101; clear HB; have HO_5 := n0_; have HO113 := n1_; have BK101 := n2_; have HB := n3_; clear n0_ n1_ n2_ n3_; clear hb ho20; obtain ⟨Ao21, co21, eo21⟩ := Kd.R_slice HO113.out; subst eo21))
      go_loopg [34] k1 (fun kq v34 w' => ∃ (x8_2 : List Int) (x34_2 : Int), v34 = .int .i64 x34_2 ∧ Aside0 (sound_alarm.l1 kq x5_1 x8_2 (y111.length : Int) x34_2 a1_0 a1_1 a1_2 = some r) ∧ Aside0 (kq ≤ k1) ∧ Aside0 (Kd.S (Kd.slice 50 (Kd.int .i64)) 66 w' w.heap.size (fun k_ => some k_ ≠ ((.slice Ao21 y111.length co21) : Value).ownBlock) u5 x5_1) ∧ Aside0 (Kd.R (Kd.int .i64) 50 w' w.heap.size (fun _ => True) (.slice Ao21 y111.length co21) x8_2) ∧ Aside0 (w'.heap[gb101]? = some (.cells #[.int .i64 a1_0, .int .i64 a1_1, .int .i64 a1_2] 39 (0, 0))) ∧ Aside0 (Below w.heap.size w w'))
      case atStart => exact ⟨(y111), (0), (by first | rfl | (simp; done) | (simp [*]; done)), H', ⟨Nat.le_refl _⟩, ⟨by (with_reducible repeat (first | apply Kd.S_alloc | apply Kd.S_drewN | apply Kd.S_drew)); exact Kd.S_mono HO_5.out (fun _ hk => hk.2)⟩, ⟨by (with_reducible repeat (first | apply zRa | apply zRn | apply zRd)); exact HO113.out⟩, ⟨by (with_reducible repeat (first | refine zkn ?_ _ | refine zkd ?_ | refine zka ?_ _)); exact BK101.out⟩, ⟨by repeat (first | (with_reducible first | exact HB.out | apply zba | apply zbn | apply zb1 | refine zbs ?_ GE101.out) | exact HB.out)⟩⟩
      case round =>
       clear H'
       try clear c1
       try clear p1
       try clear q1
       try clear hx1
       try clear qi1
       try clear p2
       try clear c4
       try clear c4b0
       try clear c5
       try clear c5b0
       try clear c6
       try clear c6b0
       try clear p6
       try clear c8
       try clear c10
       try clear p10
       try clear q10
       try clear hx10
       try clear c11
       try clear p11
       try clear q11
       try clear hx11
       try clear qi11
       try clear c16
       try clear c16b0
       try clear c16b1
       try clear c17
       try clear c17b0
       try clear c17b1
       try clear c18
       try clear c18b0
       try clear c18b1
       try clear hcz11_0
       try clear hcz12_0
       try clear hcz12_1
       try clear hcz12_2
       try clear hfz11_0
       try clear hfz12_0
       try clear hfz12_1
       try clear hfz12_2
       try clear hx102_0
       try clear hx110_0
       try clear p102
       try clear p110
       try clear p2
       try clear q102
       try clear q110
       obtain ⟨x8_2, x34_2, rfl, HA, HK2, HO_5, HO_8, BK101, HB⟩ := hrel
       have hl8_2 := (Kd.R_reads' HO_8.out).1
       rw [hl8_2] at HO_8
       (try simp only [hl8_2])
       (try simp only [hl8_2] at BK101)
       (try simp only [hl8_2] at HO_5)
       cases gk with
       | zero => exact absurd HA.out (by simp [sound_alarm.l1])
       | succ k2 =>
        have H := HA.out
        clear HA
        simp only [sound_alarm.l1] at H
        by_cases c22 : x34_2 < (y111.length : Int)
        ·rw [if_pos c22] at H
         have c22b0 : decide (x34_2 < (y111.length : Int)) = true := zdt c22
         (try (have c22b0y := c22b0; rw [hl8_2] at c22b0y))
         clear c22
         have H' := zam H
         clear H
         obtain ⟨Ao23, co23, eo23⟩ := Kd.S_slice HO_5.out
         subst eo23
         go_wp2
         go_loopg [10, 39] k2 (fun kq v10 v39 w' => ∃ (x10_3 : List Int) (x39_3 : Int), v39 = .int .i64 x39_3 ∧ Aside0 (sound_alarm.l2 kq x5_1 x8_2 x34_2 x10_3 (y111.length : Int) x34_2 x5_1 (x5_1.length : Int) x39_3 a1_0 a1_1 a1_2 = some r) ∧ Aside0 (kq ≤ k2) ∧ Aside0 (Kd.S (Kd.slice 50 (Kd.int .i64)) 66 w' w.heap.size (fun k_ => some k_ ≠ ((.slice Ao21 x8_2.length co21) : Value).ownBlock ∧ some k_ ≠ (v10 : Value).ownBlock) (.slice Ao23 x5_1.length co23) x5_1) ∧ Aside0 (Kd.R (Kd.int .i64) 50 w' w.heap.size (fun k_ => some k_ ≠ (v10 : Value).ownBlock) (.slice Ao21 x8_2.length co21) x8_2) ∧ Aside0 (Kd.R (Kd.int .i64) 50 w' w.heap.size (fun k_ => some k_ ≠ ((.slice Ao21 x8_2.length co21) : Value).ownBlock) v10 x10_3) ∧ Aside0 (Kd.S (Kd.slice 50 (Kd.int .i64)) 66 w' w.heap.size (fun k_ => some k_ ≠ ((.slice Ao21 x8_2.length co21) : Value).ownBlock ∧ some k_ ≠ (v10 : Value).ownBlock) (.slice Ao23 x5_1.length co23) x5_1) ∧ Aside0 (w'.heap[gb101]? = some (.cells #[.int .i64 a1_0, .int .i64 a1_1, .int .i64 a1_2] 39 (0, 0))) ∧ Aside0 (Below w.heap.size w w'))
         case atStart => exact ⟨(([] : List Int)), (0), (by first | rfl | (simp; done) | (simp [*]; done)), H', ⟨Nat.le_refl _⟩, ⟨by (try simp only [hl8_2]); (with_reducible repeat (first | apply Kd.S_alloc | apply Kd.S_drewN | apply Kd.S_drew)); exact Kd.S_mono HO_5.out (fun _ hk => ⟨hk, (by simp [Value.ownBlock])⟩)⟩, ⟨by (try simp only [hl8_2]); (with_reducible repeat (first | apply zRa | apply zRn | apply zRd)); exact Kd.R_mono HO_8.out (fun _ hk => (by simp [Value.ownBlock]))⟩, ⟨by (try simp only [hl8_2]); first | exact Kd.R_nil _ _ _ _ _ | exact Kd.N_nil _ _ _ _ _ | exact Kd.V_nil _ _ _ _ _ | exact Kd.Q_nil _ _ _ _ _ | exact Kd.S_nil _ _ _ _ _⟩, ⟨by (try simp only [hl8_2]); (with_reducible repeat (first | apply Kd.S_alloc | apply Kd.S_drewN | apply Kd.S_drew)); exact Kd.S_mono HO_5.out (fun _ hk => ⟨hk, (by simp [Value.ownBlock])⟩)⟩, ⟨by (try simp only [hl8_2]); (with_reducible repeat (first | refine zkn ?_ _ | refine zkd ?_ | refine zka ?_ _)); exact BK101.out⟩, ⟨by repeat (first | (with_reducible first | exact HB.out | apply zba | apply zbn | apply zb1 | refine zbs ?_ GE101.out) | exact HB.out)⟩⟩
         case round =>
          clear H'
          try clear c1
          try clear p1
          try clear q1
          try clear hx1
          try clear qi1
          try clear c2
          try clear p2
          try clear c4
          try clear c4b0
          try clear c5
          try clear c5b0
          try clear c6
          try clear c6b0
          try clear p6
          try clear c8
          try clear c10
          try clear p10
          try clear q10
          try clear hx10
          try clear c11
          try clear p11
          try clear q11
          try clear hx11
          try clear qi11
          try clear c16
          try clear c16b0
          try clear c16b1
          try clear c17
          try clear c17b0
          try clear c17b1
          try clear c18
          try clear c18b0
          try clear c18b1
          try clear c22
          try clear c22b0
          try clear hcz11_0
          try clear hcz12_0
          try clear hcz12_1
          try clear hcz12_2
          try clear hfz11_0
          try clear hfz12_0
          try clear hfz12_1
          try clear hfz12_2
          try clear hx102_0
          try clear hx110_0
          try clear p1
          try clear p10
          try clear p102
          try clear p11
          try clear p110
          try clear p2
          try clear p6
          try clear q1
          try clear q10
          try clear q102
          try clear q11
          try clear q110
          obtain ⟨x10_3, x39_3, rfl, HA, HK3, HO_5, HO_8, HO_10, HO_37, BK101, HB⟩ := hrel
          cases gk with
          | zero => exact absurd HA.out (by simp [sound_alarm.l2])
          | succ k3 =>
           have H := HA.out
           clear HA
           simp only [sound_alarm.l2] at H
           by_cases c24 : x39_3 < (x5_1.length : Int)
           ·rw [if_pos c24] at H
            have c24b0 : decide (x39_3 < (x5_1.length : Int)) = true := zdt c24
            (try (have c24b0y := c24b0; rw [hl8_2] at c24b0y))
            clear c24
            by_cases c25 : 0 ≤ x39_3
            ·rw [if_pos c25] at H
             have c25b0 : decide (0 ≤ x39_3) = true := zdt c25
             (try (have c25b0y := c25b0; rw [hl8_2] at c25b0y))
             clear c25
             by_cases c26 : x39_3 < (x5_1.length : Int)
             ·rw [if_pos c26] at H
              have c26b0 : decide (x39_3 < (x5_1.length : Int)) = true := zdt c26
              (try (have c26b0y := c26b0; rw [hl8_2] at c26b0y))
              clear c26
              by_cases c27 : 0 ≤ x34_2
              ·rw [if_pos c27] at H
               have c27b0 : decide (0 ≤ x34_2) = true := zdt c27
               (try (have c27b0y := c27b0; rw [hl8_2] at c27b0y))
               clear c27
               by_cases c28 : x34_2 < ((rd_L4 x5_1 x39_3).length : Int)
               ·rw [if_pos c28] at H
                have c28b0 : decide (x34_2 < ((rd_L4 x5_1 x39_3).length : Int)) = true := zdt c28
                (try (have c28b0y := c28b0; rw [hl8_2] at c28b0y))
                clear c28
                by_cases c29 : x10_3.length < 17592186044416
                ·rw [if_pos c29] at H
                 have LMc29 := zam c29
                 clear c29
                 obtain ⟨y116, hy116⟩ : ∃ y_ : List Int, y_ = (x10_3 ++ [rd (rd_L4 x5_1 x39_3) x34_2]) := ⟨_, rfl⟩
                 replace H : (sound_alarm.l2 k3 x5_1 x8_2 x34_2 y116 (y111.length : Int) x34_2 x5_1 (x5_1.length : Int) (wrap64 (x39_3 + 1)) a1_0 a1_1 a1_2) = some r := by first | (rw [hy116]; with_reducible exact H) | (have H2_ := (Option.bind_some _ _).symm.trans H; rw [hy116]; with_reducible exact H2_) | (have H2_ := (Option.bind_some _ _).symm.trans H; with_reducible exact H2_) | with_reducible exact H | (rw [hy116]; exact H) | exact H
                 have Ny116 := zam hy116
                 clear hy116
                 have H' := zam H
                 clear H
                 have p114 : 0 ≤ (x39_3 : Int) := zod (by first | (with_reducible assumption) | assumption)
                 have q114 : x39_3 < (x5_1.length : Int) := zod (by first | (with_reducible assumption) | assumption)
                 obtain ⟨ad114, A114_0, c114_0, e114, hx114_0, hl114_0, hi114_0⟩ := at_L4 (Kd.S_reads' HO_37.out).2.2 x39_3 p114 q114
                 cases e114
                 obtain ⟨ce114, hce114, hMe114, hcc114⟩ := Kd.S_get HO_37.out [] x39_3 p114 (by first | exact q114 | exact zod (by first | (with_reducible assumption) | assumption) | (have e_ := (Kd.S_reads' HO_37.out).1; omega))
                 obtain ⟨ve114_0, rfl, ge114_0⟩ := hMe114
                 have hv114_0 := hcc114 0 _ rfl
                 rw [Nat.add_zero, show ((Kd.slice 50 (Kd.int .i64))).sz = 1 from rfl, Nat.mul_one] at hv114_0
                 replace hv114_0 := zsi (hv114_0.symm.trans hx114_0)
                 rw [hv114_0] at ge114_0
                 have HL114_0 := zam (show Kd.R (Kd.int .i64) 50 _ _ _ _ (rd_L4 x5_1 x39_3) from ge114_0)
                 clear hv114_0 ge114_0
                 clear hcc114 hce114
                 have HR114_0 := zam hi114_0
                 have HC114_0 := zam hl114_0
                 clear hi114_0 hl114_0
                 replace p114 := eq_true p114
                 replace q114 := eq_true q114
                 have p115 : 0 ≤ (x34_2 : Int) := zod (by first | (with_reducible assumption) | assumption)
                 have q115 : x34_2 < ((rd_L4 x5_1 x39_3).length : Int) := zod (by first | (with_reducible assumption) | assumption)
                 obtain ⟨ad115, e115, hx115_0⟩ := Kd.at_int (by repeat (first | (with_reducible exact HR114_0.out) | (with_reducible refine Kd.C_alloc ?_ _) | (with_reducible refine Kd.C_drewN ?_ _) | (with_reducible refine Kd.C_drew ?_) | exact HR114_0.out)) x34_2 p115 q115
                 cases e115
                 replace p115 := eq_true p115
                 replace q115 := eq_true q115
                 go_wp2_with (first | ((with_reducible refine gate_builtin (b := .append) (xs := #[.tmp 43, .tmp 48]) rfl ?_); at_builtin; refine Kd.R_append (Kd.int .i64) (w0 := w) w.heap.size rfl (.tmp 43) (.tmp 48) 66 50 (.int .i64 0) 8 rfl Try.underlying66 info50 rfl (by decide) (by omega) u10 x10_3 (rd (rd_L4 x5_1 x39_3) x34_2) [.int .i64 (rd (rd_L4 x5_1 x39_3) x34_2)] (fun k_ => some k_ ≠ (.slice Ao21 x8_2.length co21 : Value).ownBlock) (fun _ => False) rfl rfl ?aP (fun _ hk => hk.elim) ?aF ?aO ?aB ?aS ?aL ?_; (case aP => exact rfl); (case aB => exact (by repeat (first | (with_reducible first | exact HB.out | apply zba | apply zbn | apply zb1 | refine zbs ?_ GE101.out) | exact HB.out))); (case aF => exact (fun k_ hk => Kd.fresh' (Kd.R_lt (by (with_reducible repeat (first | apply zRa | apply zRn | apply zRd)); exact HO_8.out)) k_ hk)); (case aO => exact (by (with_reducible repeat (first | apply zRa | apply zRn | apply zRd)); exact HO_10.out)); (case aS => exact (zbz (by repeat (first | (with_reducible first | exact HB.out | apply zba | apply zbn | apply zb1 | refine zbs ?_ GE101.out) | exact HB.out)))); (case aL => have := LMc29.out; omega); intro v117 w30 ho hb hg hat; rw [← Ny116.out] at ho; have n0_ := zam (Kd.S_after (ok := (fun k_ => some k_ ≠ (.slice Ao21 x8_2.length co21 : Value).ownBlock)) (by (with_reducible repeat (first | apply Kd.S_alloc | apply Kd.S_drewN | apply Kd.S_drew)); exact HO_5.out) hg hat); have n1_ := zam (Kd.R_after (ok := (fun _ => True)) (by (with_reducible repeat (first | apply zRa | apply zRn | apply zRd)); exact Kd.R_mono HO_8.out (fun _ hk => ⟨trivial, hk⟩)) hg hat); have n2_ := zam (Kd.S_after (ok := (fun k_ => some k_ ≠ (.slice Ao21 x8_2.length co21 : Value).ownBlock)) (by (with_reducible repeat (first | apply Kd.S_alloc | apply Kd.S_drewN | apply Kd.S_drew)); exact HO_37.out) hg hat); have n3_ := zam (blk_grown (g := gb101) (o := .cells #[.int .i64 a1_0, .int .i64 a1_1, .int .i64 a1_2] 39 (0, 0)) (by (with_reducible repeat (first | refine zkn ?_ _ | refine zkd ?_ | refine zka ?_ _)); exact BK101.out) hg (Kd.R_ne HO_10.out BK101.out (by decide))); have n4_ := zam (Kd.R_after (ok := (fun k_ => some k_ ≠ (.slice Ao21 x8_2.length co21 : Value).ownBlock ∧ some k_ ≠ (.slice (some ad114) x5_1.length co23 : Value).ownBlock)) (by (with_reducible repeat (first | apply zRa | apply zRn | apply zRd)); exact Kd.R_mono HL114_0.out (fun _ hk => ⟨⟨hk.1.1, hk.2⟩, hk.1.2⟩)) hg hat); have n5_ := zam (hb); have n6_ := zam (ho); clear HO_5; clear HO_8; clear HO_37; clear BK101; clear HL114_0; clear HB; clear HO_10; have HO_5 := n0_; have HO_8 := n1_; have HO_37 := n2_; have BK101 := n3_; have HL114_0 := n4_; have HB := n5_; have HO118 := n6_; clear n0_ n1_ n2_ n3_ n4_ n5_ n6_; clear ho hb hg hat))
                 go_roundg k3
                 case measure => have := HK1.out; have := HK2.out; have := HK3.out; omega
                 case rel => exact ⟨(y116), (wrap64 (x39_3 + 1)), (by first | rfl | (simp; done) | (simp [*]; done)), H', ⟨by have := HK1.out; have := HK2.out; have := HK3.out; omega⟩, ⟨by (try simp only [hl8_2]); (with_reducible repeat (first | apply Kd.S_alloc | apply Kd.S_drewN | apply Kd.S_drew)); exact HO_5.out⟩, ⟨by (try simp only [hl8_2]); (with_reducible repeat (first | apply zRa | apply zRn | apply zRd)); exact Kd.R_mono HO_8.out (fun _ hk => hk.2)⟩, ⟨by (try simp only [hl8_2]); (with_reducible repeat (first | apply zRa | apply zRn | apply zRd)); exact HO118.out⟩, ⟨by (try simp only [hl8_2]); (with_reducible repeat (first | apply Kd.S_alloc | apply Kd.S_drewN | apply Kd.S_drew)); exact HO_37.out⟩, ⟨by (try simp only [hl8_2]); (with_reducible repeat (first | refine zkn ?_ _ | refine zkd ?_ | refine zka ?_ _)); exact BK101.out⟩, ⟨by repeat (first | (with_reducible first | exact HB.out | apply zba | apply zbn | apply zb1 | refine zbs ?_ GE101.out) | exact HB.out)⟩⟩
                rw [if_neg c29] at H
                exact absurd H (by simp)
               rw [if_neg c28] at H
               exact absurd H (by simp)
              rw [if_neg c27] at H
              exact absurd H (by simp)
             rw [if_neg c26] at H
             exact absurd H (by simp)
            rw [if_neg c25] at H
            exact absurd H (by simp)
           rw [if_neg c24] at H
           have c24b0 : decide (x39_3 < (x5_1.length : Int)) = false := zdf c24
           (try (have c24b0y := c24b0; rw [hl8_2] at c24b0y))
           clear c24
           replace H := Option.bind_eq_some_iff.mp H
           obtain ⟨t119, A310, H⟩ := H
           replace H : (if 0 ≤ x34_2 then (if x34_2 < (x8_2.length : Int) then (sound_alarm.l1 k3 x5_1 (x8_2.set (x34_2 : Int).toNat t119) (y111.length : Int) (wrap64 (x34_2 + 1)) a1_0 a1_1 a1_2) else (none)) else (none)) = some r := H
           have A31 := zam A310
           clear A310
           by_cases c32 : 0 ≤ x34_2
           ·rw [if_pos c32] at H
            have c32b0 : decide (0 ≤ x34_2) = true := zdt c32
            (try (have c32b0y := c32b0; rw [hl8_2] at c32b0y))
            clear c32
            by_cases c33 : x34_2 < (x8_2.length : Int)
            ·rw [if_pos c33] at H
             have c33b0 : decide (x34_2 < (x8_2.length : Int)) = true := zdt c33
             (try (have c33b0y := c33b0; rw [hl8_2] at c33b0y))
             clear c33
             obtain ⟨y120, hy120⟩ : ∃ y_ : List Int, y_ = (x8_2.set (x34_2 : Int).toNat t119) := ⟨_, rfl⟩
             replace H : (sound_alarm.l1 k3 x5_1 y120 (y111.length : Int) (wrap64 (x34_2 + 1)) a1_0 a1_1 a1_2) = some r := by first | (rw [hy120]; with_reducible exact H) | (have H2_ := (Option.bind_some _ _).symm.trans H; rw [hy120]; with_reducible exact H2_) | (have H2_ := (Option.bind_some _ _).symm.trans H; with_reducible exact H2_) | with_reducible exact H | (rw [hy120]; exact H) | exact H
             have Ny120 := zam hy120
             clear hy120
             have H' := zam H
             clear H
             have hcz35_0 : wr.cell? ⟨gb101, 0, none⟩ = some (.int .i64 a1_0) := (zkc BK101.out 0).trans rfl
             have hcz35_1 : wr.cell? ⟨gb101, 1, none⟩ = some (.int .i64 a1_1) := (zkc BK101.out 1).trans rfl
             have hcz35_2 : wr.cell? ⟨gb101, 2, none⟩ = some (.int .i64 a1_2) := (zkc BK101.out 2).trans rfl
             have hfz35_0 := zkz BK101.out 0
             have hfz35_1 := zkz BK101.out 1
             have hfz35_2 := zkz BK101.out 2
             obtain ⟨Ao36, co36, eo36⟩ := Kd.R_slice HO_10.out
             subst eo36
             go_wp2_with (first | ((with_reducible refine zgc (f := 107) rfl ?_); refine goesL_ (some 56) rfl rfl Try.func107 (by kernel_rfl) rfl #[.int .i64 a1_2, .slice Ao36 x10_3.length co36] rfl (by (try simp only [zmt, List.map_cons, List.map_nil]); first | done | rfl | (simp only [zld, zlt]; rfl)) ?_; (with_reducible refine (sound_enough.calls k3 a1_2 _ _ x10_3 t119 _ ?side1 ?side2 A31.out).mono ?_); (case side1 => repeat (first | exact (Kd.R_reads' HO_10.out).2.2 | (with_reducible refine Kd.C_alloc ?_ _) | (with_reducible refine Kd.C_drewN ?_ _) | (with_reducible refine Kd.C_drew ?_))); (case side2 => exact (Kd.R_reads' HO_10.out).2.1); rintro e w' ⟨rfl, ⟨nd, rfl⟩⟩; refine ⟨_, rfl, ?_⟩; (try (rw [drewN_self wr]; generalize hq_ : World.drewN wr _ = wr; have n0_ : Aside0 (Kd.R (Kd.int .i64) 50 wr w.heap.size (fun k_ => some k_ ≠ (.slice Ao21 x8_2.length co21 : Value).ownBlock) (.slice Ao36 x10_3.length co36) x10_3) := ⟨by rw [← hq_]; exact (by (with_reducible repeat (first | apply zRa | apply zRn | apply zRd)); exact HO_10.out)⟩; have n1_ : Aside0 (Kd.S (Kd.slice 50 (Kd.int .i64)) 66 wr w.heap.size (fun k_ => some k_ ≠ (.slice Ao36 x10_3.length co36 : Value).ownBlock ∧ some k_ ≠ (.slice Ao21 x8_2.length co21 : Value).ownBlock) (.slice Ao23 x5_1.length co23) x5_1) := ⟨by rw [← hq_]; exact (by (with_reducible repeat (first | apply Kd.S_alloc | apply Kd.S_drewN | apply Kd.S_drew)); exact Kd.S_mono HO_37.out (fun _ hk => by first | exact ⟨hk.2, hk.1⟩ | exact ⟨hk.1, hk.2⟩))⟩; have n2_ : Aside0 (Kd.S (Kd.slice 50 (Kd.int .i64)) 66 wr w.heap.size (fun k_ => some k_ ≠ (.slice Ao36 x10_3.length co36 : Value).ownBlock ∧ some k_ ≠ (.slice Ao21 x8_2.length co21 : Value).ownBlock) (.slice Ao23 x5_1.length co23) x5_1) := ⟨by rw [← hq_]; exact (by (with_reducible repeat (first | apply Kd.S_alloc | apply Kd.S_drewN | apply Kd.S_drew)); exact Kd.S_mono HO_5.out (fun _ hk => by first | exact ⟨hk.2, hk.1⟩ | exact ⟨hk.1, hk.2⟩))⟩; have n3_ : Aside0 (Kd.R (Kd.int .i64) 50 wr w.heap.size (fun k_ => some k_ ≠ (.slice Ao36 x10_3.length co36 : Value).ownBlock) (.slice Ao21 x8_2.length co21) x8_2) := ⟨by rw [← hq_]; exact (by (with_reducible repeat (first | apply zRa | apply zRn | apply zRd)); exact HO_8.out)⟩; have n4_ : Aside0 (wr.heap[gb101]? = some (.cells #[.int .i64 a1_0, .int .i64 a1_1, .int .i64 a1_2] 39 (0, 0))) := ⟨by rw [← hq_]; exact (by (with_reducible repeat (first | refine zkn ?_ _ | refine zkd ?_ | refine zka ?_ _)); exact BK101.out)⟩; have n5_ : Aside0 (Below w.heap.size w wr) := ⟨by rw [← hq_]; exact (by repeat (first | (with_reducible first | exact HB.out | apply zba | apply zbn | apply zb1 | refine zbs ?_ GE101.out) | exact HB.out))⟩; clear HO_10 HO_37 HO_5 HO_8 BK101 HB hq_; have HO_10 := n0_; have HO_37 := n1_; have HO_5 := n2_; have HO_8 := n3_; have BK101 := n4_; have HB := n5_; clear n0_ n1_ n2_ n3_ n4_ n5_)); have p34 : 0 ≤ (x34_2 : Int) := zod (by first | (with_reducible assumption) | assumption); have q34 : (x34_2 : Int) < ((x8_2.length : Int) : Int) := zod (by first | (with_reducible assumption) | assumption); obtain ⟨go34, co34, eo34, gb34, gl34, cl34, HG34⟩ := Kd.R_form HO_8.out (by omega); (first | cases eo34 | (injection eo34 with ea_ en_ ec_; (first | subst ea_ | (injection ea_ with ea_; subst ea_)); subst ec_; clear en_)); have GB34 := zam gb34; have GG34 := zam HG34; clear gb34 gl34 HG34; obtain ⟨hx34_0, hf34_0⟩ := Kd.R_celln 0 HO_8.out (x34_2 : Int) p34 q34; replace p34 := eq_true p34; replace q34 := eq_true q34; obtain ⟨hy37_, hz37_⟩ := Kd.R_celln 0 HO_8.out (x34_2 : Int) (zod (by first | (with_reducible assumption) | assumption)) (zod (by first | (with_reducible assumption) | assumption)); have HP37 := Kd.R_putg HO_8.out (x34_2 : Int) t119) | ((with_reducible refine gate_store (t := 50) (p := 57) rfl ?_); refine store_event (t := 50) (p := 57) (v := ?vo_w38) (w1 := (wr.setCell ⟨go34, (x34_2 : Int).toNat, none⟩ (.int .i64 t119))) ?hg ?ho ?hn ?hr ?_; (case ho => rfl); (case hg => rfl); (case hn => rfl); (case hr => first | (go_simp; done) | (go_simp; rfl)); intro w38 hw; have hg : wr.grownBy w38 (some go34) := (by rw [hw]; exact HP37.2); have hp_ : Kd.R (Kd.int .i64) 50 w38 w.heap.size (fun k_ => some k_ ≠ (.slice Ao36 x10_3.length co36 : Value).ownBlock) (.slice (some ⟨go34, 0, none⟩) x8_2.length co21) y120 := (by rw [hw, Ny120.out]; exact HP37.1); clear HP37; have n0_ := zam (Kd.S_after (v := (.slice (some ⟨go34, 0, none⟩) x8_2.length co21)) (v1 := (.slice (some ⟨go34, 0, none⟩) x8_2.length co21)) (ok := (fun k_ => some k_ ≠ (.slice Ao36 x10_3.length co36 : Value).ownBlock)) (by (with_reducible repeat (first | apply Kd.S_alloc | apply Kd.S_drewN | apply Kd.S_drew)); exact Kd.S_mono HO_5.out (fun _ hk => by first | exact ⟨hk.2, hk.1⟩ | exact ⟨hk.1, hk.2⟩)) hg (.inl rfl)); have n1_ := zam (hp_); have n2_ := zam (Kd.R_after (v := (.slice (some ⟨go34, 0, none⟩) x8_2.length co21)) (v1 := (.slice (some ⟨go34, 0, none⟩) x8_2.length co21)) (ok := (fun _ => True)) (by (with_reducible repeat (first | apply zRa | apply zRn | apply zRd)); exact Kd.R_mono HO_10.out (fun _ hk => ⟨trivial, hk⟩)) hg (.inl rfl)); have n3_ := zam (Kd.S_after (v := (.slice (some ⟨go34, 0, none⟩) x8_2.length co21)) (v1 := (.slice (some ⟨go34, 0, none⟩) x8_2.length co21)) (ok := (fun k_ => some k_ ≠ (.slice Ao36 x10_3.length co36 : Value).ownBlock)) (by (with_reducible repeat (first | apply Kd.S_alloc | apply Kd.S_drewN | apply Kd.S_drew)); exact Kd.S_mono HO_37.out (fun _ hk => by first | exact ⟨hk.2, hk.1⟩ | exact ⟨hk.1, hk.2⟩)) hg (.inl rfl)); have n4_ := zam (blk_grown (g := gb101) (o := .cells #[.int .i64 a1_0, .int .i64 a1_1, .int .i64 a1_2] 39 (0, 0)) (by (with_reducible repeat (first | refine zkn ?_ _ | refine zkd ?_ | refine zka ?_ _)); exact BK101.out) hg (Kd.R_ne HO_8.out BK101.out (by decide))); have n5_ := zam ((by rw [hw]; exact zbs (HB.out) GB34.out : Below w.heap.size w w38)); clear HO_5; clear HO_8; clear HO_10; clear HO_37; clear BK101; clear HB; have HO_5 := n0_; have HO_8 := n1_; have HO_10 := n2_; have HO_37 := n3_; have BK101 := n4_; have HB := n5_; clear n0_ n1_ n2_ n3_ n4_ n5_; clear hg hw hp_))
             (try simp only [← hl8_2])
             go_roundg k3
             case measure => have := HK1.out; have := HK2.out; have := HK3.out; omega
             case rel => exact ⟨(y120), (wrap64 (x34_2 + 1)), (by first | rfl | (simp; done) | (simp [*]; done)), H', ⟨by have := HK1.out; have := HK2.out; have := HK3.out; omega⟩, ⟨by (try simp only [hl8_2]); (with_reducible repeat (first | apply Kd.S_alloc | apply Kd.S_drewN | apply Kd.S_drew)); exact Kd.S_mono HO_5.out (fun _ hk => hk.2)⟩, ⟨by (try simp only [hl8_2]); (with_reducible repeat (first | apply zRa | apply zRn | apply zRd)); exact Kd.R_mono HO_8.out (fun _ hk => trivial)⟩, ⟨by (try simp only [hl8_2]); (with_reducible repeat (first | refine zkn ?_ _ | refine zkd ?_ | refine zka ?_ _)); exact BK101.out⟩, ⟨by repeat (first | (with_reducible first | exact HB.out | apply zba | apply zbn | apply zb1 | refine zbs ?_ GE101.out) | exact HB.out)⟩⟩
            rw [if_neg c33] at H
            exact absurd H (by simp)
           rw [if_neg c32] at H
           exact absurd H (by simp)
        rw [if_neg c22] at H
        have c22b0 : decide (x34_2 < (y111.length : Int)) = false := zdf c22
        (try (have c22b0y := c22b0; rw [hl8_2] at c22b0y))
        clear c22
        obtain rfl := zsi H
        go_wp2
        go_ret
        exact ⟨_, by first | rfl | (simp [errW_none, errW_some] <;> rfl) | (simp [*, errW_none, errW_some] <;> rfl), by (with_reducible repeat (first | apply zRa | apply zRn | apply zRd)); exact HO_8.out, by repeat (first | (with_reducible first | exact HB.out | apply zba | apply zbn | apply zb1 | refine zbs ?_ GE101.out) | exact HB.out)⟩
     rw [if_neg c18] at H
     exact absurd H (by simp)
    rw [if_neg c17] at H
    exact absurd H (by simp)
   rw [if_neg c16] at H
   exact absurd H (by simp)
def sound_checkGauges_1.f (l0_0 : List (S24)) : Option (Bool) := some (decide ((l0_0.length : Int) > 256))
set_option maxHeartbeats 8000000 in
set_option maxRecDepth 100000 in
theorem sound_checkGauges_1.calls (A0_0 : Option Addr) (c0_0 : Nat) (l0_0 : List (S24)) (r : Bool) (w : World) (hr0_0 : Kd.C k24 w A0_0 l0_0.length l0_0) (hc0_0 : l0_0.length ≤ c0_0) (h : sound_checkGauges_1.f l0_0 = some r) :
  Calls Try.prog 103 #[.agg #[.slice A0_0 l0_0.length c0_0]] w fun e w' => e = .returned (.bool r) ∧ Below w.heap.size w w' := by
 have hu45 := Try.underlying45
 have HR0_0 := zam hr0_0
 have HC0_0 := zam hc0_0
 clear hr0_0 hc0_0
 have HB := zam (Below.refl w.heap.size w)
 have H : (some (decide ((l0_0.length : Int) > 256))) = some r := h
 clear h
 obtain rfl := zsi H
 go_enter Try.func103, Try.ntmps103
 go_wp2_with (first | ((with_reducible refine zgd (N := 1) rfl ?_); refine box_event ?hg (N := 1) ?hd (cs := #[.slice A0_0 l0_0.length c0_0]) (t := 45) ?hr ?_; (case hd => rfl); (case hg => rfl); (case hr => first | (go_simp; done) | (go_simp; rfl)); intro gb101 hg w2 hbox hb; have n0_ := zam (zbt (by repeat (first | (with_reducible first | exact HB.out | apply zba | apply zbn | apply zb1) | exact HB.out)) hb); have n1_ := zam (hbox); have n2_ := zam ((by rw [hg]; exact (zbz (by repeat (first | (with_reducible first | exact HB.out | apply zba | apply zbn | apply zb1) | exact HB.out))) : w.heap.size ≤ gb101)); have n3_ := zam ((by rw [hg]; exact (zbz (by repeat (first | (with_reducible first | exact HB.out | apply zba | apply zbn | apply zb1) | exact HB.out))) : w.heap.size ≤ gb101)); clear HB; have HB := n0_; have BK101 := n1_; have GW101 := n2_; have GE101 := n3_; clear n0_ n1_ n2_ n3_; clear hb hbox hg; have hcz3_0 : w2.cell? ⟨gb101, 0, none⟩ = some (.slice A0_0 l0_0.length c0_0) := (zkc BK101.out 0).trans rfl; have hfz3_0 := zkz BK101.out 0))
 go_ret
 exact ⟨by first | rfl | (simp [errW_none, errW_some] <;> rfl) | (simp [*, errW_none, errW_some] <;> rfl), by repeat (first | (with_reducible first | exact HB.out | apply zba | apply zbn | apply zb1 | refine zbs ?_ GE101.out) | exact HB.out)⟩
def slices_IndexFunc_Gauge_sound_checkGauges_1.l0 : Nat → List (S45) → Int → Int → Option (Int)
 | 0, _, _, _ => none
 | k + 1, x0, x7, x8 => if x8 < x7 then (if 0 ≤ x8 then (if x8 < (x0.length : Int) then ((sound_checkGauges_1.f ((rd_T45 x0 x8).f0)).bind fun t102 => (if t102 = true then (some x8) else (slices_IndexFunc_Gauge_sound_checkGauges_1.l0 k x0 x7 (wrap64 (x8 + 1))))) else (none)) else (none)) else (some (-1))
def slices_IndexFunc_Gauge_sound_checkGauges_1.f (k : Nat) (l0 : List (S45))  : Option (Int) := slices_IndexFunc_Gauge_sound_checkGauges_1.l0 k l0 (l0.length : Int) 0
theorem slices_IndexFunc_Gauge_sound_checkGauges_1.mono_l : ∀ k, (∀ y0 y1 y2, LeO (slices_IndexFunc_Gauge_sound_checkGauges_1.l0 k y0 y1 y2) (slices_IndexFunc_Gauge_sound_checkGauges_1.l0 (k + 1) y0 y1 y2))
 | 0 => fun _ _ _ r h => by simp [slices_IndexFunc_Gauge_sound_checkGauges_1.l0] at h
 | k + 1 => by
  have ih0 := slices_IndexFunc_Gauge_sound_checkGauges_1.mono_l k
  intro y0 y1 y2
  unfold slices_IndexFunc_Gauge_sound_checkGauges_1.l0
  repeat' first
  | (with_reducible exact ih0 _ _ _)
  | (with_reducible exact LeO.refl _)
  | (with_reducible exact LeO.none _)
  | (with_reducible refine LeO.ite ?_ ?_)
  | (with_reducible refine LeO.bind ?_ (fun _ => ?_))
  | exact ih0 _ _ _
  | exact LeO.none _
  | refine LeO.ite ?_ ?_
  | refine LeO.bind ?_ (fun _ => ?_)
theorem slices_IndexFunc_Gauge_sound_checkGauges_1.mono : ∀ a0 k, LeO (slices_IndexFunc_Gauge_sound_checkGauges_1.f k a0) (slices_IndexFunc_Gauge_sound_checkGauges_1.f (k + 1) a0) := by
 intro a0 k
 have ih0 := slices_IndexFunc_Gauge_sound_checkGauges_1.mono_l k
 unfold slices_IndexFunc_Gauge_sound_checkGauges_1.f
 repeat' first
   | (with_reducible exact ih0 _ _ _)
   | (with_reducible exact LeO.refl _)
   | (with_reducible exact LeO.none _)
   | (with_reducible refine LeO.ite ?_ ?_)
   | (with_reducible refine LeO.bind ?_ (fun _ => ?_))
   | exact ih0 _ _ _
   | exact LeO.none _
   | refine LeO.ite ?_ ?_
   | refine LeO.bind ?_ (fun _ => ?_)
set_option maxHeartbeats 8000000 in
set_option maxRecDepth 100000 in
theorem slices_IndexFunc_Gauge_sound_checkGauges_1.calls (k : Nat) (A0 : Option Addr) (c0 : Nat) (l0 : List (S45))  (r : Int) (w : World) (hr0 : Kd.C k45 w A0 l0.length l0) (hc0 : l0.length ≤ c0) (h : slices_IndexFunc_Gauge_sound_checkGauges_1.f k l0 = some r) :
  Calls Try.prog 128 #[.slice A0 l0.length c0, .func (.func 103) #[] #[]] w fun e w' => e = .returned (.int .i64 r) ∧ Below w.heap.size w w' := by
 have hu45 := Try.underlying45
 have HR0 := zam hr0
 have HC0 := zam hc0
 clear hr0 hc0
 have HB := zam (Below.refl w.heap.size w)
 have H : (slices_IndexFunc_Gauge_sound_checkGauges_1.l0 k l0 (l0.length : Int) 0) = some r := h
 clear h
 have H' := zam H
 clear H
 go_enter Try.func128, Try.ntmps128
 go_wp2
 go_loopg [8] k (fun kq v8 w' => ∃ (x8_1 : Int), v8 = .int .i64 x8_1 ∧ Aside0 (slices_IndexFunc_Gauge_sound_checkGauges_1.l0 kq l0 (l0.length : Int) x8_1 = some r) ∧ Aside0 (kq ≤ k) ∧ Aside0 (Below w.heap.size w w'))
 case atStart => exact ⟨(0), (by first | rfl | (simp; done) | (simp [*]; done)), H', ⟨Nat.le_refl _⟩, ⟨by repeat (first | (with_reducible first | exact HB.out | apply zba | apply zbn | apply zb1) | exact HB.out)⟩⟩
 case round =>
  clear H'
  try clear p2
  obtain ⟨x8_1, rfl, HA, HK1, HB⟩ := hrel
  cases gk with
  | zero => exact absurd HA.out (by simp [slices_IndexFunc_Gauge_sound_checkGauges_1.l0])
  | succ k1 =>
   have H := HA.out
   clear HA
   simp only [slices_IndexFunc_Gauge_sound_checkGauges_1.l0] at H
   by_cases c3 : x8_1 < (l0.length : Int)
   ·rw [if_pos c3] at H
    have c3b0 : decide (x8_1 < (l0.length : Int)) = true := zdt c3
    clear c3
    by_cases c4 : 0 ≤ x8_1
    ·rw [if_pos c4] at H
     have c4b0 : decide (0 ≤ x8_1) = true := zdt c4
     clear c4
     by_cases c5 : x8_1 < (l0.length : Int)
     ·rw [if_pos c5] at H
      have c5b0 : decide (x8_1 < (l0.length : Int)) = true := zdt c5
      clear c5
      replace H := Option.bind_eq_some_iff.mp H
      obtain ⟨t102, A60, H⟩ := H
      replace H : (if t102 = true then (some x8_1) else (slices_IndexFunc_Gauge_sound_checkGauges_1.l0 k1 l0 (l0.length : Int) (wrap64 (x8_1 + 1)))) = some r := H
      have A6 := zam A60
      clear A60
      by_cases c7 : t102 = true
      ·subst c7
       have H1 : (some x8_1) = some r := by rw [if_pos rfl] at H; exact H
       clear H
       have H := H1
       clear H1
       obtain rfl := zsi H
       have p101 : 0 ≤ (x8_1 : Int) := zod (by first | (with_reducible assumption) | assumption)
       have q101 : x8_1 < (l0.length : Int) := zod (by first | (with_reducible assumption) | assumption)
       obtain ⟨ad101, A101_0, c101_0, e101, hx101_0, hl101_0, hi101_0⟩ := at_T45 HR0.out x8_1 p101 q101
       cases e101
       replace hx101_0 := (HB.out.cell (zwb w _ hx101_0)).trans hx101_0
       have HR101_0 := zam hi101_0
       have HC101_0 := zam hl101_0
       clear hi101_0 hl101_0
       replace p101 := eq_true p101
       replace q101 := eq_true q101
       go_wp2_with (first | (go_at_call 103; (with_reducible refine (sound_checkGauges_1.calls _ _ ((rd_T45 l0 x8_1).f0) true _ ?side1 ?side2 A6.out).mono ?_); (case side1 => repeat (first | exact (Kd.C_below HR101_0.out HB.out) | (with_reducible refine Kd.C_alloc ?_ _) | (with_reducible refine Kd.C_drewN ?_ _) | (with_reducible refine Kd.C_drew ?_))); (case side2 => exact HC101_0.out); rintro e w8 ⟨rfl, hb⟩; have n0_ := zam (zbt (by repeat (first | (with_reducible first | exact HB.out | apply zba | apply zbn | apply zb1) | exact HB.out)) hb); clear HB; have HB := n0_; clear n0_; (try clear hb); (try clear hb2); (try clear hk); (try clear hi)))
       go_ret
       exact ⟨by first | rfl | (simp [errW_none, errW_some] <;> rfl) | (simp [*, errW_none, errW_some] <;> rfl), by repeat (first | (with_reducible first | exact HB.out | apply zba | apply zbn | apply zb1) | exact HB.out)⟩
      replace c7 := Bool.eq_false_iff.mpr c7
      subst c7
      have H1 : (slices_IndexFunc_Gauge_sound_checkGauges_1.l0 k1 l0 (l0.length : Int) (wrap64 (x8_1 + 1))) = some r := by rw [if_neg (show ¬ (false = true) by decide)] at H; exact H
      clear H
      have H := H1
      clear H1
      have H' := zam H
      clear H
      have p101 : 0 ≤ (x8_1 : Int) := zod (by first | (with_reducible assumption) | assumption)
      have q101 : x8_1 < (l0.length : Int) := zod (by first | (with_reducible assumption) | assumption)
      obtain ⟨ad101, A101_0, c101_0, e101, hx101_0, hl101_0, hi101_0⟩ := at_T45 HR0.out x8_1 p101 q101
      cases e101
      replace hx101_0 := (HB.out.cell (zwb w _ hx101_0)).trans hx101_0
      have HR101_0 := zam hi101_0
      have HC101_0 := zam hl101_0
      clear hi101_0 hl101_0
      replace p101 := eq_true p101
      replace q101 := eq_true q101
      go_wp2_with (first | (go_at_call 103; (with_reducible refine (sound_checkGauges_1.calls _ _ ((rd_T45 l0 x8_1).f0) false _ ?side1 ?side2 A6.out).mono ?_); (case side1 => repeat (first | exact (Kd.C_below HR101_0.out HB.out) | (with_reducible refine Kd.C_alloc ?_ _) | (with_reducible refine Kd.C_drewN ?_ _) | (with_reducible refine Kd.C_drew ?_))); (case side2 => exact HC101_0.out); rintro e w9 ⟨rfl, hb⟩; have n0_ := zam (zbt (by repeat (first | (with_reducible first | exact HB.out | apply zba | apply zbn | apply zb1) | exact HB.out)) hb); clear HB; have HB := n0_; clear n0_; (try clear hb); (try clear hb2); (try clear hk); (try clear hi)))
      go_roundg k1
      case measure => have := HK1.out; omega
      case rel => exact ⟨(wrap64 (x8_1 + 1)), (by first | rfl | (simp; done) | (simp [*]; done)), H', ⟨by have := HK1.out; omega⟩, ⟨by repeat (first | (with_reducible first | exact HB.out | apply zba | apply zbn | apply zb1) | exact HB.out)⟩⟩
     rw [if_neg c5] at H
     exact absurd H (by simp)
    rw [if_neg c4] at H
    exact absurd H (by simp)
   rw [if_neg c3] at H
   have c3b0 : decide (x8_1 < (l0.length : Int)) = false := zdf c3
   clear c3
   obtain rfl := zsi H
   go_wp2
   go_ret
   exact ⟨by first | rfl | (simp [errW_none, errW_some] <;> rfl) | (simp [*, errW_none, errW_some] <;> rfl), by repeat (first | (with_reducible first | exact HB.out | apply zba | apply zbn | apply zb1) | exact HB.out)⟩
def slices_ContainsFunc_Gauge_sound_checkGauges_1.f (k : Nat) (l0 : List (S45))  : Option (Bool) := (slices_IndexFunc_Gauge_sound_checkGauges_1.f k l0).bind fun t101 => (some (decide (t101 ≥ 0)))
theorem slices_ContainsFunc_Gauge_sound_checkGauges_1.mono : ∀ a0 k, LeO (slices_ContainsFunc_Gauge_sound_checkGauges_1.f k a0) (slices_ContainsFunc_Gauge_sound_checkGauges_1.f (k + 1) a0) := by
 intro a0 k
 unfold slices_ContainsFunc_Gauge_sound_checkGauges_1.f
 repeat' first
   | (with_reducible exact slices_IndexFunc_Gauge_sound_checkGauges_1.mono _ _)
   | (with_reducible exact LeO.refl _)
   | (with_reducible exact LeO.none _)
   | (with_reducible refine LeO.ite ?_ ?_)
   | (with_reducible refine LeO.bind ?_ (fun _ => ?_))
   | exact slices_IndexFunc_Gauge_sound_checkGauges_1.mono _ _
   | exact LeO.none _
   | refine LeO.ite ?_ ?_
   | refine LeO.bind ?_ (fun _ => ?_)
set_option maxHeartbeats 8000000 in
set_option maxRecDepth 100000 in
theorem slices_ContainsFunc_Gauge_sound_checkGauges_1.calls (k : Nat) (A0 : Option Addr) (c0 : Nat) (l0 : List (S45))  (r : Bool) (w : World) (hr0 : Kd.C k45 w A0 l0.length l0) (hc0 : l0.length ≤ c0) (h : slices_ContainsFunc_Gauge_sound_checkGauges_1.f k l0 = some r) :
  Calls Try.prog 102 #[.slice A0 l0.length c0, .func (.func 103) #[] #[]] w fun e w' => e = .returned (.bool r) ∧ Below w.heap.size w w' := by
 have HR0 := zam hr0
 have HC0 := zam hc0
 clear hr0 hc0
 have HB := zam (Below.refl w.heap.size w)
 have H : ((slices_IndexFunc_Gauge_sound_checkGauges_1.f k l0).bind fun t101 => (some (decide (t101 ≥ 0)))) = some r := h
 clear h
 replace H := Option.bind_eq_some_iff.mp H
 obtain ⟨t101, A30, H⟩ := H
 replace H : (some (decide (t101 ≥ 0))) = some r := H
 have A3 := zam A30
 clear A30
 obtain rfl := zsi H
 go_enter Try.func102, Try.ntmps102
 go_wp2_with (first | ((with_reducible refine zgc (f := 128) rfl ?_); refine goesL_ (some 7) rfl rfl Try.func128 (by kernel_rfl) rfl #[.slice A0 l0.length c0, .func (.func 103) #[] #[]] rfl (by (try simp only [zmt, List.map_cons, List.map_nil]); first | done | rfl | (simp only [zld, zlt]; rfl)) ?_; (with_reducible refine (slices_IndexFunc_Gauge_sound_checkGauges_1.calls k _ _ l0  t101 _ ?side1 ?side2 A3.out).mono ?_); (case side1 => repeat (first | exact HR0.out | (with_reducible refine Kd.C_alloc ?_ _) | (with_reducible refine Kd.C_drewN ?_ _) | (with_reducible refine Kd.C_drew ?_))); (case side2 => exact HC0.out); rintro e w4 ⟨rfl, hb⟩; refine ⟨_, rfl, ?_⟩; have n0_ := zam (zbt (by repeat (first | (with_reducible first | exact HB.out | apply zba | apply zbn | apply zb1) | exact HB.out)) hb); clear HB; have HB := n0_; clear n0_; (try clear hb); (try clear hb2); (try clear hk); (try clear hi)))
 go_ret
 exact ⟨by first | rfl | (simp [errW_none, errW_some] <;> rfl) | (simp [*, errW_none, errW_some] <;> rfl), by repeat (first | (with_reducible first | exact HB.out | apply zba | apply zbn | apply zb1) | exact HB.out)⟩
def bound_check.l0 : Nat → List (S24) → Int → Int → Option (Int)
 | 0, _, _, _ => none
 | k + 1, x5, x6, x7 => if x7 < x6 then (if 0 ≤ x7 then (if x7 < (x5.length : Int) then (if ((rd_T24 x5 x7).f0) > ((rd_T24 x5 x7).f1) then (some 2) else (if ((rd_T24 x5 x7).f0) < (-1073741824) then (some 2) else (if ((rd_T24 x5 x7).f1) > 1073741824 then (some 2) else (bound_check.l0 k x5 x6 (wrap64 (x7 + 1)))))) else (none)) else (none)) else (some 0)
def bound_check.f (k : Nat) (l0 : List (S24)) : Option (Int) := bound_check.l0 k l0 (l0.length : Int) 0
theorem bound_check.mono_l : ∀ k, (∀ y0 y1 y2, LeO (bound_check.l0 k y0 y1 y2) (bound_check.l0 (k + 1) y0 y1 y2))
 | 0 => fun _ _ _ r h => by simp [bound_check.l0] at h
 | k + 1 => by
  have ih0 := bound_check.mono_l k
  intro y0 y1 y2
  unfold bound_check.l0
  repeat' first
  | (with_reducible exact ih0 _ _ _)
  | (with_reducible exact LeO.refl _)
  | (with_reducible exact LeO.none _)
  | (with_reducible refine LeO.ite ?_ ?_)
  | (with_reducible refine LeO.bind ?_ (fun _ => ?_))
  | exact ih0 _ _ _
  | exact LeO.none _
  | refine LeO.ite ?_ ?_
  | refine LeO.bind ?_ (fun _ => ?_)
theorem bound_check.mono : ∀ a0 k, LeO (bound_check.f k a0) (bound_check.f (k + 1) a0) := by
 intro a0 k
 have ih0 := bound_check.mono_l k
 unfold bound_check.f
 repeat' first
   | (with_reducible exact ih0 _ _ _)
   | (with_reducible exact LeO.refl _)
   | (with_reducible exact LeO.none _)
   | (with_reducible refine LeO.ite ?_ ?_)
   | (with_reducible refine LeO.bind ?_ (fun _ => ?_))
   | exact ih0 _ _ _
   | exact LeO.none _
   | refine LeO.ite ?_ ?_
   | refine LeO.bind ?_ (fun _ => ?_)
set_option maxHeartbeats 8000000 in
set_option maxRecDepth 100000 in
theorem bound_check.calls (k : Nat) (A0 : Option Addr) (c0 : Nat) (l0 : List (S24)) (r : Int) (w : World) (hr0 : Kd.C k24 w A0 l0.length l0) (hc0 : l0.length ≤ c0) (h : bound_check.f k l0 = some r) :
  Calls Try.prog 117 #[.slice A0 l0.length c0] w fun e w' => e = .returned (.int .i64 r) ∧ Below w.heap.size w w' := by
 have hu24 := Try.underlying24
 have HR0 := zam hr0
 have HC0 := zam hc0
 clear hr0 hc0
 have HB := zam (Below.refl w.heap.size w)
 have H : (bound_check.l0 k l0 (l0.length : Int) 0) = some r := h
 clear h
 have H' := zam H
 clear H
 go_enter Try.func117, Try.ntmps117
 go_wp2
 go_loopg [7] k (fun kq v7 w' => ∃ (x7_1 : Int), v7 = .int .i64 x7_1 ∧ Aside0 (bound_check.l0 kq l0 (l0.length : Int) x7_1 = some r) ∧ Aside0 (kq ≤ k) ∧ Aside0 (Below w.heap.size w w'))
 case atStart => exact ⟨(0), (by first | rfl | (simp; done) | (simp [*]; done)), H', ⟨Nat.le_refl _⟩, ⟨by repeat (first | (with_reducible first | exact HB.out | apply zba | apply zbn | apply zb1) | exact HB.out)⟩⟩
 case round =>
  clear H'
  try clear c1
  obtain ⟨x7_1, rfl, HA, HK1, HB⟩ := hrel
  cases gk with
  | zero => exact absurd HA.out (by simp [bound_check.l0])
  | succ k1 =>
   have H := HA.out
   clear HA
   simp only [bound_check.l0] at H
   by_cases c2 : x7_1 < (l0.length : Int)
   ·rw [if_pos c2] at H
    have c2b0 : decide (x7_1 < (l0.length : Int)) = true := zdt c2
    clear c2
    by_cases c3 : 0 ≤ x7_1
    ·rw [if_pos c3] at H
     have c3b0 : decide (0 ≤ x7_1) = true := zdt c3
     clear c3
     by_cases c4 : x7_1 < (l0.length : Int)
     ·rw [if_pos c4] at H
      have c4b0 : decide (x7_1 < (l0.length : Int)) = true := zdt c4
      clear c4
      by_cases c5 : ((rd_T24 l0 x7_1).f0) > ((rd_T24 l0 x7_1).f1)
      ·rw [if_pos c5] at H
       have c5b0 : decide (((rd_T24 l0 x7_1).f1) < ((rd_T24 l0 x7_1).f0)) = true := zdt c5
       clear c5
       obtain rfl := zsi H
       have p101 : 0 ≤ (x7_1 : Int) := zod (by first | (with_reducible assumption) | assumption)
       have q101 : x7_1 < (l0.length : Int) := zod (by first | (with_reducible assumption) | assumption)
       obtain ⟨ad101, e101, hx101_0, hx101_1⟩ := at_T24 HR0.out x7_1 p101 q101
       cases e101
       replace hx101_0 := (HB.out.cell (zwb w _ hx101_0)).trans hx101_0
       replace hx101_1 := (HB.out.cell (zwb w _ hx101_1)).trans hx101_1
       replace p101 := eq_true p101
       replace q101 := eq_true q101
       go_wp2_with (first | ((with_reducible refine zgd (N := 4) rfl ?_); refine box_event ?hg (N := 4) ?hd (cs := #[.int .i64 0, .int .i64 0]) (t := 24) ?hr ?_; (case hd => rfl); (case hg => rfl); (case hr => first | (go_simp; done) | (go_simp; rfl)); intro gb102 hg w6 hbox hb; have n0_ := zam (zbt (by repeat (first | (with_reducible first | exact HB.out | apply zba | apply zbn | apply zb1) | exact HB.out)) hb); have n1_ := zam (hbox); have n2_ := zam ((by rw [hg]; exact (zbz (by repeat (first | (with_reducible first | exact HB.out | apply zba | apply zbn | apply zb1) | exact HB.out))) : w.heap.size ≤ gb102)); have n3_ := zam ((by rw [hg]; exact (zbz (by repeat (first | (with_reducible first | exact HB.out | apply zba | apply zbn | apply zb1) | exact HB.out))) : w.heap.size ≤ gb102)); clear HB; have HB := n0_; have BK102 := n1_; have GW102 := n2_; have GE102 := n3_; clear n0_ n1_ n2_ n3_; clear hb hbox hg; have hcz7_0 : w6.cell? ⟨gb102, 0, none⟩ = some (.int .i64 0) := (zkc BK102.out 0).trans rfl; have hcz7_1 : w6.cell? ⟨gb102, 1, none⟩ = some (.int .i64 0) := (zkc BK102.out 1).trans rfl; have hfz7_0 := zkz BK102.out 0; have hfz7_1 := zkz BK102.out 1))
       go_ret
       exact ⟨by first | rfl | (simp [errW_none, errW_some] <;> rfl) | (simp [*, errW_none, errW_some] <;> rfl), by repeat (first | (with_reducible first | exact HB.out | apply zba | apply zbn | apply zb1 | refine zbs ?_ GE102.out) | exact HB.out)⟩
      rw [if_neg c5] at H
      have c5b0 : decide (((rd_T24 l0 x7_1).f1) < ((rd_T24 l0 x7_1).f0)) = false := zdf c5
      clear c5
      by_cases c8 : ((rd_T24 l0 x7_1).f0) < (-1073741824)
      ·rw [if_pos c8] at H
       have c8b0 : decide (((rd_T24 l0 x7_1).f0) < (-1073741824)) = true := zdt c8
       clear c8
       obtain rfl := zsi H
       have p101 : 0 ≤ (x7_1 : Int) := zod (by first | (with_reducible assumption) | assumption)
       have q101 : x7_1 < (l0.length : Int) := zod (by first | (with_reducible assumption) | assumption)
       obtain ⟨ad101, e101, hx101_0, hx101_1⟩ := at_T24 HR0.out x7_1 p101 q101
       cases e101
       replace hx101_0 := (HB.out.cell (zwb w _ hx101_0)).trans hx101_0
       replace hx101_1 := (HB.out.cell (zwb w _ hx101_1)).trans hx101_1
       replace p101 := eq_true p101
       replace q101 := eq_true q101
       go_wp2_with (first | ((with_reducible refine zgd (N := 4) rfl ?_); refine box_event ?hg (N := 4) ?hd (cs := #[.int .i64 0, .int .i64 0]) (t := 24) ?hr ?_; (case hd => rfl); (case hg => rfl); (case hr => first | (go_simp; done) | (go_simp; rfl)); intro gb102 hg w9 hbox hb; have n0_ := zam (zbt (by repeat (first | (with_reducible first | exact HB.out | apply zba | apply zbn | apply zb1) | exact HB.out)) hb); have n1_ := zam (hbox); have n2_ := zam ((by rw [hg]; exact (zbz (by repeat (first | (with_reducible first | exact HB.out | apply zba | apply zbn | apply zb1) | exact HB.out))) : w.heap.size ≤ gb102)); have n3_ := zam ((by rw [hg]; exact (zbz (by repeat (first | (with_reducible first | exact HB.out | apply zba | apply zbn | apply zb1) | exact HB.out))) : w.heap.size ≤ gb102)); clear HB; have HB := n0_; have BK102 := n1_; have GW102 := n2_; have GE102 := n3_; clear n0_ n1_ n2_ n3_; clear hb hbox hg; have hcz10_0 : w9.cell? ⟨gb102, 0, none⟩ = some (.int .i64 0) := (zkc BK102.out 0).trans rfl; have hcz10_1 : w9.cell? ⟨gb102, 1, none⟩ = some (.int .i64 0) := (zkc BK102.out 1).trans rfl; have hfz10_0 := zkz BK102.out 0; have hfz10_1 := zkz BK102.out 1))
       go_ret
       exact ⟨by first | rfl | (simp [errW_none, errW_some] <;> rfl) | (simp [*, errW_none, errW_some] <;> rfl), by repeat (first | (with_reducible first | exact HB.out | apply zba | apply zbn | apply zb1 | refine zbs ?_ GE102.out) | exact HB.out)⟩
      rw [if_neg c8] at H
      have c8b0 : decide (((rd_T24 l0 x7_1).f0) < (-1073741824)) = false := zdf c8
      clear c8
      by_cases c11 : ((rd_T24 l0 x7_1).f1) > 1073741824
      ·rw [if_pos c11] at H
       have c11b0 : decide (1073741824 < ((rd_T24 l0 x7_1).f1)) = true := zdt c11
       clear c11
       obtain rfl := zsi H
       have p101 : 0 ≤ (x7_1 : Int) := zod (by first | (with_reducible assumption) | assumption)
       have q101 : x7_1 < (l0.length : Int) := zod (by first | (with_reducible assumption) | assumption)
       obtain ⟨ad101, e101, hx101_0, hx101_1⟩ := at_T24 HR0.out x7_1 p101 q101
       cases e101
       replace hx101_0 := (HB.out.cell (zwb w _ hx101_0)).trans hx101_0
       replace hx101_1 := (HB.out.cell (zwb w _ hx101_1)).trans hx101_1
       replace p101 := eq_true p101
       replace q101 := eq_true q101
       go_wp2_with (first | ((with_reducible refine zgd (N := 4) rfl ?_); refine box_event ?hg (N := 4) ?hd (cs := #[.int .i64 0, .int .i64 0]) (t := 24) ?hr ?_; (case hd => rfl); (case hg => rfl); (case hr => first | (go_simp; done) | (go_simp; rfl)); intro gb102 hg w12 hbox hb; have n0_ := zam (zbt (by repeat (first | (with_reducible first | exact HB.out | apply zba | apply zbn | apply zb1) | exact HB.out)) hb); have n1_ := zam (hbox); have n2_ := zam ((by rw [hg]; exact (zbz (by repeat (first | (with_reducible first | exact HB.out | apply zba | apply zbn | apply zb1) | exact HB.out))) : w.heap.size ≤ gb102)); have n3_ := zam ((by rw [hg]; exact (zbz (by repeat (first | (with_reducible first | exact HB.out | apply zba | apply zbn | apply zb1) | exact HB.out))) : w.heap.size ≤ gb102)); clear HB; have HB := n0_; have BK102 := n1_; have GW102 := n2_; have GE102 := n3_; clear n0_ n1_ n2_ n3_; clear hb hbox hg; have hcz13_0 : w12.cell? ⟨gb102, 0, none⟩ = some (.int .i64 0) := (zkc BK102.out 0).trans rfl; have hcz13_1 : w12.cell? ⟨gb102, 1, none⟩ = some (.int .i64 0) := (zkc BK102.out 1).trans rfl; have hfz13_0 := zkz BK102.out 0; have hfz13_1 := zkz BK102.out 1))
       go_ret
       exact ⟨by first | rfl | (simp [errW_none, errW_some] <;> rfl) | (simp [*, errW_none, errW_some] <;> rfl), by repeat (first | (with_reducible first | exact HB.out | apply zba | apply zbn | apply zb1 | refine zbs ?_ GE102.out) | exact HB.out)⟩
      rw [if_neg c11] at H
      have c11b0 : decide (1073741824 < ((rd_T24 l0 x7_1).f1)) = false := zdf c11
      clear c11
      have H' := zam H
      clear H
      have p101 : 0 ≤ (x7_1 : Int) := zod (by first | (with_reducible assumption) | assumption)
      have q101 : x7_1 < (l0.length : Int) := zod (by first | (with_reducible assumption) | assumption)
      obtain ⟨ad101, e101, hx101_0, hx101_1⟩ := at_T24 HR0.out x7_1 p101 q101
      cases e101
      replace hx101_0 := (HB.out.cell (zwb w _ hx101_0)).trans hx101_0
      replace hx101_1 := (HB.out.cell (zwb w _ hx101_1)).trans hx101_1
      replace p101 := eq_true p101
      replace q101 := eq_true q101
      go_wp2_with (first | ((with_reducible refine zgd (N := 4) rfl ?_); refine box_event ?hg (N := 4) ?hd (cs := #[.int .i64 0, .int .i64 0]) (t := 24) ?hr ?_; (case hd => rfl); (case hg => rfl); (case hr => first | (go_simp; done) | (go_simp; rfl)); intro gb102 hg w14 hbox hb; have n0_ := zam (zbt (by repeat (first | (with_reducible first | exact HB.out | apply zba | apply zbn | apply zb1) | exact HB.out)) hb); have n1_ := zam (hbox); have n2_ := zam ((by rw [hg]; exact (zbz (by repeat (first | (with_reducible first | exact HB.out | apply zba | apply zbn | apply zb1) | exact HB.out))) : w.heap.size ≤ gb102)); have n3_ := zam ((by rw [hg]; exact (zbz (by repeat (first | (with_reducible first | exact HB.out | apply zba | apply zbn | apply zb1) | exact HB.out))) : w.heap.size ≤ gb102)); clear HB; have HB := n0_; have BK102 := n1_; have GW102 := n2_; have GE102 := n3_; clear n0_ n1_ n2_ n3_; clear hb hbox hg; have hcz15_0 : w14.cell? ⟨gb102, 0, none⟩ = some (.int .i64 0) := (zkc BK102.out 0).trans rfl; have hcz15_1 : w14.cell? ⟨gb102, 1, none⟩ = some (.int .i64 0) := (zkc BK102.out 1).trans rfl; have hfz15_0 := zkz BK102.out 0; have hfz15_1 := zkz BK102.out 1))
      go_roundg k1
      case measure => have := HK1.out; omega
      case rel => exact ⟨(wrap64 (x7_1 + 1)), (by first | rfl | (simp; done) | (simp [*]; done)), H', ⟨by have := HK1.out; omega⟩, ⟨by repeat (first | (with_reducible first | exact HB.out | apply zba | apply zbn | apply zb1 | refine zbs ?_ GE102.out) | exact HB.out)⟩⟩
     rw [if_neg c4] at H
     exact absurd H (by simp)
    rw [if_neg c3] at H
    exact absurd H (by simp)
   rw [if_neg c2] at H
   have c2b0 : decide (x7_1 < (l0.length : Int)) = false := zdf c2
   clear c2
   obtain rfl := zsi H
   go_wp2
   go_ret
   exact ⟨by first | rfl | (simp [errW_none, errW_some] <;> rfl) | (simp [*, errW_none, errW_some] <;> rfl), by repeat (first | (with_reducible first | exact HB.out | apply zba | apply zbn | apply zb1) | exact HB.out)⟩
def bound_Check.f (k : Nat) (a0_0 : Int) (a0_1 : Int) : Option (Int) := (bound_check.f k (([(⟨a0_0, a0_1⟩ : S24)] : List (S24)))).bind fun t105 => (some t105)
theorem bound_Check.mono : ∀ a0 a1 k, LeO (bound_Check.f k a0 a1) (bound_Check.f (k + 1) a0 a1) := by
 intro a0 a1 k
 unfold bound_Check.f
 repeat' first
   | (with_reducible exact bound_check.mono _ _)
   | (with_reducible exact LeO.refl _)
   | (with_reducible exact LeO.none _)
   | (with_reducible refine LeO.ite ?_ ?_)
   | (with_reducible refine LeO.bind ?_ (fun _ => ?_))
   | exact bound_check.mono _ _
   | exact LeO.none _
   | refine LeO.ite ?_ ?_
   | refine LeO.bind ?_ (fun _ => ?_)
set_option maxHeartbeats 8000000 in
set_option maxRecDepth 100000 in
theorem bound_Check.calls (k : Nat) (a0_0 : Int) (a0_1 : Int) (r : Int) (w : World) (h : bound_Check.f k a0_0 a0_1 = some r) :
  Calls Try.prog 96 #[.agg #[.int .i64 a0_0, .int .i64 a0_1]] w fun e w' => e = .returned (.int .i64 r) ∧ Below w.heap.size w w' := by
 have hu24 := Try.underlying24
 have HB := zam (Below.refl w.heap.size w)
 have H : ((bound_check.f k (([(⟨a0_0, a0_1⟩ : S24)] : List (S24)))).bind fun t105 => (some t105)) = some r := h
 clear h
 obtain ⟨y102, hy102⟩ : ∃ y_ : List (S24), y_ = (([(⟨a0_0, a0_1⟩ : S24)] : List (S24))) := ⟨_, rfl⟩
 replace H : ((bound_check.f k y102).bind fun t105 => (some t105)) = some r := by first | (rw [hy102]; with_reducible exact H) | (have H2_ := (Option.bind_some _ _).symm.trans H; rw [hy102]; with_reducible exact H2_) | (have H2_ := (Option.bind_some _ _).symm.trans H; with_reducible exact H2_) | with_reducible exact H | (rw [hy102]; exact H) | exact H
 have Ny102 := zam hy102
 clear hy102
 replace H := Option.bind_eq_some_iff.mp H
 obtain ⟨t105, A20, H⟩ := H
 replace H : (some t105) = some r := H
 have A2 := zam A20
 clear A20
 obtain rfl := zsi H
 go_enter Try.func96, Try.ntmps96
 go_wp2_with (first | ((with_reducible refine zgd (N := 1) rfl ?_); refine box_event ?hg (N := 1) ?hd (cs := #[.int .i64 a0_0, .int .i64 a0_1]) (t := 24) ?hr ?_; (case hd => rfl); (case hg => rfl); (case hr => first | (go_simp; done) | (go_simp; rfl)); intro gb101 hg w3 hbox hb; have n0_ := zam (zbt (by repeat (first | (with_reducible first | exact HB.out | apply zba | apply zbn | apply zb1) | exact HB.out)) hb); have n1_ := zam (hbox); have n2_ := zam ((by rw [hg]; exact (zbz (by repeat (first | (with_reducible first | exact HB.out | apply zba | apply zbn | apply zb1) | exact HB.out))) : w.heap.size ≤ gb101)); have n3_ := zam ((by rw [hg]; exact (zbz (by repeat (first | (with_reducible first | exact HB.out | apply zba | apply zbn | apply zb1) | exact HB.out))) : w.heap.size ≤ gb101)); clear HB; have HB := n0_; have BK101 := n1_; have GW101 := n2_; have GE101 := n3_; clear n0_ n1_ n2_ n3_; clear hb hbox hg; have hcz4_0 : w3.cell? ⟨gb101, 0, none⟩ = some (.int .i64 a0_0) := (zkc BK101.out 0).trans rfl; have hcz4_1 : w3.cell? ⟨gb101, 1, none⟩ = some (.int .i64 a0_1) := (zkc BK101.out 1).trans rfl; have hfz4_0 := zkz BK101.out 0; have hfz4_1 := zkz BK101.out 1) | ((with_reducible refine zgd (N := 4) rfl ?_); refine Kd.R_lit k24 _ 24 ?hg (N := 4) ?hd (xs := ([(⟨a0_0, a0_1⟩ : S24)] : List (S24))) (inner := [.int .i64 a0_0, .int .i64 a0_1]) (ok := fun _ => True) (okp := fun _ => True) ?hr ?hp (fun _ hk => hk) trivial (Below.refl _ _) (Nat.le_refl _) (by simp) ?_; (case hd => rfl); (case hg => rfl); (case hr => first | (go_simp; done) | (go_simp; rfl)); (case hp => exact (Reps.c2 (show Kd.M k24 _ _ _ (⟨a0_0, a0_1⟩ : S24) [.int .i64 a0_0, .int .i64 a0_1] from (k24_mkM _ _ _ (⟨a0_0, a0_1⟩ : S24) )) (Reps.none _ _))); intro v103 w5 ho6 hb hg_ hnew_; clear hg_ hnew_; (first | rw [← Ny102.out] at ho6 | (simp only [Int.reduceToNat] at ho6; rw [← Ny102.out] at ho6)); have n0_ := zam (Kd.R_lower (Kd.R_newB ho6 (g := gb101) (o := .cells #[.int .i64 a0_0, .int .i64 a0_1] 24 (0, 0)) (by (with_reducible repeat (first | refine zkn ?_ _ | refine zkd ?_ | refine zka ?_ _)); exact BK101.out)) (zbz (by repeat (first | (with_reducible first | exact HB.out | apply zba | apply zbn | apply zb1 | refine zbs ?_ GE101.out) | exact HB.out)))); have n1_ := zam (zkb (g := gb101) (o := .cells #[.int .i64 a0_0, .int .i64 a0_1] 24 (0, 0)) (by (with_reducible repeat (first | refine zkn ?_ _ | refine zkd ?_ | refine zka ?_ _)); exact BK101.out) hb); have n2_ := zam (zbt (by repeat (first | (with_reducible first | exact HB.out | apply zba | apply zbn | apply zb1 | refine zbs ?_ GE101.out) | exact HB.out)) hb); clear BK101; clear HB; have HO104 := n0_; have BK101 := n1_; have HB := n2_; clear n0_ n1_ n2_; clear hb ho6; obtain ⟨Ao7, co7, eo7⟩ := Kd.R_slice HO104.out; subst eo7) | ((with_reducible refine zgc (f := 117) rfl ?_); refine goesL_ (some 5) rfl rfl Try.func117 (by kernel_rfl) rfl #[.slice Ao7 y102.length co7] rfl (by (try simp only [zmt, List.map_cons, List.map_nil]); first | done | rfl | (simp only [zld, zlt]; rfl)) ?_; (with_reducible refine (bound_check.calls k _ _ y102 t105 _ ?side1 ?side2 A2.out).mono ?_); (case side1 => repeat (first | exact (Kd.R_reads' HO104.out).2.2 | (with_reducible refine Kd.C_alloc ?_ _) | (with_reducible refine Kd.C_drewN ?_ _) | (with_reducible refine Kd.C_drew ?_))); (case side2 => exact (Kd.R_reads' HO104.out).2.1); rintro e w8 ⟨rfl, hb⟩; refine ⟨_, rfl, ?_⟩; have n0_ := zam (Kd.R_below (by (with_reducible repeat (first | apply zRa | apply zRn | apply zRd)); exact HO104.out) hb); have n1_ := zam (zkb (g := gb101) (o := .cells #[.int .i64 a0_0, .int .i64 a0_1] 24 (0, 0)) (by (with_reducible repeat (first | refine zkn ?_ _ | refine zkd ?_ | refine zka ?_ _)); exact BK101.out) hb); have n2_ := zam (zbt (by repeat (first | (with_reducible first | exact HB.out | apply zba | apply zbn | apply zb1 | refine zbs ?_ GE101.out) | exact HB.out)) hb); clear HO104; clear BK101; clear HB; have HO104 := n0_; have BK101 := n1_; have HB := n2_; clear n0_ n1_ n2_; (try clear hb); (try clear hb2); (try clear hk); (try clear hi)))
 go_ret
 exact ⟨by first | rfl | (simp [errW_none, errW_some] <;> rfl) | (simp [*, errW_none, errW_some] <;> rfl), by repeat (first | (with_reducible first | exact HB.out | apply zba | apply zbn | apply zb1 | refine zbs ?_ GE101.out) | exact HB.out)⟩
def sound_checkTrack_1.f (k : Nat) (a0_0 : Int) (a0_1 : Int) : Option (Bool) := (bound_Check.f k a0_0 a0_1).bind fun t102 => (some (t102 != 0))
theorem sound_checkTrack_1.mono : ∀ a0 a1 k, LeO (sound_checkTrack_1.f k a0 a1) (sound_checkTrack_1.f (k + 1) a0 a1) := by
 intro a0 a1 k
 unfold sound_checkTrack_1.f
 repeat' first
   | (with_reducible exact bound_Check.mono _ _ _)
   | (with_reducible exact LeO.refl _)
   | (with_reducible exact LeO.none _)
   | (with_reducible refine LeO.ite ?_ ?_)
   | (with_reducible refine LeO.bind ?_ (fun _ => ?_))
   | exact bound_Check.mono _ _ _
   | exact LeO.none _
   | refine LeO.ite ?_ ?_
   | refine LeO.bind ?_ (fun _ => ?_)
set_option maxHeartbeats 8000000 in
set_option maxRecDepth 100000 in
theorem sound_checkTrack_1.calls (k : Nat) (a0_0 : Int) (a0_1 : Int) (r : Bool) (w : World) (h : sound_checkTrack_1.f k a0_0 a0_1 = some r) :
  Calls Try.prog 109 #[.agg #[.int .i64 a0_0, .int .i64 a0_1]] w fun e w' => e = .returned (.bool r) ∧ Below w.heap.size w w' := by
 have hu24 := Try.underlying24
 have HB := zam (Below.refl w.heap.size w)
 have H : ((bound_Check.f k a0_0 a0_1).bind fun t102 => (some (t102 != 0))) = some r := h
 clear h
 replace H := Option.bind_eq_some_iff.mp H
 obtain ⟨t102, A20, H⟩ := H
 replace H : (some (t102 != 0)) = some r := H
 have A2 := zam A20
 clear A20
 obtain rfl := zsi H
 go_enter Try.func109, Try.ntmps109
 go_wp2_with (first | ((with_reducible refine zgd (N := 1) rfl ?_); refine box_event ?hg (N := 1) ?hd (cs := #[.int .i64 a0_0, .int .i64 a0_1]) (t := 24) ?hr ?_; (case hd => rfl); (case hg => rfl); (case hr => first | (go_simp; done) | (go_simp; rfl)); intro gb101 hg w3 hbox hb; have n0_ := zam (zbt (by repeat (first | (with_reducible first | exact HB.out | apply zba | apply zbn | apply zb1) | exact HB.out)) hb); have n1_ := zam (hbox); have n2_ := zam ((by rw [hg]; exact (zbz (by repeat (first | (with_reducible first | exact HB.out | apply zba | apply zbn | apply zb1) | exact HB.out))) : w.heap.size ≤ gb101)); have n3_ := zam ((by rw [hg]; exact (zbz (by repeat (first | (with_reducible first | exact HB.out | apply zba | apply zbn | apply zb1) | exact HB.out))) : w.heap.size ≤ gb101)); clear HB; have HB := n0_; have BK101 := n1_; have GW101 := n2_; have GE101 := n3_; clear n0_ n1_ n2_ n3_; clear hb hbox hg; have hcz4_0 : w3.cell? ⟨gb101, 0, none⟩ = some (.int .i64 a0_0) := (zkc BK101.out 0).trans rfl; have hcz4_1 : w3.cell? ⟨gb101, 1, none⟩ = some (.int .i64 a0_1) := (zkc BK101.out 1).trans rfl; have hfz4_0 := zkz BK101.out 0; have hfz4_1 := zkz BK101.out 1) | ((with_reducible refine zgc (f := 96) rfl ?_); refine goesL_ (some 4) rfl rfl Try.func96 (by kernel_rfl) rfl #[.agg #[.int .i64 a0_0, .int .i64 a0_1]] rfl (by (try simp only [zmt, List.map_cons, List.map_nil]); first | done | rfl | (simp only [zld, zlt]; rfl)) ?_; (with_reducible refine (bound_Check.calls k a0_0 a0_1 t102 _ A2.out).mono ?_); rintro e w5 ⟨rfl, hb⟩; refine ⟨_, rfl, ?_⟩; have n0_ := zam (zkb (g := gb101) (o := .cells #[.int .i64 a0_0, .int .i64 a0_1] 24 (0, 0)) (by (with_reducible repeat (first | refine zkn ?_ _ | refine zkd ?_ | refine zka ?_ _)); exact BK101.out) hb); have n1_ := zam (zbt (by repeat (first | (with_reducible first | exact HB.out | apply zba | apply zbn | apply zb1 | refine zbs ?_ GE101.out) | exact HB.out)) hb); clear BK101; clear HB; have BK101 := n0_; have HB := n1_; clear n0_ n1_; (try clear hb); (try clear hb2); (try clear hk); (try clear hi)))
 go_ret
 exact ⟨by first | rfl | (simp [errW_none, errW_some] <;> rfl) | (simp [*, errW_none, errW_some] <;> rfl), by repeat (first | (with_reducible first | exact HB.out | apply zba | apply zbn | apply zb1 | refine zbs ?_ GE101.out) | exact HB.out)⟩
def slices_IndexFunc_Span_sound_checkTrack_1.l0 : Nat → List (S24) → Int → Int → Option (Int)
 | 0, _, _, _ => none
 | k + 1, x0, x7, x8 => if x8 < x7 then (if 0 ≤ x8 then (if x8 < (x0.length : Int) then ((sound_checkTrack_1.f k ((rd_T24 x0 x8).f0) ((rd_T24 x0 x8).f1)).bind fun t102 => (if t102 = true then (some x8) else (slices_IndexFunc_Span_sound_checkTrack_1.l0 k x0 x7 (wrap64 (x8 + 1))))) else (none)) else (none)) else (some (-1))
def slices_IndexFunc_Span_sound_checkTrack_1.f (k : Nat) (l0 : List (S24))  : Option (Int) := slices_IndexFunc_Span_sound_checkTrack_1.l0 k l0 (l0.length : Int) 0
theorem slices_IndexFunc_Span_sound_checkTrack_1.mono_l : ∀ k, (∀ y0 y1 y2, LeO (slices_IndexFunc_Span_sound_checkTrack_1.l0 k y0 y1 y2) (slices_IndexFunc_Span_sound_checkTrack_1.l0 (k + 1) y0 y1 y2))
 | 0 => fun _ _ _ r h => by simp [slices_IndexFunc_Span_sound_checkTrack_1.l0] at h
 | k + 1 => by
  have ih0 := slices_IndexFunc_Span_sound_checkTrack_1.mono_l k
  intro y0 y1 y2
  unfold slices_IndexFunc_Span_sound_checkTrack_1.l0
  repeat' first
  | (with_reducible exact ih0 _ _ _)
  | (with_reducible exact sound_checkTrack_1.mono _ _ _)
  | (with_reducible exact LeO.refl _)
  | (with_reducible exact LeO.none _)
  | (with_reducible refine LeO.ite ?_ ?_)
  | (with_reducible refine LeO.bind ?_ (fun _ => ?_))
  | exact ih0 _ _ _
  | exact sound_checkTrack_1.mono _ _ _
  | exact LeO.none _
  | refine LeO.ite ?_ ?_
  | refine LeO.bind ?_ (fun _ => ?_)
theorem slices_IndexFunc_Span_sound_checkTrack_1.mono : ∀ a0 k, LeO (slices_IndexFunc_Span_sound_checkTrack_1.f k a0) (slices_IndexFunc_Span_sound_checkTrack_1.f (k + 1) a0) := by
 intro a0 k
 have ih0 := slices_IndexFunc_Span_sound_checkTrack_1.mono_l k
 unfold slices_IndexFunc_Span_sound_checkTrack_1.f
 repeat' first
   | (with_reducible exact ih0 _ _ _)
   | (with_reducible exact sound_checkTrack_1.mono _ _ _)
   | (with_reducible exact LeO.refl _)
   | (with_reducible exact LeO.none _)
   | (with_reducible refine LeO.ite ?_ ?_)
   | (with_reducible refine LeO.bind ?_ (fun _ => ?_))
   | exact ih0 _ _ _
   | exact sound_checkTrack_1.mono _ _ _
   | exact LeO.none _
   | refine LeO.ite ?_ ?_
   | refine LeO.bind ?_ (fun _ => ?_)
set_option maxHeartbeats 8000000 in
set_option maxRecDepth 100000 in
theorem slices_IndexFunc_Span_sound_checkTrack_1.calls (k : Nat) (A0 : Option Addr) (c0 : Nat) (l0 : List (S24))  (r : Int) (w : World) (hr0 : Kd.C k24 w A0 l0.length l0) (hc0 : l0.length ≤ c0) (h : slices_IndexFunc_Span_sound_checkTrack_1.f k l0 = some r) :
  Calls Try.prog 125 #[.slice A0 l0.length c0, .func (.func 109) #[] #[]] w fun e w' => e = .returned (.int .i64 r) ∧ Below w.heap.size w w' := by
 have hu24 := Try.underlying24
 have HR0 := zam hr0
 have HC0 := zam hc0
 clear hr0 hc0
 have HB := zam (Below.refl w.heap.size w)
 have H : (slices_IndexFunc_Span_sound_checkTrack_1.l0 k l0 (l0.length : Int) 0) = some r := h
 clear h
 have H' := zam H
 clear H
 go_enter Try.func125, Try.ntmps125
 go_wp2
 go_loopg [8] k (fun kq v8 w' => ∃ (x8_1 : Int), v8 = .int .i64 x8_1 ∧ Aside0 (slices_IndexFunc_Span_sound_checkTrack_1.l0 kq l0 (l0.length : Int) x8_1 = some r) ∧ Aside0 (kq ≤ k) ∧ Aside0 (Below w.heap.size w w'))
 case atStart => exact ⟨(0), (by first | rfl | (simp; done) | (simp [*]; done)), H', ⟨Nat.le_refl _⟩, ⟨by repeat (first | (with_reducible first | exact HB.out | apply zba | apply zbn | apply zb1) | exact HB.out)⟩⟩
 case round =>
  clear H'
  try clear p2
  obtain ⟨x8_1, rfl, HA, HK1, HB⟩ := hrel
  cases gk with
  | zero => exact absurd HA.out (by simp [slices_IndexFunc_Span_sound_checkTrack_1.l0])
  | succ k1 =>
   have H := HA.out
   clear HA
   simp only [slices_IndexFunc_Span_sound_checkTrack_1.l0] at H
   by_cases c3 : x8_1 < (l0.length : Int)
   ·rw [if_pos c3] at H
    have c3b0 : decide (x8_1 < (l0.length : Int)) = true := zdt c3
    clear c3
    by_cases c4 : 0 ≤ x8_1
    ·rw [if_pos c4] at H
     have c4b0 : decide (0 ≤ x8_1) = true := zdt c4
     clear c4
     by_cases c5 : x8_1 < (l0.length : Int)
     ·rw [if_pos c5] at H
      have c5b0 : decide (x8_1 < (l0.length : Int)) = true := zdt c5
      clear c5
      replace H := Option.bind_eq_some_iff.mp H
      obtain ⟨t102, A60, H⟩ := H
      replace H : (if t102 = true then (some x8_1) else (slices_IndexFunc_Span_sound_checkTrack_1.l0 k1 l0 (l0.length : Int) (wrap64 (x8_1 + 1)))) = some r := H
      have A6 := zam A60
      clear A60
      by_cases c7 : t102 = true
      ·subst c7
       have H1 : (some x8_1) = some r := by rw [if_pos rfl] at H; exact H
       clear H
       have H := H1
       clear H1
       obtain rfl := zsi H
       have p101 : 0 ≤ (x8_1 : Int) := zod (by first | (with_reducible assumption) | assumption)
       have q101 : x8_1 < (l0.length : Int) := zod (by first | (with_reducible assumption) | assumption)
       obtain ⟨ad101, e101, hx101_0, hx101_1⟩ := at_T24 HR0.out x8_1 p101 q101
       cases e101
       replace hx101_0 := (HB.out.cell (zwb w _ hx101_0)).trans hx101_0
       replace hx101_1 := (HB.out.cell (zwb w _ hx101_1)).trans hx101_1
       replace p101 := eq_true p101
       replace q101 := eq_true q101
       go_wp2_with (first | (go_at_call 109; (with_reducible refine (sound_checkTrack_1.calls k1 ((rd_T24 l0 x8_1).f0) ((rd_T24 l0 x8_1).f1) true _ A6.out).mono ?_); rintro e w8 ⟨rfl, hb⟩; have n0_ := zam (zbt (by repeat (first | (with_reducible first | exact HB.out | apply zba | apply zbn | apply zb1) | exact HB.out)) hb); clear HB; have HB := n0_; clear n0_; (try clear hb); (try clear hb2); (try clear hk); (try clear hi)))
       go_ret
       exact ⟨by first | rfl | (simp [errW_none, errW_some] <;> rfl) | (simp [*, errW_none, errW_some] <;> rfl), by repeat (first | (with_reducible first | exact HB.out | apply zba | apply zbn | apply zb1) | exact HB.out)⟩
      replace c7 := Bool.eq_false_iff.mpr c7
      subst c7
      have H1 : (slices_IndexFunc_Span_sound_checkTrack_1.l0 k1 l0 (l0.length : Int) (wrap64 (x8_1 + 1))) = some r := by rw [if_neg (show ¬ (false = true) by decide)] at H; exact H
      clear H
      have H := H1
      clear H1
      have H' := zam H
      clear H
      have p101 : 0 ≤ (x8_1 : Int) := zod (by first | (with_reducible assumption) | assumption)
      have q101 : x8_1 < (l0.length : Int) := zod (by first | (with_reducible assumption) | assumption)
      obtain ⟨ad101, e101, hx101_0, hx101_1⟩ := at_T24 HR0.out x8_1 p101 q101
      cases e101
      replace hx101_0 := (HB.out.cell (zwb w _ hx101_0)).trans hx101_0
      replace hx101_1 := (HB.out.cell (zwb w _ hx101_1)).trans hx101_1
      replace p101 := eq_true p101
      replace q101 := eq_true q101
      go_wp2_with (first | (go_at_call 109; (with_reducible refine (sound_checkTrack_1.calls k1 ((rd_T24 l0 x8_1).f0) ((rd_T24 l0 x8_1).f1) false _ A6.out).mono ?_); rintro e w9 ⟨rfl, hb⟩; have n0_ := zam (zbt (by repeat (first | (with_reducible first | exact HB.out | apply zba | apply zbn | apply zb1) | exact HB.out)) hb); clear HB; have HB := n0_; clear n0_; (try clear hb); (try clear hb2); (try clear hk); (try clear hi)))
      go_roundg k1
      case measure => have := HK1.out; omega
      case rel => exact ⟨(wrap64 (x8_1 + 1)), (by first | rfl | (simp; done) | (simp [*]; done)), H', ⟨by have := HK1.out; omega⟩, ⟨by repeat (first | (with_reducible first | exact HB.out | apply zba | apply zbn | apply zb1) | exact HB.out)⟩⟩
     rw [if_neg c5] at H
     exact absurd H (by simp)
    rw [if_neg c4] at H
    exact absurd H (by simp)
   rw [if_neg c3] at H
   have c3b0 : decide (x8_1 < (l0.length : Int)) = false := zdf c3
   clear c3
   obtain rfl := zsi H
   go_wp2
   go_ret
   exact ⟨by first | rfl | (simp [errW_none, errW_some] <;> rfl) | (simp [*, errW_none, errW_some] <;> rfl), by repeat (first | (with_reducible first | exact HB.out | apply zba | apply zbn | apply zb1) | exact HB.out)⟩
def slices_ContainsFunc_Span_sound_checkTrack_1.f (k : Nat) (l0 : List (S24))  : Option (Bool) := (slices_IndexFunc_Span_sound_checkTrack_1.f k l0).bind fun t101 => (some (decide (t101 ≥ 0)))
theorem slices_ContainsFunc_Span_sound_checkTrack_1.mono : ∀ a0 k, LeO (slices_ContainsFunc_Span_sound_checkTrack_1.f k a0) (slices_ContainsFunc_Span_sound_checkTrack_1.f (k + 1) a0) := by
 intro a0 k
 unfold slices_ContainsFunc_Span_sound_checkTrack_1.f
 repeat' first
   | (with_reducible exact slices_IndexFunc_Span_sound_checkTrack_1.mono _ _)
   | (with_reducible exact LeO.refl _)
   | (with_reducible exact LeO.none _)
   | (with_reducible refine LeO.ite ?_ ?_)
   | (with_reducible refine LeO.bind ?_ (fun _ => ?_))
   | exact slices_IndexFunc_Span_sound_checkTrack_1.mono _ _
   | exact LeO.none _
   | refine LeO.ite ?_ ?_
   | refine LeO.bind ?_ (fun _ => ?_)
set_option maxHeartbeats 8000000 in
set_option maxRecDepth 100000 in
theorem slices_ContainsFunc_Span_sound_checkTrack_1.calls (k : Nat) (A0 : Option Addr) (c0 : Nat) (l0 : List (S24))  (r : Bool) (w : World) (hr0 : Kd.C k24 w A0 l0.length l0) (hc0 : l0.length ≤ c0) (h : slices_ContainsFunc_Span_sound_checkTrack_1.f k l0 = some r) :
  Calls Try.prog 99 #[.slice A0 l0.length c0, .func (.func 109) #[] #[]] w fun e w' => e = .returned (.bool r) ∧ Below w.heap.size w w' := by
 have HR0 := zam hr0
 have HC0 := zam hc0
 clear hr0 hc0
 have HB := zam (Below.refl w.heap.size w)
 have H : ((slices_IndexFunc_Span_sound_checkTrack_1.f k l0).bind fun t101 => (some (decide (t101 ≥ 0)))) = some r := h
 clear h
 replace H := Option.bind_eq_some_iff.mp H
 obtain ⟨t101, A30, H⟩ := H
 replace H : (some (decide (t101 ≥ 0))) = some r := H
 have A3 := zam A30
 clear A30
 obtain rfl := zsi H
 go_enter Try.func99, Try.ntmps99
 go_wp2_with (first | ((with_reducible refine zgc (f := 125) rfl ?_); refine goesL_ (some 7) rfl rfl Try.func125 (by kernel_rfl) rfl #[.slice A0 l0.length c0, .func (.func 109) #[] #[]] rfl (by (try simp only [zmt, List.map_cons, List.map_nil]); first | done | rfl | (simp only [zld, zlt]; rfl)) ?_; (with_reducible refine (slices_IndexFunc_Span_sound_checkTrack_1.calls k _ _ l0  t101 _ ?side1 ?side2 A3.out).mono ?_); (case side1 => repeat (first | exact HR0.out | (with_reducible refine Kd.C_alloc ?_ _) | (with_reducible refine Kd.C_drewN ?_ _) | (with_reducible refine Kd.C_drew ?_))); (case side2 => exact HC0.out); rintro e w4 ⟨rfl, hb⟩; refine ⟨_, rfl, ?_⟩; have n0_ := zam (zbt (by repeat (first | (with_reducible first | exact HB.out | apply zba | apply zbn | apply zb1) | exact HB.out)) hb); clear HB; have HB := n0_; clear n0_; (try clear hb); (try clear hb2); (try clear hk); (try clear hi)))
 go_ret
 exact ⟨by first | rfl | (simp [errW_none, errW_some] <;> rfl) | (simp [*, errW_none, errW_some] <;> rfl), by repeat (first | (with_reducible first | exact HB.out | apply zba | apply zbn | apply zb1) | exact HB.out)⟩
def sound_checkTrack.f (k : Nat) (l0 : List (S24)) : Option (Int) := if (l0.length : Int) > 256 then (some 6) else ((slices_ContainsFunc_Span_sound_checkTrack_1.f k l0).bind fun t101 => (if t101 = true then (some 2) else (some 0)))
theorem sound_checkTrack.mono : ∀ a0 k, LeO (sound_checkTrack.f k a0) (sound_checkTrack.f (k + 1) a0) := by
 intro a0 k
 unfold sound_checkTrack.f
 repeat' first
   | (with_reducible exact slices_ContainsFunc_Span_sound_checkTrack_1.mono _ _)
   | (with_reducible exact LeO.refl _)
   | (with_reducible exact LeO.none _)
   | (with_reducible refine LeO.ite ?_ ?_)
   | (with_reducible refine LeO.bind ?_ (fun _ => ?_))
   | exact slices_ContainsFunc_Span_sound_checkTrack_1.mono _ _
   | exact LeO.none _
   | refine LeO.ite ?_ ?_
   | refine LeO.bind ?_ (fun _ => ?_)
set_option maxHeartbeats 8000000 in
set_option maxRecDepth 100000 in
theorem sound_checkTrack.calls (k : Nat) (A0 : Option Addr) (c0 : Nat) (l0 : List (S24)) (r : Int) (w : World) (hr0 : Kd.C k24 w A0 l0.length l0) (hc0 : l0.length ≤ c0) (h : sound_checkTrack.f k l0 = some r) :
  Calls Try.prog 71 #[.slice A0 l0.length c0] w fun e w' => e = .returned (.int .i64 r) ∧ Below w.heap.size w w' := by
 have HR0 := zam hr0
 have HC0 := zam hc0
 clear hr0 hc0
 have HB := zam (Below.refl w.heap.size w)
 have H : (if (l0.length : Int) > 256 then (some 6) else ((slices_ContainsFunc_Span_sound_checkTrack_1.f k l0).bind fun t101 => (if t101 = true then (some 2) else (some 0)))) = some r := h
 clear h
 by_cases c2 : (l0.length : Int) > 256
 ·rw [if_pos c2] at H
  have c2b0 : decide (256 < (l0.length : Int)) = true := zdt c2
  have c2b1 : decide (256 < l0.length) = true := zdt (by omega)
  clear c2
  obtain rfl := zsi H
  go_enter Try.func71, Try.ntmps71
  go_wp2
  go_ret
  exact ⟨by first | rfl | (simp [errW_none, errW_some] <;> rfl) | (simp [*, errW_none, errW_some] <;> rfl), by repeat (first | (with_reducible first | exact HB.out | apply zba | apply zbn | apply zb1) | exact HB.out)⟩
 rw [if_neg c2] at H
 have c2b0 : decide (256 < (l0.length : Int)) = false := zdf c2
 have c2b1 : decide (256 < l0.length) = false := zdf (by omega)
 clear c2
 replace H := Option.bind_eq_some_iff.mp H
 obtain ⟨t101, A30, H⟩ := H
 replace H : (if t101 = true then (some 2) else (some 0)) = some r := H
 have A3 := zam A30
 clear A30
 by_cases c4 : t101 = true
 ·subst c4
  have H1 : (some 2) = some r := by rw [if_pos rfl] at H; exact H
  clear H
  have H := H1
  clear H1
  obtain rfl := zsi H
  go_enter Try.func71, Try.ntmps71
  go_wp2_with (first | ((with_reducible refine zgc (f := 99) rfl ?_); refine goesL_ (some 7) rfl rfl Try.func99 (by kernel_rfl) rfl #[.slice A0 l0.length c0, .func (.func 109) #[] #[]] rfl (by (try simp only [zmt, List.map_cons, List.map_nil]); first | done | rfl | (simp only [zld, zlt]; rfl)) ?_; (with_reducible refine (slices_ContainsFunc_Span_sound_checkTrack_1.calls k _ _ l0  true _ ?side1 ?side2 A3.out).mono ?_); (case side1 => repeat (first | exact HR0.out | (with_reducible refine Kd.C_alloc ?_ _) | (with_reducible refine Kd.C_drewN ?_ _) | (with_reducible refine Kd.C_drew ?_))); (case side2 => exact HC0.out); rintro e w5 ⟨rfl, hb⟩; refine ⟨_, rfl, ?_⟩; have n0_ := zam (zbt (by repeat (first | (with_reducible first | exact HB.out | apply zba | apply zbn | apply zb1) | exact HB.out)) hb); clear HB; have HB := n0_; clear n0_; (try clear hb); (try clear hb2); (try clear hk); (try clear hi)))
  go_ret
  exact ⟨by first | rfl | (simp [errW_none, errW_some] <;> rfl) | (simp [*, errW_none, errW_some] <;> rfl), by repeat (first | (with_reducible first | exact HB.out | apply zba | apply zbn | apply zb1) | exact HB.out)⟩
 replace c4 := Bool.eq_false_iff.mpr c4
 subst c4
 have H1 : (some 0) = some r := by rw [if_neg (show ¬ (false = true) by decide)] at H; exact H
 clear H
 have H := H1
 clear H1
 obtain rfl := zsi H
 go_enter Try.func71, Try.ntmps71
 go_wp2_with (first | ((with_reducible refine zgc (f := 99) rfl ?_); refine goesL_ (some 7) rfl rfl Try.func99 (by kernel_rfl) rfl #[.slice A0 l0.length c0, .func (.func 109) #[] #[]] rfl (by (try simp only [zmt, List.map_cons, List.map_nil]); first | done | rfl | (simp only [zld, zlt]; rfl)) ?_; (with_reducible refine (slices_ContainsFunc_Span_sound_checkTrack_1.calls k _ _ l0  false _ ?side1 ?side2 A3.out).mono ?_); (case side1 => repeat (first | exact HR0.out | (with_reducible refine Kd.C_alloc ?_ _) | (with_reducible refine Kd.C_drewN ?_ _) | (with_reducible refine Kd.C_drew ?_))); (case side2 => exact HC0.out); rintro e w6 ⟨rfl, hb⟩; refine ⟨_, rfl, ?_⟩; have n0_ := zam (zbt (by repeat (first | (with_reducible first | exact HB.out | apply zba | apply zbn | apply zb1) | exact HB.out)) hb); clear HB; have HB := n0_; clear n0_; (try clear hb); (try clear hb2); (try clear hk); (try clear hi)))
 go_ret
 exact ⟨by first | rfl | (simp [errW_none, errW_some] <;> rfl) | (simp [*, errW_none, errW_some] <;> rfl), by repeat (first | (with_reducible first | exact HB.out | apply zba | apply zbn | apply zb1) | exact HB.out)⟩
def sound_checkGauges_3.f (k : Nat) (l0_0 : List (S24)) : Option (Bool) := (sound_checkTrack.f k l0_0).bind fun t102 => (some (t102 != 0))
theorem sound_checkGauges_3.mono : ∀ a0 k, LeO (sound_checkGauges_3.f k a0) (sound_checkGauges_3.f (k + 1) a0) := by
 intro a0 k
 unfold sound_checkGauges_3.f
 repeat' first
   | (with_reducible exact sound_checkTrack.mono _ _)
   | (with_reducible exact LeO.refl _)
   | (with_reducible exact LeO.none _)
   | (with_reducible refine LeO.ite ?_ ?_)
   | (with_reducible refine LeO.bind ?_ (fun _ => ?_))
   | exact sound_checkTrack.mono _ _
   | exact LeO.none _
   | refine LeO.ite ?_ ?_
   | refine LeO.bind ?_ (fun _ => ?_)
set_option maxHeartbeats 8000000 in
set_option maxRecDepth 100000 in
theorem sound_checkGauges_3.calls (k : Nat) (A0_0 : Option Addr) (c0_0 : Nat) (l0_0 : List (S24)) (r : Bool) (w : World) (hr0_0 : Kd.C k24 w A0_0 l0_0.length l0_0) (hc0_0 : l0_0.length ≤ c0_0) (h : sound_checkGauges_3.f k l0_0 = some r) :
  Calls Try.prog 105 #[.agg #[.slice A0_0 l0_0.length c0_0]] w fun e w' => e = .returned (.bool r) ∧ Below w.heap.size w w' := by
 have hu45 := Try.underlying45
 have HR0_0 := zam hr0_0
 have HC0_0 := zam hc0_0
 clear hr0_0 hc0_0
 have HB := zam (Below.refl w.heap.size w)
 have H : ((sound_checkTrack.f k l0_0).bind fun t102 => (some (t102 != 0))) = some r := h
 clear h
 replace H := Option.bind_eq_some_iff.mp H
 obtain ⟨t102, A20, H⟩ := H
 replace H : (some (t102 != 0)) = some r := H
 have A2 := zam A20
 clear A20
 obtain rfl := zsi H
 go_enter Try.func105, Try.ntmps105
 go_wp2_with (first | ((with_reducible refine zgd (N := 1) rfl ?_); refine box_event ?hg (N := 1) ?hd (cs := #[.slice A0_0 l0_0.length c0_0]) (t := 45) ?hr ?_; (case hd => rfl); (case hg => rfl); (case hr => first | (go_simp; done) | (go_simp; rfl)); intro gb101 hg w3 hbox hb; have n0_ := zam (zbt (by repeat (first | (with_reducible first | exact HB.out | apply zba | apply zbn | apply zb1) | exact HB.out)) hb); have n1_ := zam (hbox); have n2_ := zam ((by rw [hg]; exact (zbz (by repeat (first | (with_reducible first | exact HB.out | apply zba | apply zbn | apply zb1) | exact HB.out))) : w.heap.size ≤ gb101)); have n3_ := zam ((by rw [hg]; exact (zbz (by repeat (first | (with_reducible first | exact HB.out | apply zba | apply zbn | apply zb1) | exact HB.out))) : w.heap.size ≤ gb101)); clear HB; have HB := n0_; have BK101 := n1_; have GW101 := n2_; have GE101 := n3_; clear n0_ n1_ n2_ n3_; clear hb hbox hg; have hcz4_0 : w3.cell? ⟨gb101, 0, none⟩ = some (.slice A0_0 l0_0.length c0_0) := (zkc BK101.out 0).trans rfl; have hfz4_0 := zkz BK101.out 0) | ((with_reducible refine zgc (f := 71) rfl ?_); refine goesL_ (some 5) rfl rfl Try.func71 (by kernel_rfl) rfl #[.slice A0_0 l0_0.length c0_0] rfl (by (try simp only [zmt, List.map_cons, List.map_nil]); first | done | rfl | (simp only [zld, zlt]; rfl)) ?_; (with_reducible refine (sound_checkTrack.calls k _ _ l0_0 t102 _ ?side1 ?side2 A2.out).mono ?_); (case side1 => repeat (first | exact (Kd.C_below HR0_0.out HB.out) | (with_reducible refine Kd.C_alloc ?_ _) | (with_reducible refine Kd.C_drewN ?_ _) | (with_reducible refine Kd.C_drew ?_))); (case side2 => exact HC0_0.out); rintro e w5 ⟨rfl, hb⟩; refine ⟨_, rfl, ?_⟩; have n0_ := zam (zkb (g := gb101) (o := .cells #[.slice A0_0 l0_0.length c0_0] 45 (0, 0)) (by (with_reducible repeat (first | refine zkn ?_ _ | refine zkd ?_ | refine zka ?_ _)); exact BK101.out) hb); have n1_ := zam (zbt (by repeat (first | (with_reducible first | exact HB.out | apply zba | apply zbn | apply zb1 | refine zbs ?_ GE101.out) | exact HB.out)) hb); clear BK101; clear HB; have BK101 := n0_; have HB := n1_; clear n0_ n1_; (try clear hb); (try clear hb2); (try clear hk); (try clear hi)))
 go_ret
 exact ⟨by first | rfl | (simp [errW_none, errW_some] <;> rfl) | (simp [*, errW_none, errW_some] <;> rfl), by repeat (first | (with_reducible first | exact HB.out | apply zba | apply zbn | apply zb1 | refine zbs ?_ GE101.out) | exact HB.out)⟩
def slices_IndexFunc_Gauge_sound_checkGauges_3.l0 : Nat → List (S45) → Int → Int → Option (Int)
 | 0, _, _, _ => none
 | k + 1, x0, x7, x8 => if x8 < x7 then (if 0 ≤ x8 then (if x8 < (x0.length : Int) then ((sound_checkGauges_3.f k ((rd_T45 x0 x8).f0)).bind fun t102 => (if t102 = true then (some x8) else (slices_IndexFunc_Gauge_sound_checkGauges_3.l0 k x0 x7 (wrap64 (x8 + 1))))) else (none)) else (none)) else (some (-1))
def slices_IndexFunc_Gauge_sound_checkGauges_3.f (k : Nat) (l0 : List (S45))  : Option (Int) := slices_IndexFunc_Gauge_sound_checkGauges_3.l0 k l0 (l0.length : Int) 0
theorem slices_IndexFunc_Gauge_sound_checkGauges_3.mono_l : ∀ k, (∀ y0 y1 y2, LeO (slices_IndexFunc_Gauge_sound_checkGauges_3.l0 k y0 y1 y2) (slices_IndexFunc_Gauge_sound_checkGauges_3.l0 (k + 1) y0 y1 y2))
 | 0 => fun _ _ _ r h => by simp [slices_IndexFunc_Gauge_sound_checkGauges_3.l0] at h
 | k + 1 => by
  have ih0 := slices_IndexFunc_Gauge_sound_checkGauges_3.mono_l k
  intro y0 y1 y2
  unfold slices_IndexFunc_Gauge_sound_checkGauges_3.l0
  repeat' first
  | (with_reducible exact ih0 _ _ _)
  | (with_reducible exact sound_checkGauges_3.mono _ _)
  | (with_reducible exact LeO.refl _)
  | (with_reducible exact LeO.none _)
  | (with_reducible refine LeO.ite ?_ ?_)
  | (with_reducible refine LeO.bind ?_ (fun _ => ?_))
  | exact ih0 _ _ _
  | exact sound_checkGauges_3.mono _ _
  | exact LeO.none _
  | refine LeO.ite ?_ ?_
  | refine LeO.bind ?_ (fun _ => ?_)
theorem slices_IndexFunc_Gauge_sound_checkGauges_3.mono : ∀ a0 k, LeO (slices_IndexFunc_Gauge_sound_checkGauges_3.f k a0) (slices_IndexFunc_Gauge_sound_checkGauges_3.f (k + 1) a0) := by
 intro a0 k
 have ih0 := slices_IndexFunc_Gauge_sound_checkGauges_3.mono_l k
 unfold slices_IndexFunc_Gauge_sound_checkGauges_3.f
 repeat' first
   | (with_reducible exact ih0 _ _ _)
   | (with_reducible exact sound_checkGauges_3.mono _ _)
   | (with_reducible exact LeO.refl _)
   | (with_reducible exact LeO.none _)
   | (with_reducible refine LeO.ite ?_ ?_)
   | (with_reducible refine LeO.bind ?_ (fun _ => ?_))
   | exact ih0 _ _ _
   | exact sound_checkGauges_3.mono _ _
   | exact LeO.none _
   | refine LeO.ite ?_ ?_
   | refine LeO.bind ?_ (fun _ => ?_)
set_option maxHeartbeats 8000000 in
set_option maxRecDepth 100000 in
theorem slices_IndexFunc_Gauge_sound_checkGauges_3.calls (k : Nat) (A0 : Option Addr) (c0 : Nat) (l0 : List (S45))  (r : Int) (w : World) (hr0 : Kd.C k45 w A0 l0.length l0) (hc0 : l0.length ≤ c0) (h : slices_IndexFunc_Gauge_sound_checkGauges_3.f k l0 = some r) :
  Calls Try.prog 128 #[.slice A0 l0.length c0, .func (.func 105) #[] #[]] w fun e w' => e = .returned (.int .i64 r) ∧ Below w.heap.size w w' := by
 have hu45 := Try.underlying45
 have HR0 := zam hr0
 have HC0 := zam hc0
 clear hr0 hc0
 have HB := zam (Below.refl w.heap.size w)
 have H : (slices_IndexFunc_Gauge_sound_checkGauges_3.l0 k l0 (l0.length : Int) 0) = some r := h
 clear h
 have H' := zam H
 clear H
 go_enter Try.func128, Try.ntmps128
 go_wp2
 go_loopg [8] k (fun kq v8 w' => ∃ (x8_1 : Int), v8 = .int .i64 x8_1 ∧ Aside0 (slices_IndexFunc_Gauge_sound_checkGauges_3.l0 kq l0 (l0.length : Int) x8_1 = some r) ∧ Aside0 (kq ≤ k) ∧ Aside0 (Below w.heap.size w w'))
 case atStart => exact ⟨(0), (by first | rfl | (simp; done) | (simp [*]; done)), H', ⟨Nat.le_refl _⟩, ⟨by repeat (first | (with_reducible first | exact HB.out | apply zba | apply zbn | apply zb1) | exact HB.out)⟩⟩
 case round =>
  clear H'
  try clear p2
  obtain ⟨x8_1, rfl, HA, HK1, HB⟩ := hrel
  cases gk with
  | zero => exact absurd HA.out (by simp [slices_IndexFunc_Gauge_sound_checkGauges_3.l0])
  | succ k1 =>
   have H := HA.out
   clear HA
   simp only [slices_IndexFunc_Gauge_sound_checkGauges_3.l0] at H
   by_cases c3 : x8_1 < (l0.length : Int)
   ·rw [if_pos c3] at H
    have c3b0 : decide (x8_1 < (l0.length : Int)) = true := zdt c3
    clear c3
    by_cases c4 : 0 ≤ x8_1
    ·rw [if_pos c4] at H
     have c4b0 : decide (0 ≤ x8_1) = true := zdt c4
     clear c4
     by_cases c5 : x8_1 < (l0.length : Int)
     ·rw [if_pos c5] at H
      have c5b0 : decide (x8_1 < (l0.length : Int)) = true := zdt c5
      clear c5
      replace H := Option.bind_eq_some_iff.mp H
      obtain ⟨t102, A60, H⟩ := H
      replace H : (if t102 = true then (some x8_1) else (slices_IndexFunc_Gauge_sound_checkGauges_3.l0 k1 l0 (l0.length : Int) (wrap64 (x8_1 + 1)))) = some r := H
      have A6 := zam A60
      clear A60
      by_cases c7 : t102 = true
      ·subst c7
       have H1 : (some x8_1) = some r := by rw [if_pos rfl] at H; exact H
       clear H
       have H := H1
       clear H1
       obtain rfl := zsi H
       have p101 : 0 ≤ (x8_1 : Int) := zod (by first | (with_reducible assumption) | assumption)
       have q101 : x8_1 < (l0.length : Int) := zod (by first | (with_reducible assumption) | assumption)
       obtain ⟨ad101, A101_0, c101_0, e101, hx101_0, hl101_0, hi101_0⟩ := at_T45 HR0.out x8_1 p101 q101
       cases e101
       replace hx101_0 := (HB.out.cell (zwb w _ hx101_0)).trans hx101_0
       have HR101_0 := zam hi101_0
       have HC101_0 := zam hl101_0
       clear hi101_0 hl101_0
       replace p101 := eq_true p101
       replace q101 := eq_true q101
       go_wp2_with (first | (go_at_call 105; (with_reducible refine (sound_checkGauges_3.calls k1 _ _ ((rd_T45 l0 x8_1).f0) true _ ?side1 ?side2 A6.out).mono ?_); (case side1 => repeat (first | exact (Kd.C_below HR101_0.out HB.out) | (with_reducible refine Kd.C_alloc ?_ _) | (with_reducible refine Kd.C_drewN ?_ _) | (with_reducible refine Kd.C_drew ?_))); (case side2 => exact HC101_0.out); rintro e w8 ⟨rfl, hb⟩; have n0_ := zam (zbt (by repeat (first | (with_reducible first | exact HB.out | apply zba | apply zbn | apply zb1) | exact HB.out)) hb); clear HB; have HB := n0_; clear n0_; (try clear hb); (try clear hb2); (try clear hk); (try clear hi)))
       go_ret
       exact ⟨by first | rfl | (simp [errW_none, errW_some] <;> rfl) | (simp [*, errW_none, errW_some] <;> rfl), by repeat (first | (with_reducible first | exact HB.out | apply zba | apply zbn | apply zb1) | exact HB.out)⟩
      replace c7 := Bool.eq_false_iff.mpr c7
      subst c7
      have H1 : (slices_IndexFunc_Gauge_sound_checkGauges_3.l0 k1 l0 (l0.length : Int) (wrap64 (x8_1 + 1))) = some r := by rw [if_neg (show ¬ (false = true) by decide)] at H; exact H
      clear H
      have H := H1
      clear H1
      have H' := zam H
      clear H
      have p101 : 0 ≤ (x8_1 : Int) := zod (by first | (with_reducible assumption) | assumption)
      have q101 : x8_1 < (l0.length : Int) := zod (by first | (with_reducible assumption) | assumption)
      obtain ⟨ad101, A101_0, c101_0, e101, hx101_0, hl101_0, hi101_0⟩ := at_T45 HR0.out x8_1 p101 q101
      cases e101
      replace hx101_0 := (HB.out.cell (zwb w _ hx101_0)).trans hx101_0
      have HR101_0 := zam hi101_0
      have HC101_0 := zam hl101_0
      clear hi101_0 hl101_0
      replace p101 := eq_true p101
      replace q101 := eq_true q101
      go_wp2_with (first | (go_at_call 105; (with_reducible refine (sound_checkGauges_3.calls k1 _ _ ((rd_T45 l0 x8_1).f0) false _ ?side1 ?side2 A6.out).mono ?_); (case side1 => repeat (first | exact (Kd.C_below HR101_0.out HB.out) | (with_reducible refine Kd.C_alloc ?_ _) | (with_reducible refine Kd.C_drewN ?_ _) | (with_reducible refine Kd.C_drew ?_))); (case side2 => exact HC101_0.out); rintro e w9 ⟨rfl, hb⟩; have n0_ := zam (zbt (by repeat (first | (with_reducible first | exact HB.out | apply zba | apply zbn | apply zb1) | exact HB.out)) hb); clear HB; have HB := n0_; clear n0_; (try clear hb); (try clear hb2); (try clear hk); (try clear hi)))
      go_roundg k1
      case measure => have := HK1.out; omega
      case rel => exact ⟨(wrap64 (x8_1 + 1)), (by first | rfl | (simp; done) | (simp [*]; done)), H', ⟨by have := HK1.out; omega⟩, ⟨by repeat (first | (with_reducible first | exact HB.out | apply zba | apply zbn | apply zb1) | exact HB.out)⟩⟩
     rw [if_neg c5] at H
     exact absurd H (by simp)
    rw [if_neg c4] at H
    exact absurd H (by simp)
   rw [if_neg c3] at H
   have c3b0 : decide (x8_1 < (l0.length : Int)) = false := zdf c3
   clear c3
   obtain rfl := zsi H
   go_wp2
   go_ret
   exact ⟨by first | rfl | (simp [errW_none, errW_some] <;> rfl) | (simp [*, errW_none, errW_some] <;> rfl), by repeat (first | (with_reducible first | exact HB.out | apply zba | apply zbn | apply zb1) | exact HB.out)⟩
def slices_ContainsFunc_Gauge_sound_checkGauges_3.f (k : Nat) (l0 : List (S45))  : Option (Bool) := (slices_IndexFunc_Gauge_sound_checkGauges_3.f k l0).bind fun t101 => (some (decide (t101 ≥ 0)))
theorem slices_ContainsFunc_Gauge_sound_checkGauges_3.mono : ∀ a0 k, LeO (slices_ContainsFunc_Gauge_sound_checkGauges_3.f k a0) (slices_ContainsFunc_Gauge_sound_checkGauges_3.f (k + 1) a0) := by
 intro a0 k
 unfold slices_ContainsFunc_Gauge_sound_checkGauges_3.f
 repeat' first
   | (with_reducible exact slices_IndexFunc_Gauge_sound_checkGauges_3.mono _ _)
   | (with_reducible exact LeO.refl _)
   | (with_reducible exact LeO.none _)
   | (with_reducible refine LeO.ite ?_ ?_)
   | (with_reducible refine LeO.bind ?_ (fun _ => ?_))
   | exact slices_IndexFunc_Gauge_sound_checkGauges_3.mono _ _
   | exact LeO.none _
   | refine LeO.ite ?_ ?_
   | refine LeO.bind ?_ (fun _ => ?_)
set_option maxHeartbeats 8000000 in
set_option maxRecDepth 100000 in
theorem slices_ContainsFunc_Gauge_sound_checkGauges_3.calls (k : Nat) (A0 : Option Addr) (c0 : Nat) (l0 : List (S45))  (r : Bool) (w : World) (hr0 : Kd.C k45 w A0 l0.length l0) (hc0 : l0.length ≤ c0) (h : slices_ContainsFunc_Gauge_sound_checkGauges_3.f k l0 = some r) :
  Calls Try.prog 102 #[.slice A0 l0.length c0, .func (.func 105) #[] #[]] w fun e w' => e = .returned (.bool r) ∧ Below w.heap.size w w' := by
 have HR0 := zam hr0
 have HC0 := zam hc0
 clear hr0 hc0
 have HB := zam (Below.refl w.heap.size w)
 have H : ((slices_IndexFunc_Gauge_sound_checkGauges_3.f k l0).bind fun t101 => (some (decide (t101 ≥ 0)))) = some r := h
 clear h
 replace H := Option.bind_eq_some_iff.mp H
 obtain ⟨t101, A30, H⟩ := H
 replace H : (some (decide (t101 ≥ 0))) = some r := H
 have A3 := zam A30
 clear A30
 obtain rfl := zsi H
 go_enter Try.func102, Try.ntmps102
 go_wp2_with (first | ((with_reducible refine zgc (f := 128) rfl ?_); refine goesL_ (some 7) rfl rfl Try.func128 (by kernel_rfl) rfl #[.slice A0 l0.length c0, .func (.func 105) #[] #[]] rfl (by (try simp only [zmt, List.map_cons, List.map_nil]); first | done | rfl | (simp only [zld, zlt]; rfl)) ?_; (with_reducible refine (slices_IndexFunc_Gauge_sound_checkGauges_3.calls k _ _ l0  t101 _ ?side1 ?side2 A3.out).mono ?_); (case side1 => repeat (first | exact HR0.out | (with_reducible refine Kd.C_alloc ?_ _) | (with_reducible refine Kd.C_drewN ?_ _) | (with_reducible refine Kd.C_drew ?_))); (case side2 => exact HC0.out); rintro e w4 ⟨rfl, hb⟩; refine ⟨_, rfl, ?_⟩; have n0_ := zam (zbt (by repeat (first | (with_reducible first | exact HB.out | apply zba | apply zbn | apply zb1) | exact HB.out)) hb); clear HB; have HB := n0_; clear n0_; (try clear hb); (try clear hb2); (try clear hk); (try clear hi)))
 go_ret
 exact ⟨by first | rfl | (simp [errW_none, errW_some] <;> rfl) | (simp [*, errW_none, errW_some] <;> rfl), by repeat (first | (with_reducible first | exact HB.out | apply zba | apply zbn | apply zb1) | exact HB.out)⟩
def sound_between.f (a0 : Int) (a1 : Int) (a2 : Int) : Option (Bool) := if a0 ≥ a1 then (some (decide (a0 ≤ a2))) else (some false)
set_option maxHeartbeats 8000000 in
set_option maxRecDepth 100000 in
theorem sound_between.calls (a0 : Int) (a1 : Int) (a2 : Int) (r : Bool) (w : World) (h : sound_between.f a0 a1 a2 = some r) :
  Calls Try.prog 72 #[.int .i64 a0, .int .i64 a1, .int .i64 a2] w fun e w' => e = .returned (.bool r) ∧ Drawn0 w w' := by
 have H : (if a0 ≥ a1 then (some (decide (a0 ≤ a2))) else (some false)) = some r := h
 clear h
 by_cases c4 : a0 ≥ a1
 ·rw [if_pos c4] at H
  have c4b0 : decide (a1 ≤ a0) = true := zdt c4
  clear c4
  obtain rfl := zsi H
  go_enter Try.func72, Try.ntmps72
  go_wp2
  go_ret
  exact ⟨by first | rfl | (simp; done) | (simp [*]; done), by repeat (first | exact Drawn0.refl _ | apply Drawn0.step)⟩
 rw [if_neg c4] at H
 have c4b0 : decide (a1 ≤ a0) = false := zdf c4
 clear c4
 obtain rfl := zsi H
 go_enter Try.func72, Try.ntmps72
 go_wp2
 go_ret
 exact ⟨by first | rfl | (simp; done) | (simp [*]; done), by repeat (first | exact Drawn0.refl _ | apply Drawn0.step)⟩
end Go.Proofs.Ytaheamdoldiojaa.P
