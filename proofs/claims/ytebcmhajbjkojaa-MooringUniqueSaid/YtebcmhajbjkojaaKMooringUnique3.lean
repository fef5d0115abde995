/- MooringUnique returns true for every input and leaves it as it was: no condition beyond the row's own. Part 4 of 4. -/
import Derived.KernelRfl
import Derived.Test.YtebcmhajbjkojaaKMooringUnique0
import Derived.Test.YtebcmhajbjkojaaKMooringUnique2
namespace Go.Proofs.Ytebcmhajbjkojaa.P
open Go.RowKit Go.Proofs.YtebcmhajbjkojaaW.PrintWords Go.Proofs.YtebcmhajbjkojaaW.PrintLast Go.Proofs.YtebcmhajbjkojaaW.PrintMore
attribute [local go_sem] max2_int min2_int max_two min_two max_three min_three max_four min_four   -- for this text's walks alone
set_option linter.unusedVariables false
set_option linter.unusedSimpArgs false

/-! ### isobathref02_codes: function 54 -/
def isobathref02_codes.l0 : Nat → List Int → Int → Option (Int)
  | 0, _, _ => none
  | k + 1, x0, x3 => if x3 < (x0.length : Int) then (if 0 ≤ x3 then ((isobathref02_code.f (rd x0 x3)).bind fun t102 => (if t102 = true then (isobathref02_codes.l0 k x0 (wrap64 (x3 + 1))) else (some 2))) else (none)) else (some 0)
def isobathref02_codes.f (k : Nat) (l0 : List Int) : Option (Int) := if (l0.length : Int) > 64 then (some 6) else (isobathref02_codes.l0 k l0 0)
theorem isobathref02_codes.mono_l : ∀ k, (∀ y0 y1, LeO (isobathref02_codes.l0 k y0 y1) (isobathref02_codes.l0 (k + 1) y0 y1))
  | 0 => fun _ _ r h => by simp [isobathref02_codes.l0] at h
  | k + 1 => by
    have ih0 := isobathref02_codes.mono_l k
    · intro y0 y1
      unfold isobathref02_codes.l0
      repeat' first
      | (with_reducible exact ih0 _ _)
      | (with_reducible exact LeO.refl _)
      | (with_reducible exact LeO.none _)
      | (with_reducible refine LeO.ite ?_ ?_)
      | (with_reducible refine LeO.bind ?_ (fun _ => ?_))
      | exact ih0 _ _
      | exact LeO.none _
      | refine LeO.ite ?_ ?_
      | refine LeO.bind ?_ (fun _ => ?_)
theorem isobathref02_codes.mono : ∀ a0 k, LeO (isobathref02_codes.f k a0) (isobathref02_codes.f (k + 1) a0) := by
  intro a0 k
  have ih0 := isobathref02_codes.mono_l k
  unfold isobathref02_codes.f
  repeat' first
      | (with_reducible exact ih0 _ _)
      | (with_reducible exact LeO.refl _)
      | (with_reducible exact LeO.none _)
      | (with_reducible refine LeO.ite ?_ ?_)
      | (with_reducible refine LeO.bind ?_ (fun _ => ?_))
      | exact ih0 _ _
      | exact LeO.none _
      | refine LeO.ite ?_ ?_
      | refine LeO.bind ?_ (fun _ => ?_)
set_option maxHeartbeats 8000000 in
set_option maxRecDepth 100000 in
theorem isobathref02_codes.calls (k : Nat) (A0 : Option Addr) (c0 : Nat) (l0 : List Int) (r : Int) (w : World) (hr0 : Kd.C (Kd.int .i64) w A0 l0.length l0) (hc0 : l0.length ≤ c0) (h : isobathref02_codes.f k l0 = some r) :
    Calls Try.prog 54 #[.slice A0 l0.length c0] w fun e w' => e = .returned (.int .i64 r) ∧ Drawn0 w w' := by
  have HR0 := Aside0.mk hr0
  have HC0 := Aside0.mk hc0
  clear hr0 hc0
  have H : (if (l0.length : Int) > 64 then (some 6) else (isobathref02_codes.l0 k l0 0)) = some r := h
  clear h
  by_cases c2 : (l0.length : Int) > 64
  · rw [if_pos c2] at H
    have c2b0 : decide (64 < (l0.length : Int)) = true := decide_eq_true c2
    have c2b1 : decide (64 < l0.length) = true := decide_eq_true (by omega)
    clear c2
    obtain rfl := Option.some.inj H
    go_enter Try.func54, Try.ntmps54
    go_wp2
    go_ret
    exact ⟨by first | rfl | (simp; done) | (simp [*]; done), by repeat (first | exact Drawn0.refl _ | apply Drawn0.step)⟩
  · rw [if_neg c2] at H
    have c2b0 : decide (64 < (l0.length : Int)) = false := decide_eq_false c2
    have c2b1 : decide (64 < l0.length) = false := decide_eq_false (by omega)
    clear c2
    have H' := Aside0.mk H
    clear H
    go_enter Try.func54, Try.ntmps54
    go_wp2
    go_loopg [3] k (fun kq v3 w' => ∃ (x3_1 : Int), v3 = .int .i64 x3_1 ∧ Aside0 (isobathref02_codes.l0 kq l0 x3_1 = some r) ∧ Aside0 (kq ≤ k) ∧ Drawn0 w w')
    case atStart => exact ⟨(0), (by first | rfl | (simp; done) | (simp [*]; done)), H', ⟨Nat.le_refl _⟩, by repeat (first | exact Drawn0.refl _ | apply Drawn0.step)⟩
    case round =>
      clear H'
      try clear c2
      try clear c2b0
      try clear c2b1
      try clear p2
      obtain ⟨x3_1, rfl, HA, HK1, ⟨m1, rfl⟩⟩ := hrel
      cases gk with
      | zero => exact absurd HA.out (by simp [isobathref02_codes.l0])
      | succ k1 =>
        have H := HA.out
        clear HA
        simp only [isobathref02_codes.l0] at H
        by_cases c3 : x3_1 < (l0.length : Int)
        · rw [if_pos c3] at H
          have c3b0 : decide (x3_1 < (l0.length : Int)) = true := decide_eq_true c3
          clear c3
          by_cases c4 : 0 ≤ x3_1
          · rw [if_pos c4] at H
            have c4b0 : decide (0 ≤ x3_1) = true := decide_eq_true c4
            clear c4
            replace H := Option.bind_eq_some_iff.mp H
            obtain ⟨t102, A50, H⟩ := H
            replace H : (if t102 = true then (isobathref02_codes.l0 k1 l0 (wrap64 (x3_1 + 1))) else (some 2)) = some r := H
            have A5 := Aside0.mk A50
            clear A50
            by_cases c6 : t102 = true
            · subst c6
              have H1 : (isobathref02_codes.l0 k1 l0 (wrap64 (x3_1 + 1))) = some r := by rw [if_pos rfl] at H; exact H
              clear H
              have H := H1
              clear H1
              have H' := Aside0.mk H
              clear H
              have p101 : 0 ≤ (x3_1 : Int) := of_decide_eq_true (by first | (with_reducible assumption) | assumption)
              have q101 : x3_1 < (l0.length : Int) := of_decide_eq_true (by first | (with_reducible assumption) | assumption)
              obtain ⟨ad101, e101, hx101_0⟩ := Kd.at_int HR0.out x3_1 p101 q101
              cases e101
              replace p101 := eq_true p101
              replace q101 := eq_true q101
              go_wp2_with (first | ((with_reducible refine gate_callee (f := 56) rfl ?_); refine goesL_ (some 17) rfl rfl Try.func56 (by kernel_rfl) rfl #[.int .i64 (rd l0 x3_1)] rfl (by (try simp only [List.map_toArray, List.map_cons, List.map_nil]); first | done | rfl | (simp only [List.length_drop, List.length_take]; rfl)) ?_; (with_reducible refine (isobathref02_code.calls (rd l0 x3_1) true _ A5.out).mono ?_); rintro e w' ⟨rfl, ⟨nd, rfl⟩⟩; refine ⟨_, rfl, ?_⟩))
              go_roundg k1
              case measure => have := HK1.out; omega
              case rel => exact ⟨(wrap64 (x3_1 + 1)), (by first | rfl | (simp; done) | (simp [*]; done)), H', ⟨by have := HK1.out; omega⟩, by repeat (first | exact Drawn0.refl _ | apply Drawn0.step)⟩
            · replace c6 := Bool.eq_false_iff.mpr c6
              subst c6
              have H1 : (some 2) = some r := by rw [if_neg (show ¬ (false = true) by decide)] at H; exact H
              clear H
              have H := H1
              clear H1
              obtain rfl := Option.some.inj H
              have p101 : 0 ≤ (x3_1 : Int) := of_decide_eq_true (by first | (with_reducible assumption) | assumption)
              have q101 : x3_1 < (l0.length : Int) := of_decide_eq_true (by first | (with_reducible assumption) | assumption)
              obtain ⟨ad101, e101, hx101_0⟩ := Kd.at_int HR0.out x3_1 p101 q101
              cases e101
              replace p101 := eq_true p101
              replace q101 := eq_true q101
              go_wp2_with (first | ((with_reducible refine gate_callee (f := 56) rfl ?_); refine goesL_ (some 17) rfl rfl Try.func56 (by kernel_rfl) rfl #[.int .i64 (rd l0 x3_1)] rfl (by (try simp only [List.map_toArray, List.map_cons, List.map_nil]); first | done | rfl | (simp only [List.length_drop, List.length_take]; rfl)) ?_; (with_reducible refine (isobathref02_code.calls (rd l0 x3_1) false _ A5.out).mono ?_); rintro e w' ⟨rfl, ⟨nd, rfl⟩⟩; refine ⟨_, rfl, ?_⟩))
              go_ret
              exact ⟨by first | rfl | (simp; done) | (simp [*]; done), by repeat (first | exact Drawn0.refl _ | apply Drawn0.step)⟩
          · rw [if_neg c4] at H
            exact absurd H (by simp)
        · rw [if_neg c3] at H
          have c3b0 : decide (x3_1 < (l0.length : Int)) = false := decide_eq_false c3
          clear c3
          obtain rfl := Option.some.inj H
          go_wp2
          go_ret
          exact ⟨by first | rfl | (simp; done) | (simp [*]; done), by repeat (first | exact Drawn0.refl _ | apply Drawn0.step)⟩

end Go.Proofs.Ytebcmhajbjkojaa.P

namespace Go.Proofs.Ytebcmhajbjkojaa.P
open Go.RowKit Go.Proofs.YtebcmhajbjkojaaW.PrintWords Go.Proofs.YtebcmhajbjkojaaW.PrintLast Go.Proofs.YtebcmhajbjkojaaW.PrintMore
attribute [local go_sem] max2_int min2_int max_two min_two max_three min_three max_four min_four   -- for this text's walks alone
set_option linter.unusedVariables false
set_option linter.unusedSimpArgs false

/-! ### isobathref02_Answers: function 18 -/
mutual
def isobathref02_Answers.j0 : Nat → List Int → Int → Int → Bool → Option (List Int × Int)
  | 0, _, _, _, _ => none
  | k + 1, x0, x1, x2, x26 => if x26 = true then (some (([] : List Int), 3)) else (isobathref02_Answers.l0 k x0 x1 x2 ([] : List Int) 0)
def isobathref02_Answers.l0 : Nat → List Int → Int → Int → List Int → Int → Option (List Int × Int)
  | 0, _, _, _, _, _ => none
  | k + 1, x0, x1, x2, x9, x10 => if x10 < (x0.length : Int) then (if 0 ≤ x10 then ((isobathref02_Apart.f k (rd x0 x10) x1).bind fun t104 => (if t104 ≤ x2 then (if x9.length < 17592186044416 then (isobathref02_Answers.l0 k x0 x1 x2 (x9 ++ [x10]) (wrap64 (x10 + 1))) else (none)) else (isobathref02_Answers.l0 k x0 x1 x2 x9 (wrap64 (x10 + 1))))) else (none)) else (some (x9, 0))
end
def isobathref02_Answers.f (k : Nat) (l0 : List Int) (a1 : Int) (a2 : Int) : Option (List Int × Int) := (isobathref02_codes.f k l0).bind fun t101 => (if t101 = 0 then ((isobathref02_code.f a1).bind fun t102 => (if t102 = true then (if a2 < 0 then (isobathref02_Answers.j0 k l0 a1 a2 true) else (isobathref02_Answers.j0 k l0 a1 a2 (decide (a2 > 16)))) else (isobathref02_Answers.j0 k l0 a1 a2 true))) else (some (([] : List Int), t101)))
theorem isobathref02_Answers.mono_l : ∀ k, (∀ y0 y1 y2 y3, LeO (isobathref02_Answers.j0 k y0 y1 y2 y3) (isobathref02_Answers.j0 (k + 1) y0 y1 y2 y3)) ∧ (∀ y0 y1 y2 y3 y4, LeO (isobathref02_Answers.l0 k y0 y1 y2 y3 y4) (isobathref02_Answers.l0 (k + 1) y0 y1 y2 y3 y4))
  | 0 => ⟨fun _ _ _ _ r h => by simp [isobathref02_Answers.j0] at h, fun _ _ _ _ _ r h => by simp [isobathref02_Answers.l0] at h⟩
  | k + 1 => by
    obtain ⟨ih0, ih1⟩ := isobathref02_Answers.mono_l k
    refine ⟨?_, ?_⟩
    · intro y0 y1 y2 y3
      unfold isobathref02_Answers.j0
      repeat' first
      | (with_reducible exact ih0 _ _ _ _)
      | (with_reducible exact ih1 _ _ _ _ _)
      | (with_reducible exact isobathref02_Apart.mono _ _ _)
      | (with_reducible exact isobathref02_codes.mono _ _)
      | (with_reducible exact LeO.refl _)
      | (with_reducible exact LeO.none _)
      | (with_reducible refine LeO.ite ?_ ?_)
      | (with_reducible refine LeO.bind ?_ (fun _ => ?_))
      | exact ih0 _ _ _ _
      | exact ih1 _ _ _ _ _
      | exact isobathref02_Apart.mono _ _ _
      | exact isobathref02_codes.mono _ _
      | exact LeO.none _
      | refine LeO.ite ?_ ?_
      | refine LeO.bind ?_ (fun _ => ?_)
    · intro y0 y1 y2 y3 y4
      unfold isobathref02_Answers.l0
      repeat' first
      | (with_reducible exact ih0 _ _ _ _)
      | (with_reducible exact ih1 _ _ _ _ _)
      | (with_reducible exact isobathref02_Apart.mono _ _ _)
      | (with_reducible exact isobathref02_codes.mono _ _)
      | (with_reducible exact LeO.refl _)
      | (with_reducible exact LeO.none _)
      | (with_reducible refine LeO.ite ?_ ?_)
      | (with_reducible refine LeO.bind ?_ (fun _ => ?_))
      | exact ih0 _ _ _ _
      | exact ih1 _ _ _ _ _
      | exact isobathref02_Apart.mono _ _ _
      | exact isobathref02_codes.mono _ _
      | exact LeO.none _
      | refine LeO.ite ?_ ?_
      | refine LeO.bind ?_ (fun _ => ?_)
theorem isobathref02_Answers.mono : ∀ a0 a1 a2 k, LeO (isobathref02_Answers.f k a0 a1 a2) (isobathref02_Answers.f (k + 1) a0 a1 a2) := by
  intro a0 a1 a2 k
  obtain ⟨ih0, ih1⟩ := isobathref02_Answers.mono_l k
  unfold isobathref02_Answers.f
  repeat' first
      | (with_reducible exact ih0 _ _ _ _)
      | (with_reducible exact ih1 _ _ _ _ _)
      | (with_reducible exact isobathref02_Apart.mono _ _ _)
      | (with_reducible exact isobathref02_codes.mono _ _)
      | (with_reducible exact LeO.refl _)
      | (with_reducible exact LeO.none _)
      | (with_reducible refine LeO.ite ?_ ?_)
      | (with_reducible refine LeO.bind ?_ (fun _ => ?_))
      | exact ih0 _ _ _ _
      | exact ih1 _ _ _ _ _
      | exact isobathref02_Apart.mono _ _ _
      | exact isobathref02_codes.mono _ _
      | exact LeO.none _
      | refine LeO.ite ?_ ?_
      | refine LeO.bind ?_ (fun _ => ?_)
set_option maxHeartbeats 8000000 in
set_option maxRecDepth 100000 in
theorem isobathref02_Answers.calls (k : Nat) (A0 : Option Addr) (c0 : Nat) (l0 : List Int) (a1 : Int) (a2 : Int) (r1 : List Int) (r2 : Int) (w : World) (hr0 : Kd.C (Kd.int .i64) w A0 l0.length l0) (hc0 : l0.length ≤ c0) (h : isobathref02_Answers.f k l0 a1 a2 = some (r1, r2)) :
    Calls Try.prog 18 #[.slice A0 l0.length c0, .int .i64 a1, .int .i64 a2] w fun e w' => ∃ v0_ : Value, e = .returned (.tuple #[v0_, .int .i64 r2]) ∧ Kd.R (Kd.int .i64) 3 w' w.heap.size (fun _ => True) v0_ r1 ∧ Below w.heap.size w w' := by
  have HR0 := Aside0.mk hr0
  have HC0 := Aside0.mk hc0
  clear hr0 hc0
  have HB := Aside0.mk (Below.refl w.heap.size w)
  have H : ((isobathref02_codes.f k l0).bind fun t101 => (if t101 = 0 then ((isobathref02_code.f a1).bind fun t102 => (if t102 = true then (if a2 < 0 then (isobathref02_Answers.j0 k l0 a1 a2 true) else (isobathref02_Answers.j0 k l0 a1 a2 (decide (a2 > 16)))) else (isobathref02_Answers.j0 k l0 a1 a2 true))) else (some (([] : List Int), t101)))) = some (r1, r2) := h
  clear h
  replace H := Option.bind_eq_some_iff.mp H
  obtain ⟨t101, A40, H⟩ := H
  replace H : (if t101 = 0 then ((isobathref02_code.f a1).bind fun t102 => (if t102 = true then (if a2 < 0 then (isobathref02_Answers.j0 k l0 a1 a2 true) else (isobathref02_Answers.j0 k l0 a1 a2 (decide (a2 > 16)))) else (isobathref02_Answers.j0 k l0 a1 a2 true))) else (some (([] : List Int), t101))) = some (r1, r2) := H
  have A4 := Aside0.mk A40
  clear A40
  by_cases c5 : t101 = 0
  · rw [if_pos c5] at H
    have c5b0 : (t101 == 0) = true := beq_iff_eq.mpr c5
    have c5b1 : (t101 != 0) = false := bne_eq_false_iff_eq.mpr c5
    clear c5
    have HC6 := Aside0.mk H
    clear H
    go_enter Try.func18, Try.ntmps18
    go_upto_region 4 with (first | ((with_reducible refine gate_callee (f := 54) rfl ?_); refine goesL_ (some 12) rfl rfl Try.func54 (by kernel_rfl) rfl #[.slice A0 l0.length c0] rfl (by (try simp only [List.map_toArray, List.map_cons, List.map_nil]); first | done | rfl | (simp only [List.length_drop, List.length_take]; rfl)) ?_; (with_reducible refine (isobathref02_codes.calls k _ _ l0 t101 _ ?side1 ?side2 A4.out).mono ?_); (case side1 => repeat (first | exact HR0.out | (with_reducible refine Kd.C_alloc ?_ _) | (with_reducible refine Kd.C_drewN ?_ _) | (with_reducible refine Kd.C_drew ?_))); (case side2 => exact HC0.out); rintro e w' ⟨rfl, ⟨nd, rfl⟩⟩; refine ⟨_, rfl, ?_⟩))
    (try simp only [Act.put, List.setIfInBounds_toArray, List.set_cons_zero, List.set_cons_succ])
    go_cut [26] (fun v26 wc => ∃ (kq : Nat) (x26_5 : Bool), v26 = .bool x26_5 ∧ Aside0 (isobathref02_Answers.j0 kq l0 a1 a2 x26_5 = some (r1, r2)) ∧ Aside0 (kq ≤ k) ∧ Aside0 (Below w.heap.size w wc))
    case first =>
      have H := HC6.out
      clear HC6
      replace H := Option.bind_eq_some_iff.mp H
      obtain ⟨t102, A70, H⟩ := H
      replace H : (if t102 = true then (if a2 < 0 then (isobathref02_Answers.j0 k l0 a1 a2 true) else (isobathref02_Answers.j0 k l0 a1 a2 (decide (a2 > 16)))) else (isobathref02_Answers.j0 k l0 a1 a2 true)) = some (r1, r2) := H
      have A7 := Aside0.mk A70
      clear A70
      by_cases c8 : t102 = true
      · subst c8
        have H1 : (if a2 < 0 then (isobathref02_Answers.j0 k l0 a1 a2 true) else (isobathref02_Answers.j0 k l0 a1 a2 (decide (a2 > 16)))) = some (r1, r2) := by rw [if_pos rfl] at H; exact H
        clear H
        have H := H1
        clear H1
        by_cases c9 : a2 < 0
        · rw [if_pos c9] at H
          have c9b0 : decide (a2 < 0) = true := decide_eq_true c9
          clear c9
          (first | rw [c9b0] | (simp only [i64_w, i32_w]; rw [c9b0]) | skip)
          have H' := Aside0.mk H
          clear H
          go_wp2_with (first | ((with_reducible refine gate_callee (f := 56) rfl ?_); refine goesL_ (some 17) rfl rfl Try.func56 (by kernel_rfl) rfl #[.int .i64 a1] rfl (by (try simp only [List.map_toArray, List.map_cons, List.map_nil]); first | done | rfl | (simp only [List.length_drop, List.length_take]; rfl)) ?_; (with_reducible refine (isobathref02_code.calls a1 true _ A7.out).mono ?_); rintro e w' ⟨rfl, ⟨nd, rfl⟩⟩; refine ⟨_, rfl, ?_⟩))
          go_meet
          case rel => exact ⟨_, (true), (by first | rfl | (simp; done) | (simp [*]; done)), H', ⟨by first | omega | exact Nat.le_refl _⟩, ⟨by repeat (first | (with_reducible first | exact HB.out | apply below_alloc | apply pw_below_drewN | apply below_drew1) | exact HB.out)⟩⟩
        · rw [if_neg c9] at H
          have c9b0 : decide (a2 < 0) = false := decide_eq_false c9
          clear c9
          (first | rw [c9b0] | (simp only [i64_w, i32_w]; rw [c9b0]) | skip)
          have H' := Aside0.mk H
          clear H
          go_wp2_with (first | ((with_reducible refine gate_callee (f := 56) rfl ?_); refine goesL_ (some 17) rfl rfl Try.func56 (by kernel_rfl) rfl #[.int .i64 a1] rfl (by (try simp only [List.map_toArray, List.map_cons, List.map_nil]); first | done | rfl | (simp only [List.length_drop, List.length_take]; rfl)) ?_; (with_reducible refine (isobathref02_code.calls a1 true _ A7.out).mono ?_); rintro e w' ⟨rfl, ⟨nd, rfl⟩⟩; refine ⟨_, rfl, ?_⟩))
          go_meet
          case rel => exact ⟨_, (decide (a2 > 16)), (by first | rfl | (simp; done) | (simp [*]; done)), H', ⟨by first | omega | exact Nat.le_refl _⟩, ⟨by repeat (first | (with_reducible first | exact HB.out | apply below_alloc | apply pw_below_drewN | apply below_drew1) | exact HB.out)⟩⟩
      · replace c8 := Bool.eq_false_iff.mpr c8
        subst c8
        have H1 : (isobathref02_Answers.j0 k l0 a1 a2 true) = some (r1, r2) := by rw [if_neg (show ¬ (false = true) by decide)] at H; exact H
        clear H
        have H := H1
        clear H1
        have H' := Aside0.mk H
        clear H
        go_wp2_with (first | ((with_reducible refine gate_callee (f := 56) rfl ?_); refine goesL_ (some 17) rfl rfl Try.func56 (by kernel_rfl) rfl #[.int .i64 a1] rfl (by (try simp only [List.map_toArray, List.map_cons, List.map_nil]); first | done | rfl | (simp only [List.length_drop, List.length_take]; rfl)) ?_; (with_reducible refine (isobathref02_code.calls a1 false _ A7.out).mono ?_); rintro e w' ⟨rfl, ⟨nd, rfl⟩⟩; refine ⟨_, rfl, ?_⟩))
        go_meet
        case rel => exact ⟨_, (true), (by first | rfl | (simp; done) | (simp [*]; done)), H', ⟨by first | omega | exact Nat.le_refl _⟩, ⟨by repeat (first | (with_reducible first | exact HB.out | apply below_alloc | apply pw_below_drewN | apply below_drew1) | exact HB.out)⟩⟩
    case rest =>
      clear HC6
      try clear c1
      try clear p2
      try clear c5
      try clear c5b0
      try clear c5b1
      try clear c8
      try clear c9
      try clear c9b0
      obtain ⟨kq, x26_5, rfl, HA, HJ5, HB⟩ := hcut
      cases kq with
      | zero => exact absurd HA.out (by simp [isobathref02_Answers.j0])
      | succ kj5 =>
        have H := HA.out
        clear HA
        simp only [isobathref02_Answers.j0] at H
        by_cases c10 : x26_5 = true
        · subst c10
          have H1 : (some (([] : List Int), 3)) = some (r1, r2) := by rw [if_pos rfl] at H; exact H
          clear H
          have H := H1
          clear H1
          simp only [Option.some.injEq, Prod.mk.injEq] at H
          obtain ⟨rfl, rfl⟩ := H
          go_wp2
          go_ret2
          exact ⟨_, by first | rfl | (simp [errW_none, errW_some] <;> rfl) | (simp [*, errW_none, errW_some] <;> rfl), by first | exact Kd.R_nil _ _ _ _ _ | exact Kd.N_nil _ _ _ _ _ | exact Kd.V_nil _ _ _ _ _ | exact Kd.Q_nil _ _ _ _ _ | exact Kd.S_nil _ _ _ _ _, by repeat (first | (with_reducible first | exact HB.out | apply below_alloc | apply pw_below_drewN | apply below_drew1) | exact HB.out)⟩
        · replace c10 := Bool.eq_false_iff.mpr c10
          subst c10
          have H1 : (isobathref02_Answers.l0 kj5 l0 a1 a2 ([] : List Int) 0) = some (r1, r2) := by rw [if_neg (show ¬ (false = true) by decide)] at H; exact H
          clear H
          have H := H1
          clear H1
          have H' := Aside0.mk H
          clear H
          go_wp2
          go_loopg [9, 10] kj5 (fun kq v9 v10 w' => ∃ (x9_2 : List Int) (x10_2 : Int), v10 = .int .i64 x10_2 ∧ Aside0 (isobathref02_Answers.l0 kq l0 a1 a2 x9_2 x10_2 = some (r1, r2)) ∧ Aside0 (kq ≤ kj5) ∧ Aside0 (Kd.R (Kd.int .i64) 3 w' w.heap.size (fun _ => True) v9 x9_2) ∧ Aside0 (Below w.heap.size w w'))
          case atStart => exact ⟨(([] : List Int)), (0), (by first | rfl | (simp; done) | (simp [*]; done)), H', ⟨Nat.le_refl _⟩, ⟨by first | exact Kd.R_nil _ _ _ _ _ | exact Kd.N_nil _ _ _ _ _ | exact Kd.V_nil _ _ _ _ _ | exact Kd.Q_nil _ _ _ _ _ | exact Kd.S_nil _ _ _ _ _⟩, ⟨by repeat (first | (with_reducible first | exact HB.out | apply below_alloc | apply pw_below_drewN | apply below_drew1) | exact HB.out)⟩⟩
          case round =>
            clear H'
            try clear c1
            try clear p2
            try clear c5
            try clear c5b0
            try clear c5b1
            try clear c8
            try clear c9
            try clear c9b0
            try clear c10
            try clear p2
            obtain ⟨x9_2, x10_2, rfl, HA, HK2, HO_9, HB⟩ := hrel
            cases gk with
            | zero => exact absurd HA.out (by simp [isobathref02_Answers.l0])
            | succ k2 =>
              have H := HA.out
              clear HA
              simp only [isobathref02_Answers.l0] at H
              by_cases c11 : x10_2 < (l0.length : Int)
              · rw [if_pos c11] at H
                have c11b0 : decide (x10_2 < (l0.length : Int)) = true := decide_eq_true c11
                clear c11
                by_cases c12 : 0 ≤ x10_2
                · rw [if_pos c12] at H
                  have c12b0 : decide (0 ≤ x10_2) = true := decide_eq_true c12
                  clear c12
                  replace H := Option.bind_eq_some_iff.mp H
                  obtain ⟨t104, A130, H⟩ := H
                  replace H : (if t104 ≤ a2 then (if x9_2.length < 17592186044416 then (isobathref02_Answers.l0 k2 l0 a1 a2 (x9_2 ++ [x10_2]) (wrap64 (x10_2 + 1))) else (none)) else (isobathref02_Answers.l0 k2 l0 a1 a2 x9_2 (wrap64 (x10_2 + 1)))) = some (r1, r2) := H
                  have A13 := Aside0.mk A130
                  clear A130
                  by_cases c14 : t104 ≤ a2
                  · rw [if_pos c14] at H
                    have c14b0 : decide (t104 ≤ a2) = true := decide_eq_true c14
                    clear c14
                    by_cases c15 : x9_2.length < 17592186044416
                    · rw [if_pos c15] at H
                      have LMc15 := Aside0.mk c15
                      clear c15
                      obtain ⟨y105, hy105⟩ : ∃ y_ : List Int, y_ = (x9_2 ++ [x10_2]) := ⟨_, rfl⟩
                      replace H : (isobathref02_Answers.l0 k2 l0 a1 a2 y105 (wrap64 (x10_2 + 1))) = some (r1, r2) := by first | (rw [hy105]; with_reducible exact H) | (have H2_ := (Option.bind_some _ _).symm.trans H; rw [hy105]; with_reducible exact H2_) | (have H2_ := (Option.bind_some _ _).symm.trans H; with_reducible exact H2_) | with_reducible exact H | (rw [hy105]; exact H) | exact H
                      have Ny105 := Aside0.mk hy105
                      clear hy105
                      have H' := Aside0.mk H
                      clear H
                      have p103 : 0 ≤ (x10_2 : Int) := of_decide_eq_true (by first | (with_reducible assumption) | assumption)
                      have q103 : x10_2 < (l0.length : Int) := of_decide_eq_true (by first | (with_reducible assumption) | assumption)
                      obtain ⟨ad103, e103, hx103_0⟩ := Kd.at_int HR0.out x10_2 p103 q103
                      cases e103
                      replace hx103_0 := (HB.out.cell (World.block_lt_of_cell? w _ hx103_0)).trans hx103_0
                      replace p103 := eq_true p103
                      replace q103 := eq_true q103
                      go_wp2_with (first | ((with_reducible refine gate_callee (f := 20) rfl ?_); refine goesL_ (some 38) rfl rfl Try.func20 (by kernel_rfl) rfl #[.int .i64 (rd l0 x10_2), .int .i64 a1] rfl (by (try simp only [List.map_toArray, List.map_cons, List.map_nil]); first | done | rfl | (simp only [List.length_drop, List.length_take]; rfl)) ?_; (with_reducible refine (isobathref02_Apart.calls k2 (rd l0 x10_2) a1 t104 _ A13.out).mono ?_); rintro e w' ⟨rfl, ⟨nd, rfl⟩⟩; refine ⟨_, rfl, ?_⟩) | ((with_reducible refine gate_builtin (b := .append) (xs := #[.tmp 41, .tmp 43]) rfl ?_); at_builtin; refine Kd.R_append (Kd.int .i64) (w0 := w) w.heap.size rfl (.tmp 41) (.tmp 43) 22 3 (.int .i64 0) 8 rfl Try.underlying22 info3 rfl (by decide) (by omega) u9 x9_2 x10_2 [.int .i64 x10_2] (fun _ => True) (fun _ => False) rfl rfl ?aP (fun _ hk => hk.elim) ?aF ?aO ?aB ?aS ?aL ?_; (case aP => exact rfl); (case aB => exact (by repeat (first | (with_reducible first | exact HB.out | apply below_alloc | apply pw_below_drewN | apply below_drew1) | exact HB.out))); (case aF => exact (fun _ _ => trivial)); (case aO => exact (by (with_reducible repeat (first | apply Kd.R_alloc | apply Kd.R_drewN | apply Kd.R_drew)); exact HO_9.out)); (case aS => exact (below_size (by repeat (first | (with_reducible first | exact HB.out | apply below_alloc | apply pw_below_drewN | apply below_drew1) | exact HB.out)))); (case aL => have := LMc15.out; omega); intro v106 w16 ho hb hg hat; rw [← Ny105.out] at ho; have n0_ := Aside0.mk (hb); have n1_ := Aside0.mk (ho); clear HB; clear HO_9; have HB := n0_; have HO107 := n1_; clear n0_ n1_; clear ho hb hg hat))
                      go_roundg k2
                      case measure => have := HJ5.out; have := HK2.out; omega
                      case rel => exact ⟨(y105), (wrap64 (x10_2 + 1)), (by first | rfl | (simp; done) | (simp [*]; done)), H', ⟨by have := HJ5.out; have := HK2.out; omega⟩, ⟨by (with_reducible repeat (first | apply Kd.R_alloc | apply Kd.R_drewN | apply Kd.R_drew)); exact HO107.out⟩, ⟨by repeat (first | (with_reducible first | exact HB.out | apply below_alloc | apply pw_below_drewN | apply below_drew1) | exact HB.out)⟩⟩
                    · rw [if_neg c15] at H
                      exact absurd H (by simp)
                  · rw [if_neg c14] at H
                    have c14b0 : decide (t104 ≤ a2) = false := decide_eq_false c14
                    clear c14
                    have H' := Aside0.mk H
                    clear H
                    have p103 : 0 ≤ (x10_2 : Int) := of_decide_eq_true (by first | (with_reducible assumption) | assumption)
                    have q103 : x10_2 < (l0.length : Int) := of_decide_eq_true (by first | (with_reducible assumption) | assumption)
                    obtain ⟨ad103, e103, hx103_0⟩ := Kd.at_int HR0.out x10_2 p103 q103
                    cases e103
                    replace hx103_0 := (HB.out.cell (World.block_lt_of_cell? w _ hx103_0)).trans hx103_0
                    replace p103 := eq_true p103
                    replace q103 := eq_true q103
                    go_wp2_with (first | ((with_reducible refine gate_callee (f := 20) rfl ?_); refine goesL_ (some 38) rfl rfl Try.func20 (by kernel_rfl) rfl #[.int .i64 (rd l0 x10_2), .int .i64 a1] rfl (by (try simp only [List.map_toArray, List.map_cons, List.map_nil]); first | done | rfl | (simp only [List.length_drop, List.length_take]; rfl)) ?_; (with_reducible refine (isobathref02_Apart.calls k2 (rd l0 x10_2) a1 t104 _ A13.out).mono ?_); rintro e w' ⟨rfl, ⟨nd, rfl⟩⟩; refine ⟨_, rfl, ?_⟩))
                    go_roundg k2
                    case measure => have := HJ5.out; have := HK2.out; omega
                    case rel => exact ⟨(x9_2), (wrap64 (x10_2 + 1)), (by first | rfl | (simp; done) | (simp [*]; done)), H', ⟨by have := HJ5.out; have := HK2.out; omega⟩, ⟨by (with_reducible repeat (first | apply Kd.R_alloc | apply Kd.R_drewN | apply Kd.R_drew)); exact HO_9.out⟩, ⟨by repeat (first | (with_reducible first | exact HB.out | apply below_alloc | apply pw_below_drewN | apply below_drew1) | exact HB.out)⟩⟩
                · rw [if_neg c12] at H
                  exact absurd H (by simp)
              · rw [if_neg c11] at H
                have c11b0 : decide (x10_2 < (l0.length : Int)) = false := decide_eq_false c11
                clear c11
                simp only [Option.some.injEq, Prod.mk.injEq] at H
                obtain ⟨rfl, rfl⟩ := H
                go_wp2
                go_ret2
                exact ⟨_, by first | rfl | (simp [errW_none, errW_some] <;> rfl) | (simp [*, errW_none, errW_some] <;> rfl), by (with_reducible repeat (first | apply Kd.R_alloc | apply Kd.R_drewN | apply Kd.R_drew)); exact HO_9.out, by repeat (first | (with_reducible first | exact HB.out | apply below_alloc | apply pw_below_drewN | apply below_drew1) | exact HB.out)⟩
  · rw [if_neg c5] at H
    have c5b0 : (t101 == 0) = false := beq_eq_false_iff_ne.mpr c5
    have c5b1 : (t101 != 0) = true := bne_iff_ne.mpr c5
    simp only [Option.some.injEq, Prod.mk.injEq] at H
    obtain ⟨rfl, rfl⟩ := H
    go_enter Try.func18, Try.ntmps18
    go_wp2_with (first | ((with_reducible refine gate_callee (f := 54) rfl ?_); refine goesL_ (some 12) rfl rfl Try.func54 (by kernel_rfl) rfl #[.slice A0 l0.length c0] rfl (by (try simp only [List.map_toArray, List.map_cons, List.map_nil]); first | done | rfl | (simp only [List.length_drop, List.length_take]; rfl)) ?_; (with_reducible refine (isobathref02_codes.calls k _ _ l0 t101 _ ?side1 ?side2 A4.out).mono ?_); (case side1 => repeat (first | exact HR0.out | (with_reducible refine Kd.C_alloc ?_ _) | (with_reducible refine Kd.C_drewN ?_ _) | (with_reducible refine Kd.C_drew ?_))); (case side2 => exact HC0.out); rintro e w' ⟨rfl, ⟨nd, rfl⟩⟩; refine ⟨_, rfl, ?_⟩))
    go_ret2
    exact ⟨_, by first | rfl | (simp [errW_none, errW_some] <;> rfl) | (simp [*, errW_none, errW_some] <;> rfl), by first | exact Kd.R_nil _ _ _ _ _ | exact Kd.N_nil _ _ _ _ _ | exact Kd.V_nil _ _ _ _ _ | exact Kd.Q_nil _ _ _ _ _ | exact Kd.S_nil _ _ _ _ _, by repeat (first | (with_reducible first | exact HB.out | apply below_alloc | apply pw_below_drewN | apply below_drew1) | exact HB.out)⟩

end Go.Proofs.Ytebcmhajbjkojaa.P

namespace Go.Proofs.Ytebcmhajbjkojaa.P
open Go.RowKit Go.Proofs.YtebcmhajbjkojaaW.PrintWords Go.Proofs.YtebcmhajbjkojaaW.PrintLast Go.Proofs.YtebcmhajbjkojaaW.PrintMore
attribute [local go_sem] max2_int min2_int max_two min_two max_three min_three max_four min_four   -- for this text's walks alone
set_option linter.unusedVariables false
set_option linter.unusedSimpArgs false

/-! ### isobathref02_Spacing: function 16 -/
mutual
def isobathref02_Spacing.l0 : Nat → List Int → Int → Int → Option (Int × Int)
  | 0, _, _, _ => none
  | k + 1, x0, x5, x6 => if x6 < (x0.length : Int) then (isobathref02_Spacing.l1 k x0 x5 x6 0) else (some (x5, 0))
def isobathref02_Spacing.l1 : Nat → List Int → Int → Int → Int → Option (Int × Int)
  | 0, _, _, _, _ => none
  | k + 1, x0, x5, x6, x7 => if x7 < x6 then (if 0 ≤ x6 then (if x6 < (x0.length : Int) then (if 0 ≤ x7 then (if x7 < (x0.length : Int) then ((isobathref02_Apart.f k (rd x0 x6) (rd x0 x7)).bind fun t104 => (isobathref02_Spacing.l1 k x0 (mn x5 t104) x6 (wrap64 (x7 + 1)))) else (none)) else (none)) else (none)) else (none)) else (isobathref02_Spacing.l0 k x0 x5 (wrap64 (x6 + 1)))
end
def isobathref02_Spacing.f (k : Nat) (l0 : List Int) : Option (Int × Int) := (isobathref02_codes.f k l0).bind fun t101 => (if t101 = 0 then (if (l0.length : Int) < 2 then (some (0, 5)) else (isobathref02_Spacing.l0 k l0 16 0)) else (some (0, t101)))
theorem isobathref02_Spacing.mono_l : ∀ k, (∀ y0 y1 y2, LeO (isobathref02_Spacing.l0 k y0 y1 y2) (isobathref02_Spacing.l0 (k + 1) y0 y1 y2)) ∧ (∀ y0 y1 y2 y3, LeO (isobathref02_Spacing.l1 k y0 y1 y2 y3) (isobathref02_Spacing.l1 (k + 1) y0 y1 y2 y3))
  | 0 => ⟨fun _ _ _ r h => by simp [isobathref02_Spacing.l0] at h, fun _ _ _ _ r h => by simp [isobathref02_Spacing.l1] at h⟩
  | k + 1 => by
    obtain ⟨ih0, ih1⟩ := isobathref02_Spacing.mono_l k
    refine ⟨?_, ?_⟩
    · intro y0 y1 y2
      unfold isobathref02_Spacing.l0
      repeat' first
      | (with_reducible exact ih0 _ _ _)
      | (with_reducible exact ih1 _ _ _ _)
      | (with_reducible exact isobathref02_Apart.mono _ _ _)
      | (with_reducible exact isobathref02_codes.mono _ _)
      | (with_reducible exact LeO.refl _)
      | (with_reducible exact LeO.none _)
      | (with_reducible refine LeO.ite ?_ ?_)
      | (with_reducible refine LeO.bind ?_ (fun _ => ?_))
      | exact ih0 _ _ _
      | exact ih1 _ _ _ _
      | exact isobathref02_Apart.mono _ _ _
      | exact isobathref02_codes.mono _ _
      | exact LeO.none _
      | refine LeO.ite ?_ ?_
      | refine LeO.bind ?_ (fun _ => ?_)
    · intro y0 y1 y2 y3
      unfold isobathref02_Spacing.l1
      repeat' first
      | (with_reducible exact ih0 _ _ _)
      | (with_reducible exact ih1 _ _ _ _)
      | (with_reducible exact isobathref02_Apart.mono _ _ _)
      | (with_reducible exact isobathref02_codes.mono _ _)
      | (with_reducible exact LeO.refl _)
      | (with_reducible exact LeO.none _)
      | (with_reducible refine LeO.ite ?_ ?_)
      | (with_reducible refine LeO.bind ?_ (fun _ => ?_))
      | exact ih0 _ _ _
      | exact ih1 _ _ _ _
      | exact isobathref02_Apart.mono _ _ _
      | exact isobathref02_codes.mono _ _
      | exact LeO.none _
      | refine LeO.ite ?_ ?_
      | refine LeO.bind ?_ (fun _ => ?_)
theorem isobathref02_Spacing.mono : ∀ a0 k, LeO (isobathref02_Spacing.f k a0) (isobathref02_Spacing.f (k + 1) a0) := by
  intro a0 k
  obtain ⟨ih0, ih1⟩ := isobathref02_Spacing.mono_l k
  unfold isobathref02_Spacing.f
  repeat' first
      | (with_reducible exact ih0 _ _ _)
      | (with_reducible exact ih1 _ _ _ _)
      | (with_reducible exact isobathref02_Apart.mono _ _ _)
      | (with_reducible exact isobathref02_codes.mono _ _)
      | (with_reducible exact LeO.refl _)
      | (with_reducible exact LeO.none _)
      | (with_reducible refine LeO.ite ?_ ?_)
      | (with_reducible refine LeO.bind ?_ (fun _ => ?_))
      | exact ih0 _ _ _
      | exact ih1 _ _ _ _
      | exact isobathref02_Apart.mono _ _ _
      | exact isobathref02_codes.mono _ _
      | exact LeO.none _
      | refine LeO.ite ?_ ?_
      | refine LeO.bind ?_ (fun _ => ?_)
set_option maxHeartbeats 8000000 in
set_option maxRecDepth 100000 in
theorem isobathref02_Spacing.calls (k : Nat) (A0 : Option Addr) (c0 : Nat) (l0 : List Int) (r1 : Int) (r2 : Int) (w : World) (hr0 : Kd.C (Kd.int .i64) w A0 l0.length l0) (hc0 : l0.length ≤ c0) (h : isobathref02_Spacing.f k l0 = some (r1, r2)) :
    Calls Try.prog 16 #[.slice A0 l0.length c0] w fun e w' => e = .returned (.tuple #[.int .i64 r1, .int .i64 r2]) ∧ Below w.heap.size w w' := by
  have HR0 := Aside0.mk hr0
  have HC0 := Aside0.mk hc0
  clear hr0 hc0
  have HB := Aside0.mk (Below.refl w.heap.size w)
  have H : ((isobathref02_codes.f k l0).bind fun t101 => (if t101 = 0 then (if (l0.length : Int) < 2 then (some (0, 5)) else (isobathref02_Spacing.l0 k l0 16 0)) else (some (0, t101)))) = some (r1, r2) := h
  clear h
  replace H := Option.bind_eq_some_iff.mp H
  obtain ⟨t101, A20, H⟩ := H
  replace H : (if t101 = 0 then (if (l0.length : Int) < 2 then (some (0, 5)) else (isobathref02_Spacing.l0 k l0 16 0)) else (some (0, t101))) = some (r1, r2) := H
  have A2 := Aside0.mk A20
  clear A20
  by_cases c3 : t101 = 0
  · rw [if_pos c3] at H
    have c3b0 : (t101 == 0) = true := beq_iff_eq.mpr c3
    have c3b1 : (t101 != 0) = false := bne_eq_false_iff_eq.mpr c3
    clear c3
    by_cases c4 : (l0.length : Int) < 2
    · rw [if_pos c4] at H
      have c4b0 : decide ((l0.length : Int) < 2) = true := decide_eq_true c4
      have c4b1 : decide (l0.length < 2) = true := decide_eq_true (by omega)
      clear c4
      simp only [Option.some.injEq, Prod.mk.injEq] at H
      obtain ⟨rfl, rfl⟩ := H
      go_enter Try.func16, Try.ntmps16
      go_wp2_with (first | (go_at_call 54; (with_reducible refine (isobathref02_codes.calls k _ _ l0 t101 _ ?side1 ?side2 A2.out).mono ?_); (case side1 => repeat (first | exact HR0.out | (with_reducible refine Kd.C_alloc ?_ _) | (with_reducible refine Kd.C_drewN ?_ _) | (with_reducible refine Kd.C_drew ?_))); (case side2 => exact HC0.out); rintro e w' ⟨rfl, ⟨nd, rfl⟩⟩; (try first | exact ⟨rfl, _, World.drewN_drewN _ _ _⟩ | exact ⟨rfl, _, Eq.trans (World.drewN_drewN _ _ _) (congrArg (World.drewN _) (Nat.add_assoc _ _ _))⟩)))
      repeat (go_quiet (first | (go_at_call 54; (with_reducible refine (isobathref02_codes.calls k _ _ l0 t101 _ ?side1 ?side2 A2.out).mono ?_); (case side1 => repeat (first | exact HR0.out | (with_reducible refine Kd.C_alloc ?_ _) | (with_reducible refine Kd.C_drewN ?_ _) | (with_reducible refine Kd.C_drew ?_))); (case side2 => exact HC0.out); rintro e w' ⟨rfl, ⟨nd, rfl⟩⟩; (try first | exact ⟨rfl, _, World.drewN_drewN _ _ _⟩ | exact ⟨rfl, _, Eq.trans (World.drewN_drewN _ _ _) (congrArg (World.drewN _) (Nat.add_assoc _ _ _))⟩))); try go_wp2_with (first | (go_at_call 54; (with_reducible refine (isobathref02_codes.calls k _ _ l0 t101 _ ?side1 ?side2 A2.out).mono ?_); (case side1 => repeat (first | exact HR0.out | (with_reducible refine Kd.C_alloc ?_ _) | (with_reducible refine Kd.C_drewN ?_ _) | (with_reducible refine Kd.C_drew ?_))); (case side2 => exact HC0.out); rintro e w' ⟨rfl, ⟨nd, rfl⟩⟩; (try first | exact ⟨rfl, _, World.drewN_drewN _ _ _⟩ | exact ⟨rfl, _, Eq.trans (World.drewN_drewN _ _ _) (congrArg (World.drewN _) (Nat.add_assoc _ _ _))⟩))))
      go_ret2
      exact ⟨by first | rfl | (simp [errW_none, errW_some] <;> rfl) | (simp [*, errW_none, errW_some] <;> rfl), by repeat (first | (with_reducible first | exact HB.out | apply below_alloc | apply pw_below_drewN | apply below_drew1) | exact HB.out)⟩
    · rw [if_neg c4] at H
      have c4b0 : decide ((l0.length : Int) < 2) = false := decide_eq_false c4
      have c4b1 : decide (l0.length < 2) = false := decide_eq_false (by omega)
      clear c4
      have H' := Aside0.mk H
      clear H
      go_enter Try.func16, Try.ntmps16
      go_wp2_with (first | (go_at_call 54; (with_reducible refine (isobathref02_codes.calls k _ _ l0 t101 _ ?side1 ?side2 A2.out).mono ?_); (case side1 => repeat (first | exact HR0.out | (with_reducible refine Kd.C_alloc ?_ _) | (with_reducible refine Kd.C_drewN ?_ _) | (with_reducible refine Kd.C_drew ?_))); (case side2 => exact HC0.out); rintro e w' ⟨rfl, ⟨nd, rfl⟩⟩; (try first | exact ⟨rfl, _, World.drewN_drewN _ _ _⟩ | exact ⟨rfl, _, Eq.trans (World.drewN_drewN _ _ _) (congrArg (World.drewN _) (Nat.add_assoc _ _ _))⟩)))
      repeat (go_quiet (first | (go_at_call 54; (with_reducible refine (isobathref02_codes.calls k _ _ l0 t101 _ ?side1 ?side2 A2.out).mono ?_); (case side1 => repeat (first | exact HR0.out | (with_reducible refine Kd.C_alloc ?_ _) | (with_reducible refine Kd.C_drewN ?_ _) | (with_reducible refine Kd.C_drew ?_))); (case side2 => exact HC0.out); rintro e w' ⟨rfl, ⟨nd, rfl⟩⟩; (try first | exact ⟨rfl, _, World.drewN_drewN _ _ _⟩ | exact ⟨rfl, _, Eq.trans (World.drewN_drewN _ _ _) (congrArg (World.drewN _) (Nat.add_assoc _ _ _))⟩))); try go_wp2_with (first | (go_at_call 54; (with_reducible refine (isobathref02_codes.calls k _ _ l0 t101 _ ?side1 ?side2 A2.out).mono ?_); (case side1 => repeat (first | exact HR0.out | (with_reducible refine Kd.C_alloc ?_ _) | (with_reducible refine Kd.C_drewN ?_ _) | (with_reducible refine Kd.C_drew ?_))); (case side2 => exact HC0.out); rintro e w' ⟨rfl, ⟨nd, rfl⟩⟩; (try first | exact ⟨rfl, _, World.drewN_drewN _ _ _⟩ | exact ⟨rfl, _, Eq.trans (World.drewN_drewN _ _ _) (congrArg (World.drewN _) (Nat.add_assoc _ _ _))⟩))))
      go_loopg [5, 6] k (fun kq v5 v6 w' => ∃ (x5_1 : Int) (x6_1 : Int), v5 = .int .i64 x5_1 ∧ v6 = .int .i64 x6_1 ∧ Aside0 (isobathref02_Spacing.l0 kq l0 x5_1 x6_1 = some (r1, r2)) ∧ Aside0 (kq ≤ k) ∧ Aside0 (Below w.heap.size w w'))
      case atStart => exact ⟨(16), (0), (by first | rfl | (simp; done) | (simp [*]; done)), (by first | rfl | (simp; done) | (simp [*]; done)), H', ⟨Nat.le_refl _⟩, ⟨by repeat (first | (with_reducible first | exact HB.out | apply below_alloc | apply pw_below_drewN | apply below_drew1) | exact HB.out)⟩⟩
      case round =>
        clear H'
        try clear c1
        try clear p2
        try clear c3
        try clear c3b0
        try clear c3b1
        try clear c4
        try clear c4b0
        try clear c4b1
        obtain ⟨x5_1, x6_1, rfl, rfl, HA, HK1, HB⟩ := hrel
        cases gk with
        | zero => exact absurd HA.out (by simp [isobathref02_Spacing.l0])
        | succ k1 =>
          have H := HA.out
          clear HA
          simp only [isobathref02_Spacing.l0] at H
          by_cases c5 : x6_1 < (l0.length : Int)
          · rw [if_pos c5] at H
            have c5b0 : decide (x6_1 < (l0.length : Int)) = true := decide_eq_true c5
            clear c5
            have H' := Aside0.mk H
            clear H
            go_wp2
            repeat (go_quiet (fail); try go_wp2)
            go_loopg [5, 7] k1 (fun kq v5 v7 w' => ∃ (x5_2 : Int) (x7_2 : Int), v5 = .int .i64 x5_2 ∧ v7 = .int .i64 x7_2 ∧ Aside0 (isobathref02_Spacing.l1 kq l0 x5_2 x6_1 x7_2 = some (r1, r2)) ∧ Aside0 (kq ≤ k1) ∧ Aside0 (Below w.heap.size w w'))
            case atStart => exact ⟨(x5_1), (0), (by first | rfl | (simp; done) | (simp [*]; done)), (by first | rfl | (simp; done) | (simp [*]; done)), H', ⟨Nat.le_refl _⟩, ⟨by repeat (first | (with_reducible first | exact HB.out | apply below_alloc | apply pw_below_drewN | apply below_drew1) | exact HB.out)⟩⟩
            case round =>
              clear H'
              try clear c1
              try clear p2
              try clear c3
              try clear c3b0
              try clear c3b1
              try clear c4
              try clear c4b0
              try clear c4b1
              try clear c5
              try clear c5b0
              try clear p2
              obtain ⟨x5_2, x7_2, rfl, rfl, HA, HK2, HB⟩ := hrel
              cases gk with
              | zero => exact absurd HA.out (by simp [isobathref02_Spacing.l1])
              | succ k2 =>
                have H := HA.out
                clear HA
                simp only [isobathref02_Spacing.l1] at H
                by_cases c6 : x7_2 < x6_1
                · rw [if_pos c6] at H
                  have c6b0 : decide (x7_2 < x6_1) = true := decide_eq_true c6
                  clear c6
                  by_cases c7 : 0 ≤ x6_1
                  · rw [if_pos c7] at H
                    have c7b0 : decide (0 ≤ x6_1) = true := decide_eq_true c7
                    clear c7
                    by_cases c8 : x6_1 < (l0.length : Int)
                    · rw [if_pos c8] at H
                      have c8b0 : decide (x6_1 < (l0.length : Int)) = true := decide_eq_true c8
                      clear c8
                      by_cases c9 : 0 ≤ x7_2
                      · rw [if_pos c9] at H
                        have c9b0 : decide (0 ≤ x7_2) = true := decide_eq_true c9
                        clear c9
                        by_cases c10 : x7_2 < (l0.length : Int)
                        · rw [if_pos c10] at H
                          have c10b0 : decide (x7_2 < (l0.length : Int)) = true := decide_eq_true c10
                          clear c10
                          replace H := Option.bind_eq_some_iff.mp H
                          obtain ⟨t104, A110, H⟩ := H
                          replace H : (isobathref02_Spacing.l1 k2 l0 (mn x5_2 t104) x6_1 (wrap64 (x7_2 + 1))) = some (r1, r2) := H
                          have A11 := Aside0.mk A110
                          clear A110
                          obtain ⟨ji12, hji12⟩ : ∃ j_ : Int, (mn x5_2 t104) = j_ := ⟨_, rfl⟩
                          replace H : (isobathref02_Spacing.l1 k2 l0 ji12 x6_1 (wrap64 (x7_2 + 1))) = some (r1, r2) := by first | (rw [hji12] at H; exact H) | (simp only [hji12] at H ⊢; exact H)
                          (try rw [hji12] at A11)
                          have hji12_ : (if t104 < x5_2 then t104 else x5_2) = ji12 := hji12
                          have H' := Aside0.mk H
                          clear H
                          have p102 : 0 ≤ (x6_1 : Int) := of_decide_eq_true (by first | (with_reducible assumption) | assumption)
                          have q102 : x6_1 < (l0.length : Int) := of_decide_eq_true (by first | (with_reducible assumption) | assumption)
                          obtain ⟨ad102, e102, hx102_0⟩ := Kd.at_int HR0.out x6_1 p102 q102
                          cases e102
                          replace hx102_0 := (HB.out.cell (World.block_lt_of_cell? w _ hx102_0)).trans hx102_0
                          replace p102 := eq_true p102
                          replace q102 := eq_true q102
                          have p103 : 0 ≤ (x7_2 : Int) := of_decide_eq_true (by first | (with_reducible assumption) | assumption)
                          have q103 : x7_2 < (l0.length : Int) := of_decide_eq_true (by first | (with_reducible assumption) | assumption)
                          obtain ⟨ad103, e103, hx103_0⟩ := Kd.at_int HR0.out x7_2 p103 q103
                          obtain rfl : ad102 = ad103 := (by injection e103)
                          replace hx103_0 := (HB.out.cell (World.block_lt_of_cell? w _ hx103_0)).trans hx103_0
                          replace p103 := eq_true p103
                          replace q103 := eq_true q103
                          go_wp2_with (first | (go_at_call 20; (with_reducible refine (isobathref02_Apart.calls k2 (rd l0 x6_1) (rd l0 x7_2) t104 _ A11.out).mono ?_); rintro e w' ⟨rfl, ⟨nd, rfl⟩⟩; (try first | exact ⟨rfl, _, World.drewN_drewN _ _ _⟩ | exact ⟨rfl, _, Eq.trans (World.drewN_drewN _ _ _) (congrArg (World.drewN _) (Nat.add_assoc _ _ _))⟩)))
                          repeat (go_quiet (first | (go_at_call 20; (with_reducible refine (isobathref02_Apart.calls k2 (rd l0 x6_1) (rd l0 x7_2) t104 _ A11.out).mono ?_); rintro e w' ⟨rfl, ⟨nd, rfl⟩⟩; (try first | exact ⟨rfl, _, World.drewN_drewN _ _ _⟩ | exact ⟨rfl, _, Eq.trans (World.drewN_drewN _ _ _) (congrArg (World.drewN _) (Nat.add_assoc _ _ _))⟩))); try go_wp2_with (first | (go_at_call 20; (with_reducible refine (isobathref02_Apart.calls k2 (rd l0 x6_1) (rd l0 x7_2) t104 _ A11.out).mono ?_); rintro e w' ⟨rfl, ⟨nd, rfl⟩⟩; (try first | exact ⟨rfl, _, World.drewN_drewN _ _ _⟩ | exact ⟨rfl, _, Eq.trans (World.drewN_drewN _ _ _) (congrArg (World.drewN _) (Nat.add_assoc _ _ _))⟩))))
                          go_roundg k2
                          case measure => have := HK1.out; have := HK2.out; omega
                          case rel => exact ⟨(ji12), (wrap64 (x7_2 + 1)), (by first | rfl | (simp; done) | (simp only [← hji12] <;> (first | rfl | simp)) | (simp [*]; done)), (by first | rfl | (simp; done) | (simp [*]; done)), H', ⟨by have := HK1.out; have := HK2.out; omega⟩, ⟨by repeat (first | (with_reducible first | exact HB.out | apply below_alloc | apply pw_below_drewN | apply below_drew1) | exact HB.out)⟩⟩
                        · rw [if_neg c10] at H
                          exact absurd H (by simp)
                      · rw [if_neg c9] at H
                        exact absurd H (by simp)
                    · rw [if_neg c8] at H
                      exact absurd H (by simp)
                  · rw [if_neg c7] at H
                    exact absurd H (by simp)
                · rw [if_neg c6] at H
                  have c6b0 : decide (x7_2 < x6_1) = false := decide_eq_false c6
                  clear c6
                  have H' := Aside0.mk H
                  clear H
                  go_wp2
                  repeat (go_quiet (fail); try go_wp2)
                  go_roundg k2
                  case measure => have := HK1.out; have := HK2.out; omega
                  case rel => exact ⟨(x5_2), (wrap64 (x6_1 + 1)), (by first | rfl | (simp; done) | (simp [*]; done)), (by first | rfl | (simp; done) | (simp [*]; done)), H', ⟨by have := HK1.out; have := HK2.out; omega⟩, ⟨by repeat (first | (with_reducible first | exact HB.out | apply below_alloc | apply pw_below_drewN | apply below_drew1) | exact HB.out)⟩⟩
          · rw [if_neg c5] at H
            have c5b0 : decide (x6_1 < (l0.length : Int)) = false := decide_eq_false c5
            clear c5
            simp only [Option.some.injEq, Prod.mk.injEq] at H
            obtain ⟨rfl, rfl⟩ := H
            go_wp2
            repeat (go_quiet (fail); try go_wp2)
            go_ret2
            exact ⟨by first | rfl | (simp [errW_none, errW_some] <;> rfl) | (simp [*, errW_none, errW_some] <;> rfl), by repeat (first | (with_reducible first | exact HB.out | apply below_alloc | apply pw_below_drewN | apply below_drew1) | exact HB.out)⟩
  · rw [if_neg c3] at H
    have c3b0 : (t101 == 0) = false := beq_eq_false_iff_ne.mpr c3
    have c3b1 : (t101 != 0) = true := bne_iff_ne.mpr c3
    simp only [Option.some.injEq, Prod.mk.injEq] at H
    obtain ⟨rfl, rfl⟩ := H
    go_enter Try.func16, Try.ntmps16
    go_wp2_with (first | (go_at_call 54; (with_reducible refine (isobathref02_codes.calls k _ _ l0 t101 _ ?side1 ?side2 A2.out).mono ?_); (case side1 => repeat (first | exact HR0.out | (with_reducible refine Kd.C_alloc ?_ _) | (with_reducible refine Kd.C_drewN ?_ _) | (with_reducible refine Kd.C_drew ?_))); (case side2 => exact HC0.out); rintro e w' ⟨rfl, ⟨nd, rfl⟩⟩; (try first | exact ⟨rfl, _, World.drewN_drewN _ _ _⟩ | exact ⟨rfl, _, Eq.trans (World.drewN_drewN _ _ _) (congrArg (World.drewN _) (Nat.add_assoc _ _ _))⟩)))
    repeat (go_quiet (first | (go_at_call 54; (with_reducible refine (isobathref02_codes.calls k _ _ l0 t101 _ ?side1 ?side2 A2.out).mono ?_); (case side1 => repeat (first | exact HR0.out | (with_reducible refine Kd.C_alloc ?_ _) | (with_reducible refine Kd.C_drewN ?_ _) | (with_reducible refine Kd.C_drew ?_))); (case side2 => exact HC0.out); rintro e w' ⟨rfl, ⟨nd, rfl⟩⟩; (try first | exact ⟨rfl, _, World.drewN_drewN _ _ _⟩ | exact ⟨rfl, _, Eq.trans (World.drewN_drewN _ _ _) (congrArg (World.drewN _) (Nat.add_assoc _ _ _))⟩))); try go_wp2_with (first | (go_at_call 54; (with_reducible refine (isobathref02_codes.calls k _ _ l0 t101 _ ?side1 ?side2 A2.out).mono ?_); (case side1 => repeat (first | exact HR0.out | (with_reducible refine Kd.C_alloc ?_ _) | (with_reducible refine Kd.C_drewN ?_ _) | (with_reducible refine Kd.C_drew ?_))); (case side2 => exact HC0.out); rintro e w' ⟨rfl, ⟨nd, rfl⟩⟩; (try first | exact ⟨rfl, _, World.drewN_drewN _ _ _⟩ | exact ⟨rfl, _, Eq.trans (World.drewN_drewN _ _ _) (congrArg (World.drewN _) (Nat.add_assoc _ _ _))⟩))))
    go_ret2
    exact ⟨by first | rfl | (simp [errW_none, errW_some] <;> rfl) | (simp [*, errW_none, errW_some] <;> rfl), by repeat (first | (with_reducible first | exact HB.out | apply below_alloc | apply pw_below_drewN | apply below_drew1) | exact HB.out)⟩

end Go.Proofs.Ytebcmhajbjkojaa.P

namespace Go.Proofs.Ytebcmhajbjkojaa.P
open Go.RowKit Go.Proofs.YtebcmhajbjkojaaW.PrintWords Go.Proofs.YtebcmhajbjkojaaW.PrintLast Go.Proofs.YtebcmhajbjkojaaW.PrintMore
attribute [local go_sem] max2_int min2_int max_two min_two max_three min_three max_four min_four   -- for this text's walks alone
set_option linter.unusedVariables false
set_option linter.unusedSimpArgs false

-- LIB
-- WANT isobath/mooring.Spacing
-- WANT isobath/mooring.Answers
-- WANT isobath/isobathref02.Spacing
-- WANT isobath/isobathref02.Answers
-- WANT isobath/isobathlaw02.numbers
/-! ### Spacing and Answers, in closed form -/
def Cod.okB (x : Int) : Bool := decide (0 ≤ x) && decide (x < 65536)
def Cod.err (l : List Int) : Int := if 64 < l.length then 6 else if l.all Cod.okB = true then 0 else 2
theorem Cod.okB_iff {x : Int} : Cod.okB x = true ↔ 0 ≤ x ∧ x < 65536 := by
  unfold Cod.okB
  simp
theorem Cod.isCode (x : Int) : mooring_isCode.f x = some (Cod.okB x) := by
  unfold mooring_isCode.f Cod.okB
  by_cases h : 0 ≤ x
  · rw [if_pos h, decide_eq_true h, Bool.true_and]
  · rw [if_neg h, decide_eq_false h, Bool.false_and]
theorem Cod.refCode (x : Int) : isobathref02_code.f x = some (Cod.okB x) := by
  unfold isobathref02_code.f Cod.okB
  by_cases h : 0 ≤ x
  · rw [if_pos h, decide_eq_true h, Bool.true_and]
  · rw [if_neg h, decide_eq_false h, Bool.false_and]
theorem Cod.index_l0 {l : List Int} (hl : l.length ≤ 64) (n : Nat) : ∀ (k i : Nat), i + n = l.length → n < k →
    ∃ r, slices_IndexFunc_int_int_mooring_checkCodes_1.l0 k l (l.length : Int) (i : Int) = some r ∧ (decide (r ≥ 0) = !((l.drop i).all Cod.okB)) := by
  induction n with
  | zero =>
    intro k i hi hk
    obtain ⟨k, rfl⟩ : ∃ m, k = m + 1 := ⟨k - 1, by omega⟩
    simp only [slices_IndexFunc_int_int_mooring_checkCodes_1.l0]
    rw [if_neg (by omega), List.drop_of_length_le (by omega)]
    exact ⟨_, rfl, rfl⟩
  | succ n ih =>
    intro k i hi hk
    obtain ⟨k, rfl⟩ : ∃ m, k = m + 1 := ⟨k - 1, by omega⟩
    have hlt : i < l.length := by omega
    simp only [slices_IndexFunc_int_int_mooring_checkCodes_1.l0, mooring_checkCodes_1.f, Cod.isCode, Option.bind_some]
    rw [if_pos (by omega), if_pos (by omega), if_pos (by omega), rd_nat hlt, drop_cons hlt, List.all_cons]
    cases h : Cod.okB l[i] with
    | true =>
      rw [Bool.not_true, if_neg (by decide), wrap_succ hlt (by omega), Bool.true_and]
      exact ih k (i + 1) (by omega) (by omega)
    | false =>
      rw [Bool.not_false, if_pos rfl, Bool.false_and]
      exact ⟨_, rfl, by simp⟩
theorem Cod.check {l : List Int} {k : Nat} (hk : 66 ≤ k) : mooring_checkCodes.f k l = some (Cod.err l) := by
  unfold mooring_checkCodes.f Cod.err
  by_cases h : 64 < l.length
  · rw [if_pos (by omega), if_pos h]
  rw [if_neg (by omega), if_neg h]
  obtain ⟨r, h1, h2⟩ := Cod.index_l0 (l := l) (by omega) l.length k 0 (by omega) (by omega)
  unfold slices_ContainsFunc_int_int_mooring_checkCodes_1.f slices_IndexFunc_int_int_mooring_checkCodes_1.f
  rw [List.drop_zero] at h2
  rw [show ((0 : Nat) : Int) = 0 from rfl] at h1
  rw [h1, Option.bind_some, Option.bind_some, h2]
  cases l.all Cod.okB <;> rfl
theorem Cod.codes_l0 {l : List Int} (hl : l.length ≤ 64) (n : Nat) : ∀ (k i : Nat), i + n = l.length → n < k →
    isobathref02_codes.l0 k l (i : Int) = some (if (l.drop i).all Cod.okB = true then 0 else 2) := by
  induction n with
  | zero =>
    intro k i hi hk
    obtain ⟨k, rfl⟩ : ∃ m, k = m + 1 := ⟨k - 1, by omega⟩
    simp only [isobathref02_codes.l0]
    rw [if_neg (by omega), List.drop_of_length_le (by omega)]
    rfl
  | succ n ih =>
    intro k i hi hk
    obtain ⟨k, rfl⟩ : ∃ m, k = m + 1 := ⟨k - 1, by omega⟩
    have hlt : i < l.length := by omega
    simp only [isobathref02_codes.l0, Cod.refCode, Option.bind_some]
    rw [if_pos (by omega), if_pos (by omega), rd_nat hlt, drop_cons hlt, List.all_cons]
    cases h : Cod.okB l[i] with
    | true =>
      rw [if_pos rfl, wrap_succ hlt (by omega), Bool.true_and]
      exact ih k (i + 1) (by omega) (by omega)
    | false => rfl
theorem Cod.refCheck {l : List Int} {k : Nat} (hk : 66 ≤ k) : isobathref02_codes.f k l = some (Cod.err l) := by
  unfold isobathref02_codes.f Cod.err
  by_cases h : 64 < l.length
  · rw [if_pos (by omega), if_pos h]
  rw [if_neg (by omega), if_neg h]
  have h1 := Cod.codes_l0 (l := l) (by omega) l.length k 0 (by omega) (by omega)
  rw [List.drop_zero] at h1
  exact h1
theorem Cod.err_ok {l : List Int} (h : Cod.err l = 0) : l.length ≤ 64 ∧ ∀ i : Nat, i < l.length → 0 ≤ rd l (i : Int) ∧ rd l (i : Int) < 65536 := by
  unfold Cod.err at h
  by_cases h0 : 64 < l.length
  · rw [if_pos h0] at h; cases h
  rw [if_neg h0] at h
  by_cases h1 : l.all Cod.okB = true
  · refine ⟨by omega, fun i hi => ?_⟩
    rw [rd_nat hi]
    exact Cod.okB_iff.1 (List.all_eq_true.1 h1 _ (List.getElem_mem hi))
  · rw [if_neg h1] at h; cases h
def Cod.D (l : List Int) (a b : Nat) : Int := Cod.dist (rd l (a : Int)) (rd l (b : Int))
/-- The least distance over some pairs, and at most 16. -/
def Cod.MinOn (l : List Int) (S : Nat → Nat → Prop) (r : Int) : Prop := r ≤ 16 ∧ 0 ≤ r ∧ (∀ a b, S a b → r ≤ Cod.D l a b) ∧ (r = 16 ∨ ∃ a b, S a b ∧ r = Cod.D l a b)
theorem Cod.MinOn.step {l : List Int} {S S' : Nat → Nat → Prop} {r : Int} (h : Cod.MinOn l S r) (a b : Nat) (hs : ∀ x y, S' x y ↔ S x y ∨ (x = a ∧ y = b)) : Cod.MinOn l S' (mn r (Cod.D l a b)) := by
  obtain ⟨h1, h2, h3, h4⟩ := h
  have hd := Cod.dist_range (rd l (a : Int)) (rd l (b : Int))
  have hm : mn r (Cod.D l a b) ≤ r ∧ mn r (Cod.D l a b) ≤ Cod.D l a b ∧ (mn r (Cod.D l a b) = r ∨ mn r (Cod.D l a b) = Cod.D l a b) := by
    unfold mn
    by_cases c : Cod.D l a b < r
    · rw [if_pos c]; omega
    · rw [if_neg c]; omega
  change 0 ≤ Cod.D l a b ∧ Cod.D l a b ≤ 16 at hd
  refine ⟨by omega, by omega, fun x y hxy => ?_, ?_⟩
  · rcases (hs x y).1 hxy with h | ⟨rfl, rfl⟩
    · have := h3 x y h; omega
    · omega
  · rcases hm.2.2 with h | h
    · rcases h4 with h4 | ⟨x, y, h5, h6⟩
      · left; omega
      · exact .inr ⟨x, y, (hs x y).2 (.inl h5), by omega⟩
    · exact .inr ⟨a, b, (hs a b).2 (.inr ⟨rfl, rfl⟩), h⟩
theorem Cod.MinOn.same {l : List Int} {S S' : Nat → Nat → Prop} {r : Int} (h : Cod.MinOn l S r) (hs : ∀ x y, S' x y ↔ S x y) : Cod.MinOn l S' r := by
  obtain ⟨h1, h2, h3, h4⟩ := h
  refine ⟨h1, h2, fun x y hxy => h3 x y ((hs x y).1 hxy), h4.imp id ?_⟩
  rintro ⟨x, y, h5, h6⟩
  exact ⟨x, y, (hs x y).2 h5, h6⟩
theorem Cod.MinOn.unique {l : List Int} {S : Nat → Nat → Prop} {r s : Int} (h : Cod.MinOn l S r) (h' : Cod.MinOn l S s) : r = s := by
  obtain ⟨h1, h2, h3, h4⟩ := h
  obtain ⟨g1, g2, g3, g4⟩ := h'
  have a1 : r ≤ s := by
    rcases g4 with g4 | ⟨x, y, g5, g6⟩
    · omega
    · have := h3 x y g5; omega
  have a2 : s ≤ r := by
    rcases h4 with h4 | ⟨x, y, h5, h6⟩
    · omega
    · have := g3 x y h5; omega
  omega
def Cod.all (l : List Int) (a b : Nat) : Prop := a < b ∧ b < l.length
/-- The pairs that Spacing has seen at i, m. -/
def Cod.seen (l : List Int) (i m : Nat) (a b : Nat) : Prop := a < b ∧ b < l.length ∧ (a < i ∨ (a = i ∧ b < i + 1 + m))
theorem Cod.rd_drop {l : List Int} {i m : Nat} : rd (l.drop i) (m : Int) = rd l ((i + m : Nat) : Int) := by
  unfold rd
  rw [Int.toNat_natCast, Int.toNat_natCast]
  simp [List.getD, List.getElem?_drop]
theorem Cod.spacing_l1 {l : List Int} (h64 : l.length ≤ 64) (hok : ∀ i : Nat, i < l.length → 0 ≤ rd l (i : Int) ∧ rd l (i : Int) < 65536) {i : Nat} (hi : i < l.length) (K : Nat) (n : Nat) : ∀ (k m : Nat) (r : Int), i + 1 + m + n = l.length → n + 20 + K ≤ k → Cod.MinOn l (Cod.seen l i m) r →
    ∃ k' r', K ≤ k' ∧ mooring_Spacing.l1 k l r (rd l (i : Int)) l (l.length : Int) (i : Int) (l.drop (i + 1)) ((l.drop (i + 1)).length : Int) (m : Int) = mooring_Spacing.l0 k' l r' l (l.length : Int) ((i + 1 : Nat) : Int) ∧ Cod.MinOn l (Cod.seen l (i + 1) 0) r' := by
  induction n with
  | zero =>
    intro k m r hm hk h
    obtain ⟨k, rfl⟩ : ∃ x, k = x + 1 := ⟨k - 1, by omega⟩
    have hd : (l.drop (i + 1)).length = m := by rw [List.length_drop]; omega
    simp only [mooring_Spacing.l1]
    rw [if_neg (by omega), wrap_succ hi (by omega)]
    refine ⟨k, r, by omega, rfl, h.same fun x y => ?_⟩
    unfold Cod.seen
    omega
  | succ n ih =>
    intro k m r hm hk h
    obtain ⟨k, rfl⟩ : ∃ x, k = x + 1 := ⟨k - 1, by omega⟩
    have hd : (l.drop (i + 1)).length = l.length - (i + 1) := List.length_drop
    simp only [mooring_Spacing.l1]
    have o1 := hok i hi
    have o2 := hok (i + 1 + m) (by omega)
    rw [if_pos (by omega), if_pos (by omega), if_pos (by omega), Cod.rd_drop, Cod.apart o1.1 o1.2 o2.1 o2.2 (by omega), Option.bind_some, wrap_succ (n := l.length) (by omega) (by omega)]
    exact ih k (m + 1) _ (by omega) (by omega) (h.step i (i + 1 + m) fun x y => by unfold Cod.seen; omega)
theorem Cod.spacing_l0 {l : List Int} (h64 : l.length ≤ 64) (hok : ∀ i : Nat, i < l.length → 0 ≤ rd l (i : Int) ∧ rd l (i : Int) < 65536) (n : Nat) : ∀ (k i : Nat) (r : Int), i + n = l.length → n * 100 + 1 ≤ k → Cod.MinOn l (Cod.seen l i 0) r →
    ∃ r', mooring_Spacing.l0 k l r l (l.length : Int) (i : Int) = some (r', 0) ∧ Cod.MinOn l (Cod.all l) r' := by
  induction n with
  | zero =>
    intro k i r hi hk h
    obtain ⟨k, rfl⟩ : ∃ x, k = x + 1 := ⟨k - 1, by omega⟩
    simp only [mooring_Spacing.l0]
    rw [if_neg (by omega)]
    refine ⟨r, rfl, h.same fun x y => ?_⟩
    unfold Cod.seen Cod.all
    omega
  | succ n ih =>
    intro k i r hi hk h
    obtain ⟨k, rfl⟩ : ∃ x, k = x + 1 := ⟨k - 1, by omega⟩
    have hlt : i < l.length := by omega
    simp only [mooring_Spacing.l0]
    rw [if_pos (by omega), if_pos (by omega), if_pos (by omega), wrap_succ hlt (by omega), if_pos (by omega), if_pos (by omega), Int.toNat_natCast]
    obtain ⟨k', r', h1, h2, h3⟩ := Cod.spacing_l1 h64 hok hlt (n * 100 + 1) (l.length - (i + 1)) k 0 r (by omega) (by omega) h
    rw [show ((0 : Nat) : Int) = 0 from rfl] at h2
    rw [h2]
    exact ih k' (i + 1) r' (by omega) h1 h3
/-- The pairs that the document's Spacing has seen at i, m. -/
def Cod.seen' (l : List Int) (i m : Nat) (a b : Nat) : Prop := a < b ∧ b < l.length ∧ (b < i ∨ (b = i ∧ a < m))
theorem Cod.refSpacing_l1 {l : List Int} (h64 : l.length ≤ 64) (hok : ∀ i : Nat, i < l.length → 0 ≤ rd l (i : Int) ∧ rd l (i : Int) < 65536) {i : Nat} (hi : i < l.length) (K : Nat) (n : Nat) : ∀ (k m : Nat) (r : Int), m + n = i → n + 20 + K ≤ k → Cod.MinOn l (Cod.seen' l i m) r →
    ∃ k' r', K ≤ k' ∧ isobathref02_Spacing.l1 k l r (i : Int) (m : Int) = isobathref02_Spacing.l0 k' l r' ((i + 1 : Nat) : Int) ∧ Cod.MinOn l (Cod.seen' l (i + 1) 0) r' := by
  induction n with
  | zero =>
    intro k m r hm hk h
    obtain ⟨k, rfl⟩ : ∃ x, k = x + 1 := ⟨k - 1, by omega⟩
    simp only [isobathref02_Spacing.l1]
    rw [if_neg (by omega), wrap_succ hi (by omega)]
    refine ⟨k, r, by omega, rfl, h.same fun x y => ?_⟩
    unfold Cod.seen'
    omega
  | succ n ih =>
    intro k m r hm hk h
    obtain ⟨k, rfl⟩ : ∃ x, k = x + 1 := ⟨k - 1, by omega⟩
    simp only [isobathref02_Spacing.l1]
    have o1 := hok i hi
    have o2 := hok m (by omega)
    rw [if_pos (by omega), if_pos (by omega), if_pos (by omega), if_pos (by omega), if_pos (by omega), Cod.refApart o1.1 o1.2 o2.1 o2.2 (by omega), Option.bind_some, wrap_succ (n := l.length) (by omega) (by omega), Cod.dist_comm]
    exact ih k (m + 1) _ (by omega) (by omega) (h.step m i fun x y => by unfold Cod.seen'; omega)
theorem Cod.refSpacing_l0 {l : List Int} (h64 : l.length ≤ 64) (hok : ∀ i : Nat, i < l.length → 0 ≤ rd l (i : Int) ∧ rd l (i : Int) < 65536) (n : Nat) : ∀ (k i : Nat) (r : Int), i + n = l.length → n * 100 + 1 ≤ k → Cod.MinOn l (Cod.seen' l i 0) r →
    ∃ r', isobathref02_Spacing.l0 k l r (i : Int) = some (r', 0) ∧ Cod.MinOn l (Cod.all l) r' := by
  induction n with
  | zero =>
    intro k i r hi hk h
    obtain ⟨k, rfl⟩ : ∃ x, k = x + 1 := ⟨k - 1, by omega⟩
    simp only [isobathref02_Spacing.l0]
    rw [if_neg (by omega)]
    refine ⟨r, rfl, h.same fun x y => ?_⟩
    unfold Cod.seen' Cod.all
    omega
  | succ n ih =>
    intro k i r hi hk h
    obtain ⟨k, rfl⟩ : ∃ x, k = x + 1 := ⟨k - 1, by omega⟩
    have hlt : i < l.length := by omega
    simp only [isobathref02_Spacing.l0]
    rw [if_pos (by omega)]
    obtain ⟨k', r', h1, h2, h3⟩ := Cod.refSpacing_l1 h64 hok hlt (n * 100 + 1) i k 0 r (by omega) (by omega) h
    rw [show ((0 : Nat) : Int) = 0 from rfl] at h2
    rw [h2]
    exact ih k' (i + 1) r' (by omega) h1 h3
theorem Cod.MinOn.none (l : List Int) {S : Nat → Nat → Prop} (h : ∀ a b, ¬ S a b) : Cod.MinOn l S 16 := ⟨by omega, by omega, fun a b hs => absurd hs (h a b), .inl rfl⟩
/-- Both answer alike. -/
theorem Cod.spacing (l : List Int) {k : Nat} (hk : 7000 ≤ k) : ∃ r e, mooring_Spacing.f k l = some (r, e) ∧ isobathref02_Spacing.f k l = some (r, e) ∧ (e = 0 → Cod.MinOn l (Cod.all l) r ∧ Cod.err l = 0 ∧ 2 ≤ l.length) ∧ (Cod.err l = 0 → 2 ≤ l.length → e = 0) := by
  unfold mooring_Spacing.f isobathref02_Spacing.f
  rw [Cod.check (by omega), Cod.refCheck (by omega), Option.bind_some, Option.bind_some]
  by_cases h : Cod.err l = 0
  · rw [if_pos h, if_pos h]
    obtain ⟨h64, hok⟩ := Cod.err_ok h
    by_cases h2 : l.length < 2
    · rw [if_pos (by omega), if_pos (by omega)]
      exact ⟨0, 5, rfl, rfl, fun e => absurd e (by decide), fun _ e => absurd h2 (by omega)⟩
    · rw [if_neg (by omega), if_neg (by omega)]
      obtain ⟨r, h3, h4⟩ := Cod.spacing_l0 h64 hok l.length k 0 16 (by omega) (by omega) (Cod.MinOn.none l (fun a b hs => by unfold Cod.seen at hs; omega))
      obtain ⟨s, h5, h6⟩ := Cod.refSpacing_l0 h64 hok l.length k 0 16 (by omega) (by omega) (Cod.MinOn.none l (fun a b hs => by unfold Cod.seen' at hs; omega))
      rw [h6.unique h4] at h5
      exact ⟨r, 0, h3, h5, fun _ => ⟨h4, h, by omega⟩, fun _ _ => rfl⟩
  · rw [if_neg h, if_neg h]
    exact ⟨0, _, rfl, rfl, fun e => absurd e h, fun e => absurd e h⟩
/-- The codes that answer. -/
def Cod.ansTo (l : List Int) (h w : Int) (n : Nat) : List Int := ((List.range n).filter (fun j : Nat => decide (Cod.dist (rd l (j : Int)) h ≤ w))).map (fun j : Nat => (j : Int))
theorem Cod.ansTo_succ (l : List Int) (h w : Int) (n : Nat) : Cod.ansTo l h w (n + 1) = if Cod.dist (rd l (n : Int)) h ≤ w then Cod.ansTo l h w n ++ [(n : Int)] else Cod.ansTo l h w n := by
  unfold Cod.ansTo
  rw [List.range_succ, List.filter_append, List.map_append]
  by_cases c : Cod.dist (rd l (n : Int)) h ≤ w
  · rw [if_pos c]
    simp [c]
  · rw [if_neg c]
    simp [c]
theorem Cod.ansTo_length (l : List Int) (h w : Int) (n : Nat) : (Cod.ansTo l h w n).length ≤ n := by
  unfold Cod.ansTo
  rw [List.length_map]
  have := List.length_filter_le (fun j : Nat => decide (Cod.dist (rd l (j : Int)) h ≤ w)) (List.range n)
  rw [List.length_range] at this
  exact this
theorem Cod.answers_l0 {l : List Int} {h w : Int} (h64 : l.length ≤ 64) (hok : ∀ i : Nat, i < l.length → 0 ≤ rd l (i : Int) ∧ rd l (i : Int) < 65536) (hh : 0 ≤ h ∧ h < 65536) (n : Nat) : ∀ (k i : Nat), i + n = l.length → n + 20 ≤ k →
    mooring_Answers.l0 k h w (Cod.ansTo l h w i) l (l.length : Int) (i : Int) = some (Cod.ansTo l h w l.length, 0) := by
  induction n with
  | zero =>
    intro k i hi hk
    obtain ⟨k, rfl⟩ : ∃ x, k = x + 1 := ⟨k - 1, by omega⟩
    simp only [mooring_Answers.l0]
    have e : i = l.length := by omega
    rw [if_neg (by omega), e]
  | succ n ih =>
    intro k i hi hk
    obtain ⟨k, rfl⟩ : ∃ x, k = x + 1 := ⟨k - 1, by omega⟩
    have hlt : i < l.length := by omega
    have o1 := hok i hlt
    have hn := Cod.ansTo_length l h w i
    simp only [mooring_Answers.l0]
    rw [if_pos (by omega), if_pos (by omega), if_pos (by omega), Cod.apart o1.1 o1.2 hh.1 hh.2 (by omega), Option.bind_some, if_pos (show (Cod.ansTo l h w i).length < 17592186044416 by omega), wrap_succ hlt (by omega)]
    have ih' := ih k (i + 1) (by omega) (by omega)
    rw [Cod.ansTo_succ] at ih'
    by_cases c : Cod.dist (rd l (i : Int)) h ≤ w
    · rw [if_pos c] at ih' ⊢
      exact ih'
    · rw [if_neg c] at ih' ⊢
      exact ih'
theorem Cod.refAnswers_l0 {l : List Int} {h w : Int} (h64 : l.length ≤ 64) (hok : ∀ i : Nat, i < l.length → 0 ≤ rd l (i : Int) ∧ rd l (i : Int) < 65536) (hh : 0 ≤ h ∧ h < 65536) (n : Nat) : ∀ (k i : Nat), i + n = l.length → n + 20 ≤ k →
    isobathref02_Answers.l0 k l h w (Cod.ansTo l h w i) (i : Int) = some (Cod.ansTo l h w l.length, 0) := by
  induction n with
  | zero =>
    intro k i hi hk
    obtain ⟨k, rfl⟩ : ∃ x, k = x + 1 := ⟨k - 1, by omega⟩
    simp only [isobathref02_Answers.l0]
    have e : i = l.length := by omega
    rw [if_neg (by omega), e]
  | succ n ih =>
    intro k i hi hk
    obtain ⟨k, rfl⟩ : ∃ x, k = x + 1 := ⟨k - 1, by omega⟩
    have hlt : i < l.length := by omega
    have o1 := hok i hlt
    have hn := Cod.ansTo_length l h w i
    simp only [isobathref02_Answers.l0]
    rw [if_pos (by omega), if_pos (by omega), Cod.refApart o1.1 o1.2 hh.1 hh.2 (by omega), Option.bind_some, if_pos (show (Cod.ansTo l h w i).length < 17592186044416 by omega), wrap_succ hlt (by omega)]
    have ih' := ih k (i + 1) (by omega) (by omega)
    rw [Cod.ansTo_succ] at ih'
    by_cases c : Cod.dist (rd l (i : Int)) h ≤ w
    · rw [if_pos c] at ih' ⊢
      exact ih'
    · rw [if_neg c] at ih' ⊢
      exact ih'
def Cod.answers (l : List Int) (h w : Int) : List Int × Int := if Cod.err l = 0 then (if Cod.okB h = true ∧ 0 ≤ w ∧ w ≤ 16 then (Cod.ansTo l h w l.length, 0) else ([], 3)) else ([], Cod.err l)
theorem Cod.answers_f (l : List Int) (h w : Int) {k : Nat} (hk : 100 ≤ k) : mooring_Answers.f k l h w = some (Cod.answers l h w) := by
  obtain ⟨k, rfl⟩ : ∃ x, k = x + 1 := ⟨k - 1, by omega⟩
  unfold mooring_Answers.f Cod.answers
  rw [Cod.check (by omega), Option.bind_some, Cod.isCode, Option.bind_some]
  by_cases he : Cod.err l = 0
  · rw [if_pos he, if_pos he]
    obtain ⟨h64, hok⟩ := Cod.err_ok he
    by_cases h1 : Cod.okB h = true
    · rw [if_pos h1]
      by_cases h2 : w < 0
      · rw [if_pos h2, if_neg (by omega)]
        simp only [mooring_Answers.j0]
        rfl
      · rw [if_neg h2]
        simp only [mooring_Answers.j0]
        by_cases h3 : w > 16
        · rw [decide_eq_true h3, if_pos rfl, if_neg (by omega)]
        · rw [decide_eq_false h3, if_neg (by decide), if_pos ⟨h1, by omega, by omega⟩]
          exact Cod.answers_l0 h64 hok (Cod.okB_iff.1 h1) l.length k 0 (by omega) (by omega)
    · rw [if_neg h1, if_neg (fun e => h1 e.1)]
      simp only [mooring_Answers.j0]
      rfl
  · rw [if_neg he, if_neg he]
theorem Cod.refAnswers_f (l : List Int) (h w : Int) {k : Nat} (hk : 100 ≤ k) : isobathref02_Answers.f k l h w = some (Cod.answers l h w) := by
  obtain ⟨k, rfl⟩ : ∃ x, k = x + 1 := ⟨k - 1, by omega⟩
  unfold isobathref02_Answers.f Cod.answers
  rw [Cod.refCheck (by omega), Option.bind_some, Cod.refCode, Option.bind_some]
  by_cases he : Cod.err l = 0
  · rw [if_pos he, if_pos he]
    obtain ⟨h64, hok⟩ := Cod.err_ok he
    by_cases h1 : Cod.okB h = true
    · rw [if_pos h1]
      by_cases h2 : w < 0
      · rw [if_pos h2, if_neg (by omega)]
        simp only [isobathref02_Answers.j0]
        rfl
      · rw [if_neg h2]
        simp only [isobathref02_Answers.j0]
        by_cases h3 : w > 16
        · rw [decide_eq_true h3, if_pos rfl, if_neg (by omega)]
        · rw [decide_eq_false h3, if_neg (by decide), if_pos ⟨h1, by omega, by omega⟩]
          exact Cod.refAnswers_l0 h64 hok (Cod.okB_iff.1 h1) l.length k 0 (by omega) (by omega)
    · rw [if_neg h1, if_neg (fun e => h1 e.1)]
      simp only [isobathref02_Answers.j0]
      rfl
  · rw [if_neg he, if_neg he]
theorem Law2.numbers_l0 {xs : List Int} (hn : xs.length ≤ 9223372036854775807) (n : Nat) : ∀ (k i : Nat), i + n = xs.length → n < k → isobathlaw02_numbers.l0 k xs xs (i : Int) = some true := by
  induction n with
  | zero =>
    intro k i hi hk
    obtain ⟨k, rfl⟩ : ∃ m, k = m + 1 := ⟨k - 1, by omega⟩
    simp only [isobathlaw02_numbers.l0]
    rw [if_neg (by omega)]
  | succ n ih =>
    intro k i hi hk
    obtain ⟨k, rfl⟩ : ∃ m, k = m + 1 := ⟨k - 1, by omega⟩
    have hlt : i < xs.length := by omega
    simp only [isobathlaw02_numbers.l0]
    rw [if_pos (by omega), if_pos (by omega), if_pos (by omega), if_true, wrap_succ hlt hn]
    exact ih k (i + 1) (by omega) (by omega)
theorem Law2.numbers_same {xs : List Int} (hn : xs.length ≤ 9223372036854775807) {k : Nat} (hk : xs.length < k) : isobathlaw02_numbers.f k xs xs = some true := by
  unfold isobathlaw02_numbers.f
  rw [if_pos rfl]
  exact Law2.numbers_l0 hn xs.length k 0 (by omega) hk
theorem Cod.answers_small (l : List Int) (h w : Int) : (Cod.answers l h w).1.length ≤ 64 := by
  unfold Cod.answers
  by_cases he : Cod.err l = 0
  · rw [if_pos he]
    have h64 := (Cod.err_ok he).1
    by_cases c : Cod.okB h = true ∧ 0 ≤ w ∧ w ≤ 16
    · rw [if_pos c]
      have := Cod.ansTo_length l h w l.length
      simp only
      omega
    · rw [if_neg c]; simp
  · rw [if_neg he]; simp

end Go.Proofs.Ytebcmhajbjkojaa.P

namespace Go.Proofs.Ytebcmhajbjkojaa.P
open Go.RowKit Go.Proofs.YtebcmhajbjkojaaW.PrintWords Go.Proofs.YtebcmhajbjkojaaW.PrintLast Go.Proofs.YtebcmhajbjkojaaW.PrintMore
attribute [local go_sem] max2_int min2_int max_two min_two max_three min_three max_four min_four   -- for this text's walks alone
set_option linter.unusedVariables false
set_option linter.unusedSimpArgs false

-- LIB
-- IMPORT Derived.KernelRfl
-- WANT isobath/isobathlaw02.fine
/-! ### the examples of the chapter -/
theorem Law2.fine60 : isobathlaw02_fine.f 60 = some true := by kernel_rfl
theorem Law2.fine {k : Nat} (hk : 60 ≤ k) : isobathlaw02_fine.f k = some true := LeO.up (fun k => isobathlaw02_fine.mono k) hk Law2.fine60

end Go.Proofs.Ytebcmhajbjkojaa.P

namespace Go.Proofs.Ytebcmhajbjkojaa.P
open Go.RowKit Go.Proofs.YtebcmhajbjkojaaW.PrintWords Go.Proofs.YtebcmhajbjkojaaW.PrintLast Go.Proofs.YtebcmhajbjkojaaW.PrintMore
attribute [local go_sem] max2_int min2_int max_two min_two max_three min_three max_four min_four   -- for this text's walks alone
set_option linter.unusedVariables false
set_option linter.unusedSimpArgs false

-- LIB
-- IMPORT Derived.Test.YtebcmhajbjkojaaLMooringUnique
-- WANT isobath/isobathlaw02.MooringUnique
/-! ### MooringUnique -/
theorem Cod.ansTo_nil {l : List Int} {h w : Int} {n : Nat} (hn : ∀ i : Nat, i < n → ¬ Cod.dist (rd l (i : Int)) h ≤ w) : Cod.ansTo l h w n = [] := by
  induction n with
  | zero => rfl
  | succ n ih => rw [Cod.ansTo_succ, if_neg (hn n (by omega)), ih (fun i hi => hn i (by omega))]
theorem Cod.ansTo_one {l : List Int} {h w : Int} {n : Nat} (hn : ∀ i j : Nat, i < j → j < n → ¬ (Cod.dist (rd l (i : Int)) h ≤ w ∧ Cod.dist (rd l (j : Int)) h ≤ w)) : (Cod.ansTo l h w n).length ≤ 1 := by
  induction n with
  | zero => simp [Cod.ansTo]
  | succ n ih =>
    rw [Cod.ansTo_succ]
    by_cases c : Cod.dist (rd l (n : Int)) h ≤ w
    · rw [if_pos c, Cod.ansTo_nil (fun i hi h' => hn i n hi (by omega) ⟨h', c⟩)]
      simp
    · rw [if_neg c]
      exact ih (fun i j hi hj => hn i j hi (by omega))
theorem Cod.ansTo_mono {l : List Int} {h w w' : Int} (hw : w ≤ w') (n : Nat) : (Cod.ansTo l h w n).length ≤ (Cod.ansTo l h w' n).length := by
  induction n with
  | zero => simp [Cod.ansTo]
  | succ n ih =>
    rw [Cod.ansTo_succ, Cod.ansTo_succ]
    by_cases c : Cod.dist (rd l (n : Int)) h ≤ w
    · rw [if_pos c, if_pos (by omega), List.length_append, List.length_append]
      simp only [List.length_cons, List.length_nil]
      omega
    · rw [if_neg c]
      by_cases d : Cod.dist (rd l (n : Int)) h ≤ w'
      · rw [if_pos d, List.length_append]; omega
      · rw [if_neg d]; exact ih
theorem Cod.ansTo_mem {l : List Int} {h w : Int} {n i : Nat} (hi : i < n) (hd : Cod.dist (rd l (i : Int)) h ≤ w) : (i : Int) ∈ Cod.ansTo l h w n := by
  unfold Cod.ansTo
  exact List.mem_map.2 ⟨i, List.mem_filter.2 ⟨List.mem_range.2 hi, by simpa using hd⟩, rfl⟩
theorem Cod.dist_self (a : Int) : Cod.dist a a = 0 := by
  have h : ∀ n b, Cod.cnt n b b = 0 := by
    intro n b
    induction n with
    | zero => rfl
    | succ n ih => rw [Cod.cnt, ih, if_pos rfl]; rfl
  exact h 16 _
/-- At most one answers. -/
theorem Cod.unique {l : List Int} {d h w : Int} (hm : Cod.MinOn l (Cod.all l) d) (hw : 2 * w + 1 ≤ d) : (Cod.ansTo l h w l.length).length ≤ 1 := by
  refine Cod.ansTo_one fun i j hij hj ⟨h1, h2⟩ => ?_
  have h3 := hm.2.2.1 i j ⟨hij, hj⟩
  have h4 := Cod.dist_tri (rd l (i : Int)) h (rd l (j : Int))
  rw [Cod.dist_comm h (rd l (j : Int))] at h4
  change d ≤ Cod.dist _ _ at h3
  omega
theorem Law2.copy_l0 {l : List Int} (h20 : l.length ≤ 20) (hl : ∀ i : Nat, i < l.length → 0 ≤ rd l (i : Int) ∧ rd l (i : Int) < 65536) (a b c : Int) (n : Nat) : ∀ (k i : Nat), i + n = l.length → n < k →
    ∃ k', k = k' + n + 1 ∧ isobathlaw02_MooringUnique.l0 k l a b c (l.take i) (i : Int) = (mooring_Spacing.f k' l).bind fun bt194 => (if bt194.2 = 0 then (if bt194.1 < 0 then (isobathlaw02_MooringUnique.j2 k' a b c l bt194.1 true) else (isobathlaw02_MooringUnique.j2 k' a b c l bt194.1 (decide (bt194.1 > 16)))) else (isobathlaw02_MooringUnique.j2 k' a b c l bt194.1 true)) := by
  induction n with
  | zero =>
    intro k i hi hk
    obtain ⟨k, rfl⟩ : ∃ m, k = m + 1 := ⟨k - 1, by omega⟩
    refine ⟨k, rfl, ?_⟩
    simp only [isobathlaw02_MooringUnique.l0]
    rw [if_neg (by omega), List.take_of_length_le (by omega)]
  | succ n ih =>
    intro k i hi hk
    obtain ⟨k, rfl⟩ : ∃ m, k = m + 1 := ⟨k - 1, by omega⟩
    have hlt : i < l.length := by omega
    obtain ⟨k', h1, h2⟩ := ih k (i + 1) (by omega) (by omega)
    refine ⟨k', by omega, ?_⟩
    simp only [isobathlaw02_MooringUnique.l0]
    have hr := hl i hlt
    have ht : (l.take i).length < 17592186044416 := by rw [List.length_take]; omega
    rw [if_pos (by omega), if_pos (by omega), if_pos ht, wrap_id (n := rd l (i : Int)) (by omega) (by omega), wrap_succ hlt (by omega), rd_nat hlt, ← take_snoc hlt]
    exact h2
theorem Law2.found_l2 {l x : List Int} {c d bits : Int} {i : Nat} (hx : x.length ≤ 64) (hb0 : 0 ≤ bits) (hb : bits ≤ 16) (hone : 2 * bits + 1 ≤ d → x.length = 1) (n : Nat) : ∀ (k m : Nat) (f : Bool), m + n = x.length → n < k → (f = true ∨ ∃ p : Nat, m ≤ p ∧ p < x.length ∧ rd x (p : Int) = (i : Int)) →
    ∃ k', k ≤ k' + n + 1 ∧ isobathlaw02_MooringUnique.l2 k c l d (i : Int) bits x 0 f (m : Int) = isobathlaw02_MooringUnique.l1 k' c l d (wrap64 ((i : Int) + 1)) := by
  induction n with
  | zero =>
    intro k m f hm hk hf
    obtain ⟨k, rfl⟩ : ∃ y, k = y + 1 := ⟨k - 1, by omega⟩
    have hft : f = true := by
      rcases hf with h | ⟨p, h1, h2, _⟩
      · exact h
      · omega
    subst hft
    refine ⟨k, by omega, ?_⟩
    simp only [isobathlaw02_MooringUnique.l2, if_true]
    rw [if_neg (by omega), wrap_id (n := 2 * bits) (by omega) (by omega), wrap_id (n := 2 * bits + 1) (by omega) (by omega)]
    by_cases c1 : 2 * bits + 1 ≤ d
    · rw [if_pos c1, if_pos (by have := hone c1; omega)]
    · rw [if_neg c1]
  | succ n ih =>
    intro k m f hm hk hf
    obtain ⟨k, rfl⟩ : ∃ y, k = y + 1 := ⟨k - 1, by omega⟩
    simp only [isobathlaw02_MooringUnique.l2]
    rw [if_pos (by omega), wrap_succ (n := x.length) (by omega) (by omega)]
    cases f with
    | true =>
      rw [if_pos rfl]
      obtain ⟨k', h1, h2⟩ := ih k (m + 1) true (by omega) (by omega) (.inl rfl)
      exact ⟨k', by omega, h2⟩
    | false =>
      rw [if_neg (by decide), if_pos (by omega)]
      obtain ⟨k', h1, h2⟩ := ih k (m + 1) (rd x (m : Int) == (i : Int)) (by omega) (by omega) (by
        rcases hf with h | ⟨p, h3, h4, h5⟩
        · cases h
        · by_cases e : p = m
          · subst e; exact .inl (beq_iff_eq.2 h5)
          · exact .inr ⟨p, by omega, h4, h5⟩)
      exact ⟨k', by omega, h2⟩
theorem Law2.each_l1 {l : List Int} {c d : Int} (h20 : l.length ≤ 20) (he : Cod.err l = 0) (hl : ∀ i : Nat, i < l.length → 0 ≤ rd l (i : Int) ∧ rd l (i : Int) < 65536) (hm : Cod.MinOn l (Cod.all l) d) (hc0 : 0 ≤ c) (hc : c < 65536) (n : Nat) : ∀ (k i : Nat), i + n = l.length → n * 40 + 200 ≤ k →
    isobathlaw02_MooringUnique.l1 k c l d (i : Int) = some true := by
  induction n with
  | zero =>
    intro k i hi hk
    obtain ⟨k, rfl⟩ : ∃ m, k = m + 1 := ⟨k - 1, by omega⟩
    simp only [isobathlaw02_MooringUnique.l1]
    rw [if_neg (by omega), Law2.fine (by omega), Option.bind_some]
  | succ n ih =>
    intro k i hi hk
    obtain ⟨k, rfl⟩ : ∃ m, k = m + 1 := ⟨k - 1, by omega⟩
    have hlt : i < l.length := by omega
    have hr := hl i hlt
    simp only [isobathlaw02_MooringUnique.l1]
    have hx := Cod.xor (a := (rd l (i : Int)).toNat) (b := c.toNat) (by omega) (by omega)
    rw [Int.toNat_of_nonneg hr.1, Int.toNat_of_nonneg hc0] at hx
    rw [if_pos (by omega), if_pos (by omega), wrap_id (n := c) (by omega) (by omega), hx.1]
    generalize hch : (((rd l (i : Int)).toNat ^^^ c.toNat : Nat) : Int) = ch
    have hch0 : 0 ≤ ch ∧ ch < 65536 := by omega
    rw [Cod.refApart hr.1 hr.2 hch0.1 hch0.2 (by omega), Option.bind_some, Cod.answers_f l ch _ (by omega), Option.bind_some]
    have hd := Cod.dist_range (rd l (i : Int)) ch
    have hans : Cod.answers l ch (Cod.dist (rd l (i : Int)) ch) = (Cod.ansTo l ch (Cod.dist (rd l (i : Int)) ch) l.length, 0) := by
      unfold Cod.answers
      rw [if_pos he, if_pos ⟨Cod.okB_iff.2 hch0, hd.1, hd.2⟩]
    rw [hans]
    have hmem := Cod.ansTo_mem (h := ch) (w := Cod.dist (rd l (i : Int)) ch) hlt (Int.le_refl _)
    have hlen := Cod.ansTo_length l ch (Cod.dist (rd l (i : Int)) ch) l.length
    have hu := fun h => Cod.unique (h := ch) (w := Cod.dist (rd l (i : Int)) ch) hm h
    generalize Cod.dist (rd l (i : Int)) ch = bits at *
    generalize Cod.ansTo l ch bits l.length = x at *
    obtain ⟨p, hp1, hp2⟩ := List.mem_iff_getElem.1 hmem
    obtain ⟨k', h1, h2⟩ := Law2.found_l2 (l := l) (x := x) (c := c) (d := d) (bits := bits) (i := i) (by omega) hd.1 hd.2 (fun h => by have := hu h; omega) x.length k 0 false (by omega) (by omega) (.inr ⟨p, by omega, hp1, by rw [rd_nat hp1, hp2]⟩)
    rw [show ((0 : Nat) : Int) = 0 from rfl] at h2
    simp only
    rw [h2, wrap_succ hlt (by omega)]
    exact ih k' (i + 1) (by omega) (by omega)
theorem Law2.unique (l : List Int) (a b c : Int) (hl : ∀ x ∈ l, 0 ≤ x ∧ x < 65536) (ha : 0 ≤ a ∧ a < 65536) (hb : 0 ≤ b ∧ b < 65536) (hc : 0 ≤ c ∧ c < 65536) : isobathlaw02_MooringUnique.f 7100 l a b c = some true := by
  have hj : isobathlaw02_MooringUnique.j0 7100 l a b c true = some true := by
    simp only [isobathlaw02_MooringUnique.j0, if_true]
    rw [Law2.fine (by omega), Option.bind_some]
  unfold isobathlaw02_MooringUnique.f
  by_cases h2 : (l.length : Int) < 2
  · rw [if_pos h2, hj]
  rw [if_neg h2]
  by_cases h3 : (l.length : Int) > 20
  · rw [decide_eq_true h3, hj]
  rw [decide_eq_false h3]
  have hl' : ∀ i : Nat, i < l.length → 0 ≤ rd l (i : Int) ∧ rd l (i : Int) < 65536 := fun i hi => by rw [rd_nat hi]; exact hl _ (List.getElem_mem hi)
  have he : Cod.err l = 0 := by
    unfold Cod.err
    rw [if_neg (by omega), if_pos (List.all_eq_true.2 fun x hx => Cod.okB_iff.2 (hl x hx))]
  simp only [isobathlaw02_MooringUnique.j0]
  rw [if_neg (by decide)]
  obtain ⟨k1, e1, e2⟩ := Law2.copy_l0 (l := l) (by omega) hl' a b c l.length 7099 0 (by omega) (by omega)
  rw [show ((0 : Nat) : Int) = 0 from rfl, List.take_zero] at e2
  rw [e2]
  obtain ⟨d, e, s1, -, s3, s4⟩ := Cod.spacing l (k := k1) (by omega)
  obtain rfl := s4 he (by omega)
  obtain ⟨hm, -, -⟩ := s3 rfl
  have hd := hm.2.1
  have hd1 := hm.1
  rw [s1, Option.bind_some]
  simp only [if_true]
  rw [if_neg (by omega), decide_eq_false (by omega)]
  obtain ⟨k2, rfl⟩ : ∃ m, k1 = m + 1 := ⟨k1 - 1, by omega⟩
  simp only [isobathlaw02_MooringUnique.j2]
  rw [if_neg (by decide), wrap_id (n := a) (by omega) (by omega), wrap_id (n := b) (by omega) (by omega), Int.tmod_eq_emod_of_nonneg hb.1]
  obtain ⟨n, hn⟩ : ∃ n, n = b % 17 := ⟨_, rfl⟩
  have hn0 : 0 ≤ n ∧ n ≤ 16 := by omega
  rw [← hn, wrap_id (n := n + 1) (by omega) (by omega), wrap_id (n := 2 * n) (by omega) (by omega), wrap_id (n := 2 * n + 1) (by omega) (by omega)]
  have hmn : 0 ≤ mn 16 (n + 1) ∧ mn 16 (n + 1) ≤ 16 ∧ n ≤ mn 16 (n + 1) := by
    unfold mn
    by_cases q : n + 1 < 16
    · rw [if_pos q]; omega
    · rw [if_neg q]; omega
  generalize mn 16 (n + 1) = n' at hmn ⊢
  have A1 : Cod.answers l a n = (Cod.ansTo l a n l.length, 0) := by
    unfold Cod.answers
    rw [if_pos he, if_pos ⟨Cod.okB_iff.2 ha, hn0.1, hn0.2⟩]
  have A2 : Cod.answers l a n' = (Cod.ansTo l a n' l.length, 0) := by
    unfold Cod.answers
    rw [if_pos he, if_pos ⟨Cod.okB_iff.2 ha, hmn.1, hmn.2.1⟩]
  rw [Cod.answers_f l a n (by omega), Cod.answers_f l a n' (by omega), A1, A2]
  simp only [Option.bind_some, if_true]
  have M1 := Cod.ansTo_mono (l := l) (h := a) hmn.2.2 l.length
  rw [if_neg (by omega)]
  obtain ⟨k3, rfl⟩ : ∃ m, k2 = m + 1 := ⟨k2 - 1, by omega⟩
  have hj3 : isobathlaw02_MooringUnique.j3 (k3 + 1) c l d false = some true := by
    simp only [isobathlaw02_MooringUnique.j3]
    rw [if_neg (by decide)]
    exact Law2.each_l1 (by omega) he hl' hm hc.1 hc.2 l.length k3 0 (by omega) (by omega)
  by_cases q : 2 * n + 1 ≤ d
  · have hu := Cod.unique (h := a) hm q
    rw [if_pos q, decide_eq_false (by omega), hj3]
  · rw [if_neg q, hj3]
theorem Law2.wf16 {n : Int} (h : (Lit.int .u16 n).wf = true) : 0 ≤ n ∧ n < 65536 := by
  have e : (decide ((0 : Int) ≤ n) && decide (n ≤ 65535)) = true := h
  simp at e
  omega
theorem mooringUnique_holds : Rows.MooringUniqueSaid := mooringUnique.proved fun l a b c hl ha hb hc => ⟨7100, Law2.unique l a b c (fun x hx => Law2.wf16 (hl.2 x hx)) (Law2.wf16 ha) (Law2.wf16 hb) (Law2.wf16 hc)⟩
#print axioms mooringUnique_holds

end Go.Proofs.Ytebcmhajbjkojaa.P
