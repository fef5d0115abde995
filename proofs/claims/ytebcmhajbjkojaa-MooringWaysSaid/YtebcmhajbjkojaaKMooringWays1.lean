/- wherever an object drifts without being found, the cell where it is after each hour is one of Where, or it has left the area, which is told. (as MooringSearches) Part 2 of 7. -/
-- Put together by wip/tools/shake.py, a program of this work: out of the words that the kit's print tool (print.sh) writes for a claim and what wip/tools/xprint.py prints, those that this claim reaches, and this work's own texts.
import Derived.Laws.EntriesVeiled
import Derived.Outline
import Derived.Test.YtebcmhajbjkojaaKMooringWays0
namespace Go.Proofs.Ytebcmhajbjkojaa.P
open Go.RowKit Go.Proofs.YtebcmhajbjkojaaW.PrintWords Go.Proofs.YtebcmhajbjkojaaW.PrintLast Go.Proofs.YtebcmhajbjkojaaW.PrintMore
attribute [local go_sem] max2_int min2_int max_two min_two max_three min_three max_four min_four   -- for this text's walks alone
set_option linter.unusedVariables false
set_option linter.unusedSimpArgs false
def Moor.slo : List S57 → Int
 | [] => 0
 | x :: xs => x.f0 + Moor.slo xs
def Moor.shi : List S57 → Int
 | [] => 0
 | x :: xs => x.f1 + Moor.shi xs
def Moor.most : Int → List S57 → Int
 | m, [] => m
 | m, x :: xs => Moor.most (max m (x.f0 + x.f1)) xs
def Moor.pullsFrom (free : Bool) : Int → Int → Int → List S57 → List S57
 | _, _, _, [] => []
 | lo, hi, m, x :: xs => ⟨if free = true then max 0 (max m (x.f0 + x.f1) - (hi + x.f1)) else lo + x.f0, hi + x.f1⟩ :: Moor.pullsFrom free (lo + x.f0) (hi + x.f1) (max m (x.f0 + x.f1)) xs
def Moor.pulls (free : Bool) (on : List S57) : List S57 := Moor.pullsFrom free 0 0 0 on
theorem Moor.slo_app (a b : List S57) : Moor.slo (a ++ b) = Moor.slo a + Moor.slo b := by
 induction a with
 | nil => simp [Moor.slo]
 | cons x xs ih => rw [List.cons_append, Moor.slo, Moor.slo, ih]; omega
theorem Moor.shi_app (a b : List S57) : Moor.shi (a ++ b) = Moor.shi a + Moor.shi b := by
 induction a with
 | nil => simp [Moor.shi]
 | cons x xs ih => rw [List.cons_append, Moor.shi, Moor.shi, ih]; omega
theorem Moor.most_app (m : Int) (a b : List S57) : Moor.most m (a ++ b) = Moor.most (Moor.most m a) b := by
 induction a generalizing m with
 | nil => rfl
 | cons x xs ih => rw [List.cons_append, Moor.most, Moor.most, ih]
theorem Moor.pullsFrom_app (free : Bool) (lo hi m : Int) (a b : List S57) : Moor.pullsFrom free lo hi m (a ++ b) = Moor.pullsFrom free lo hi m a ++ Moor.pullsFrom free (lo + Moor.slo a) (hi + Moor.shi a) (Moor.most m a) b := by
 induction a generalizing lo hi m with
 | nil => simp [Moor.pullsFrom, Moor.slo, Moor.shi, Moor.most]
 | cons x xs ih => rw [List.cons_append, Moor.pullsFrom, Moor.pullsFrom, ih, Moor.slo, Moor.shi, Moor.most, List.cons_append, Int.add_assoc, Int.add_assoc]
theorem Moor.pullsFrom_length (free : Bool) (lo hi m : Int) (a : List S57) : (Moor.pullsFrom free lo hi m a).length = a.length := by
 induction a generalizing lo hi m with
 | nil => rfl
 | cons x xs ih => rw [Moor.pullsFrom, List.length_cons, List.length_cons, ih]
theorem Moor.pulls_length (free : Bool) (a : List S57) : (Moor.pulls free a).length = a.length := Moor.pullsFrom_length free 0 0 0 a
theorem take_snoc' {α : Type} {xs : List α} {i : Nat} {x : α} (h : xs[i]? = some x) : xs.take (i + 1) = xs.take i ++ [x] := by
 obtain ⟨h1, h2⟩ := List.getElem?_eq_some_iff.1 h
 rw [take_snoc h1, h2]
theorem Moor.pulls_take {on : List S57} {i : Nat} {x : S57} (free : Bool) (h : on[i]? = some x) : Moor.pulls free (on.take (i + 1)) = Moor.pulls free (on.take i) ++ [⟨if free = true then max 0 (max (Moor.most 0 (on.take i)) (x.f0 + x.f1) - (Moor.shi (on.take i) + x.f1)) else Moor.slo (on.take i) + x.f0, Moor.shi (on.take i) + x.f1⟩] := by
 unfold Moor.pulls
 rw [take_snoc' h, Moor.pullsFrom_app]
 simp [Moor.pullsFrom]
theorem Moor.slo_take {on : List S57} {i : Nat} {x : S57} (h : on[i]? = some x) : Moor.slo (on.take (i + 1)) = Moor.slo (on.take i) + x.f0 := by
 rw [take_snoc' h, Moor.slo_app]
 simp [Moor.slo]
theorem Moor.shi_take {on : List S57} {i : Nat} {x : S57} (h : on[i]? = some x) : Moor.shi (on.take (i + 1)) = Moor.shi (on.take i) + x.f1 := by
 rw [take_snoc' h, Moor.shi_app]
 simp [Moor.shi]
theorem Moor.most_take {on : List S57} {i : Nat} {x : S57} (h : on[i]? = some x) : Moor.most 0 (on.take (i + 1)) = max (Moor.most 0 (on.take i)) (x.f0 + x.f1) := by
 rw [take_snoc' h, Moor.most_app]
 rfl
def Moor.onB (x : S57) : Prop := 0 ≤ x.f0 ∧ x.f0 ≤ x.f1 ∧ x.f1 ≤ 600000
theorem Moor.slo_bound {on : List S57} (h : ∀ x ∈ on, Moor.onB x) : 0 ≤ Moor.slo on ∧ Moor.slo on ≤ 600000 * (on.length : Int) ∧ 0 ≤ Moor.shi on ∧ Moor.shi on ≤ 600000 * (on.length : Int) ∧ Moor.slo on ≤ Moor.shi on := by
 induction on with
 | nil => simp [Moor.slo, Moor.shi]
 | cons x xs ih =>
  have h1 := h x List.mem_cons_self
  have h2 := ih (fun y hy => h y (List.mem_cons_of_mem _ hy))
  unfold Moor.onB at h1
  rw [Moor.slo, Moor.shi, List.length_cons]
  omega
theorem Moor.most_bound {on : List S57} (h : ∀ x ∈ on, Moor.onB x) (m : Int) (h0 : 0 ≤ m) (h1 : m ≤ 1200000) : 0 ≤ Moor.most m on ∧ Moor.most m on ≤ 1200000 := by
 induction on generalizing m with
 | nil => exact ⟨h0, h1⟩
 | cons x xs ih =>
  have h2 := h x List.mem_cons_self
  unfold Moor.onB at h2
  exact ih (fun y hy => h y (List.mem_cons_of_mem _ hy)) _ (by omega) (by omega)
theorem Moor.force_onB {e : S46} {s : S57} (h : Moor.elB e = true) (hs : Moor.curB s = true) : Moor.onB (Moor.force e s) := by
 have h1 := Moor.elB_iff.1 h
 unfold Moor.curB at hs
 simp at hs
 obtain ⟨h2, h3, h4⟩ := hs
 have PB0 := Moor.prod_bound (a := e.f2) (b := s.f0) (by omega) (by omega) (by omega) (by omega)
 have PB1 := Moor.prod_bound (a := e.f2) (b := s.f1) (by omega) (by omega) (by omega) (by omega)
 have h5 : e.f2 * s.f0 ≤ e.f2 * s.f1 := Int.mul_le_mul_of_nonneg_left h2 (by omega)
 have h6 : e.f2 * s.f0 * s.f0 ≤ e.f2 * s.f1 * s.f1 := Int.mul_le_mul h5 h2 (by omega) (by omega)
 unfold Moor.onB Moor.force
 simp only
 omega
theorem Moor.on_onB {els : List S46} {cs : List S57} (h : ∀ e ∈ els, Moor.elB e = true) (hs : cs.all Moor.curB = true) : ∀ x ∈ Moor.on els cs, Moor.onB x := by
 induction els generalizing cs with
 | nil => intro x hx; simp [Moor.on] at hx
 | cons e es ih =>
  cases cs with
  | nil => intro x hx; simp [Moor.on] at hx
  | cons s ss =>
   rw [List.all_cons, Bool.and_eq_true] at hs
   intro x hx
   have hx' : x ∈ Moor.force e s :: Moor.on es ss := hx
   rcases List.mem_cons.1 hx' with rfl | hx'
   ·exact Moor.force_onB (h e List.mem_cons_self) hs.1
   exact ih (fun y hy => h y (List.mem_cons_of_mem _ hy)) hs.2 x hx'
def mooring_rounds_1.l0 : Nat → Int → Int → Int → Option (Int)
 | 0, _, _, _ => none
 | k + 1, x0, x3, x4 => if x4 > 0 then (if (wrap64 ((wrap64 (x3 + x4)) * (wrap64 (x3 + x4)))) ≤ x0 then (mooring_rounds_1.l0 k x0 (wrap64 (x3 + x4)) (wrap64 (Int.tdiv x4 2))) else (mooring_rounds_1.l0 k x0 x3 (wrap64 (Int.tdiv x4 2)))) else (some x3)
def mooring_rounds_1.f (k : Nat) (a0 : Int) : Option (Int) := mooring_rounds_1.l0 k a0 0 1073741824
set_option maxHeartbeats 8000000 in
set_option maxRecDepth 100000 in
theorem mooring_rounds_1.calls (k : Nat) (a0 : Int) (r : Int) (w : World) (h : mooring_rounds_1.f k a0 = some r) :
  Calls Try.prog 97 #[.int .i64 a0] w fun e w' => e = .returned (.int .i64 r) ∧ Drawn0 w w' := by
 have H : (mooring_rounds_1.l0 k a0 0 1073741824) = some r := h
 clear h
 have H' := zam H
 clear H
 go_enter Try.func97, Try.ntmps97
 go_wp2
 go_loopg [3, 4] k (fun kq v3 v4 w' => ∃ (x3_1 : Int) (x4_1 : Int), v3 = .int .i64 x3_1 ∧ v4 = .int .i64 x4_1 ∧ Aside0 (mooring_rounds_1.l0 kq a0 x3_1 x4_1 = some r) ∧ Aside0 (kq ≤ k) ∧ Drawn0 w w')
 case atStart => exact ⟨(0), (1073741824), (by first | rfl | (simp; done) | (simp [*]; done)), (by first | rfl | (simp; done) | (simp [*]; done)), H', ⟨Nat.le_refl _⟩, by repeat (first | exact Drawn0.refl _ | apply Drawn0.step)⟩
 case round =>
  clear H'
  obtain ⟨x3_1, x4_1, rfl, rfl, HA, HK1, ⟨m1, rfl⟩⟩ := hrel
  cases gk with
  | zero => exact absurd HA.out (by simp [mooring_rounds_1.l0])
  | succ k1 =>
   have H := HA.out
   clear HA
   simp only [mooring_rounds_1.l0] at H
   by_cases c2 : x4_1 > 0
   ·rw [if_pos c2] at H
    have c2b0 : decide (0 < x4_1) = true := zdt c2
    clear c2
    by_cases c3 : (wrap64 ((wrap64 (x3_1 + x4_1)) * (wrap64 (x3_1 + x4_1)))) ≤ a0
    ·rw [if_pos c3] at H
     have c3b0 : decide ((wrap64 ((wrap64 (x3_1 + x4_1)) * (wrap64 (x3_1 + x4_1)))) ≤ a0) = true := zdt c3
     clear c3
     have H' := zam H
     clear H
     go_wp2
     go_roundg k1
     case measure => have := HK1.out; omega
     case rel => exact ⟨(wrap64 (x3_1 + x4_1)), (wrap64 (Int.tdiv x4_1 2)), (by first | rfl | (simp; done) | (simp [*]; done)), (by first | rfl | (simp; done) | (simp [*]; done)), H', ⟨by have := HK1.out; omega⟩, by repeat (first | exact Drawn0.refl _ | apply Drawn0.step)⟩
    rw [if_neg c3] at H
    have c3b0 : decide ((wrap64 ((wrap64 (x3_1 + x4_1)) * (wrap64 (x3_1 + x4_1)))) ≤ a0) = false := zdf c3
    clear c3
    have H' := zam H
    clear H
    go_wp2
    go_roundg k1
    case measure => have := HK1.out; omega
    case rel => exact ⟨(x3_1), (wrap64 (Int.tdiv x4_1 2)), (by first | rfl | (simp; done) | (simp [*]; done)), (by first | rfl | (simp; done) | (simp [*]; done)), H', ⟨by have := HK1.out; omega⟩, by repeat (first | exact Drawn0.refl _ | apply Drawn0.step)⟩
   rw [if_neg c2] at H
   have c2b0 : decide (0 < x4_1) = false := zdf c2
   clear c2
   obtain rfl := zsi H
   go_wp2
   go_ret
   exact ⟨by first | rfl | (simp; done) | (simp [*]; done), by repeat (first | exact Drawn0.refl _ | apply Drawn0.step)⟩
def Moor.IsRoot (n r : Int) : Prop := 0 ≤ r ∧ r * r ≤ n ∧ n < (r + 1) * (r + 1)
theorem sq_le_sq {a b : Int} (h : 0 ≤ a) (h1 : a ≤ b) : a * a ≤ b * b := Int.mul_le_mul h1 h1 h (by omega)
theorem lt_of_sq {a b : Int} (hb : 0 ≤ b) (h : a * a < b * b) : a < b := by
 by_cases h1 : a < b
 ·exact h1
 have := sq_le_sq hb (show b ≤ a by omega)
 omega
theorem Moor.IsRoot.unique {n r s : Int} (h : Moor.IsRoot n r) (h' : Moor.IsRoot n s) : r = s := by
 obtain ⟨a1, a2, a3⟩ := h
 obtain ⟨b1, b2, b3⟩ := h'
 have h1 := lt_of_sq (a := r) (b := s + 1) (by omega) (by omega)
 have h2 := lt_of_sq (a := s) (b := r + 1) (by omega) (by omega)
 omega
theorem Moor.IsRoot.small {n r : Int} (h : Moor.IsRoot n r) (hn : n < 1152921504606846976) : r < 1073741824 :=
 lt_of_sq (by omega) (by have := h.2.1; omega)
theorem Moor.root_l0 {n : Int} (hn : n < 1152921504606846976) (j : Nat) : ∀ (k : Nat) (r : Int), 0 ≤ r → r * r ≤ n → j ≤ 30 → n < (r + 2 * 2 ^ j) * (r + 2 * 2 ^ j) → j + 2 ≤ k →
  ∃ s, mooring_rounds_1.l0 k n r ((2 : Int) ^ j) = some s ∧ Moor.IsRoot n s := by
 induction j with
 | zero =>
  intro k r h0 h1 _ h2 hk
  obtain ⟨k, rfl⟩ : ∃ m, k = m + 2 := ⟨k - 2, by omega⟩
  have hr : r < 1073741824 := lt_of_sq (by omega) (by omega)
  simp only [mooring_rounds_1.l0, Int.pow_zero]
  have e1 : wrap64 (r + 1) = r + 1 := wrap_id (by omega) (by omega)
  have hq := sq_le_sq (a := r + 1) (b := 1073741824) (by omega) (by omega)
  have hp := sq_le_sq (a := 0) (b := r + 1) (by omega) (by omega)
  have e2 : wrap64 ((r + 1) * (r + 1)) = (r + 1) * (r + 1) := wrap_id (by omega) (by omega)
  have e3 : wrap64 (Int.tdiv 1 2) = 0 := by
   rw [tdiv_pos (by omega)]
   unfold wrap64
   omega
  rw [e1, e2, e3, if_pos (show (1 : Int) > 0 by omega)]
  rw [if_neg (show ¬ (0 : Int) > 0 by omega), if_neg (show ¬ (0 : Int) > 0 by omega)]
  by_cases c : (r + 1) * (r + 1) ≤ n
  ·rw [if_pos c]
   exact ⟨_, rfl, by omega, c, by simpa [Int.add_assoc] using h2⟩
  rw [if_neg c]
  exact ⟨_, rfl, h0, h1, by omega⟩
 | succ j ih =>
  intro k r h0 h1 hj h2 hk
  obtain ⟨k, rfl⟩ : ∃ m, k = m + 1 := ⟨k - 1, by omega⟩
  have hr : r < 1073741824 := lt_of_sq (by omega) (by omega)
  have hp2 : (2 : Int) ^ (j + 1) = 2 * 2 ^ j := by rw [Int.pow_succ]; omega
  have hpos : (0 : Int) < 2 ^ j := Int.pow_pos (by omega)
  have hle : (2 : Int) ^ j ≤ 2 ^ 29 := by
   have := Nat.pow_le_pow_right (n := 2) (by omega) (show j ≤ 29 by omega)
   exact_mod_cast this
  have h29 : (2 : Int) ^ 29 = 536870912 := by decide
  rw [hp2] at h2 ⊢
  simp only [mooring_rounds_1.l0]
  generalize hb : (2 : Int) ^ j = b at *
  have e1 : wrap64 (r + 2 * b) = r + 2 * b := wrap_id (by omega) (by omega)
  have hq := sq_le_sq (a := r + 2 * b) (b := 2147483648) (by omega) (by omega)
  have hp := sq_le_sq (a := 0) (b := r + 2 * b) (by omega) (by omega)
  have e2 : wrap64 ((r + 2 * b) * (r + 2 * b)) = (r + 2 * b) * (r + 2 * b) := wrap_id (by omega) (by omega)
  have e3 : wrap64 (Int.tdiv (2 * b) 2) = b := by
   rw [tdiv_pos (by omega), wrap_id (by omega) (by omega)]
   omega
  rw [e1, e2, e3, if_pos (show 2 * b > 0 by omega)]
  by_cases c : (r + 2 * b) * (r + 2 * b) ≤ n
  ·rw [if_pos c]
   exact ih k (r + 2 * b) (by omega) c (by omega) (by
    have e : r + 2 * b + 2 * b = r + 2 * (2 * b) := by omega
    rw [e]
    exact h2) (by omega)
  rw [if_neg c]
  exact ih k r h0 h1 (by omega) (by omega) (by omega)
theorem Moor.root_ex {n : Int} (h0 : 0 ≤ n) (hn : n < 1152921504606846976) {k : Nat} (hk : 32 ≤ k) : ∃ s, mooring_rounds_1.f k n = some s ∧ Moor.IsRoot n s := by
 have h := Moor.root_l0 hn 30 k 0 (Int.le_refl _) (by omega) (by omega) (by
  have e : (0 + 2 * 2 ^ 30 : Int) * (0 + 2 * 2 ^ 30) = 4611686018427387904 := by decide
  rw [e]
  omega) (by omega)
 have e : (2 : Int) ^ 30 = 1073741824 := by decide
 rw [e] at h
 exact h
def Moor.root (n : Int) : Int := (mooring_rounds_1.f 32 n).getD 0
theorem Moor.root_is {n : Int} (h0 : 0 ≤ n) (hn : n < 1152921504606846976) : Moor.IsRoot n (Moor.root n) := by
 obtain ⟨s, h1, h2⟩ := Moor.root_ex h0 hn (Nat.le_refl 32)
 unfold Moor.root
 rw [h1]
 exact h2
theorem Moor.root_f {n : Int} (h0 : 0 ≤ n) (hn : n < 1152921504606846976) {k : Nat} (hk : 32 ≤ k) : mooring_rounds_1.f k n = some (Moor.root n) := by
 obtain ⟨s, h1, h2⟩ := Moor.root_ex h0 hn hk
 rw [h1, h2.unique (Moor.root_is h0 hn)]
def Moor.rootUp (n : Int) : Int := if Moor.root n * Moor.root n < n then Moor.root n + 1 else Moor.root n
theorem Moor.rootUp_is {n : Int} (h0 : 0 ≤ n) (hn : n < 1152921504606846976) : Moor.root n ≤ Moor.rootUp n ∧ Moor.rootUp n ≤ Moor.root n + 1 ∧ n ≤ Moor.rootUp n * Moor.rootUp n := by
 obtain ⟨h1, h2, h3⟩ := Moor.root_is h0 hn
 unfold Moor.rootUp
 by_cases c : Moor.root n * Moor.root n < n
 ·rw [if_pos c]; omega
 rw [if_neg c]; omega
theorem Moor.root_pos {n : Int} (h0 : 1 ≤ n) (hn : n < 1152921504606846976) : 1 ≤ Moor.root n ∧ Moor.root n < 1073741824 := by
 have h := Moor.root_is (n := n) (by omega) hn
 refine ⟨?_, h.small hn⟩
 obtain ⟨h1, h2, h3⟩ := h
 by_cases c : 1 ≤ Moor.root n
 ·exact c
 have e : Moor.root n = 0 := by omega
 rw [e] at h3
 omega
theorem Moor.rootUp_wrap {n : Int} (h0 : 0 ≤ n) (hn : n < 1152921504606846976) : (if wrap64 (Moor.root n * Moor.root n) < n then wrap64 (Moor.root n + 1) else Moor.root n) = Moor.rootUp n := by
 have h := Moor.root_is h0 hn
 have h1 := h.small hn
 obtain ⟨h2, h3, _⟩ := h
 have hp := sq_le_sq (a := 0) (b := Moor.root n) (by omega) h2
 rw [wrap_id (n := Moor.root n * Moor.root n) (by omega) (by omega), wrap_id (n := Moor.root n + 1) (by omega) (by omega)]
 rfl
def Moor.sqL (p : S57) (v : Int) : Int := p.f0 * p.f0 + v * v
def Moor.sqH (p : S57) (v : Int) : Int := p.f1 * p.f1 + v * v
def Moor.okB (p : S57) (v : Int) : Prop := 0 ≤ p.f0 ∧ p.f0 ≤ p.f1 ∧ p.f1 ≤ 24000000 ∧ 1 ≤ v ∧ v ≤ 41943040
def Moor.rise (l : Int) (p : S57) (v : Int) : S57 := ⟨l * v / Moor.rootUp (Moor.sqH p v), min l ((l * v + Moor.root (Moor.sqL p v) - 1) / Moor.root (Moor.sqL p v))⟩
theorem Moor.sq_bound {p : S57} {v : Int} (h : Moor.okB p v) : 1 ≤ v * v ∧ v * v ≤ 1759218604441600 ∧ 0 ≤ p.f0 * p.f0 ∧ p.f0 * p.f0 ≤ p.f1 * p.f1 ∧ p.f1 * p.f1 ≤ 576000000000000 := by
 obtain ⟨h1, h2, h3, h4, h5⟩ := h
 have a1 := sq_le_sq (a := 1) (b := v) (by omega) h4
 have a2 := sq_le_sq (a := v) (b := 41943040) (by omega) h5
 have a3 := sq_le_sq (a := 0) (b := p.f0) (by omega) h1
 have a4 := sq_le_sq h1 h2
 have a5 := sq_le_sq (a := p.f1) (b := 24000000) (by omega) h3
 omega
theorem Moor.sq_range {p : S57} {v : Int} (h : Moor.okB p v) : 1 ≤ Moor.sqL p v ∧ Moor.sqL p v < 1152921504606846976 ∧ 1 ≤ Moor.sqH p v ∧ Moor.sqH p v < 1152921504606846976 ∧ Moor.sqL p v ≤ Moor.sqH p v := by
 have := Moor.sq_bound h
 unfold Moor.sqL Moor.sqH
 omega
theorem Moor.sqL_wrap {p : S57} {v : Int} (h : Moor.okB p v) : wrap64 (wrap64 (p.f0 * p.f0) + wrap64 (v * v)) = Moor.sqL p v := by
 have := Moor.sq_bound h
 rw [wrap_id (n := p.f0 * p.f0) (by omega) (by omega), wrap_id (n := v * v) (by omega) (by omega), wrap_id (by omega) (by omega)]
 rfl
theorem Moor.sqH_wrap {p : S57} {v : Int} (h : Moor.okB p v) : wrap64 (wrap64 (p.f1 * p.f1) + wrap64 (v * v)) = Moor.sqH p v := by
 have := Moor.sq_bound h
 rw [wrap_id (n := p.f1 * p.f1) (by omega) (by omega), wrap_id (n := v * v) (by omega) (by omega), wrap_id (by omega) (by omega)]
 rfl
theorem Moor.lo_f {a b : Int} (h : 0 ≤ a) (h1 : a ≤ 9223372036854775807) (hb : 1 ≤ b) : mooring_rounds_2.f a b = some (a / b) := by
 have h2 : a / b ≤ a := Int.ediv_le_self _ h
 have h3 : 0 ≤ a / b := Int.ediv_nonneg h (by omega)
 unfold mooring_rounds_2.f
 rw [if_neg (by omega), tdiv_pos h, wrap_id (by omega) (by omega)]
theorem Moor.hi_f {a b : Int} (h : 0 ≤ a) (h1 : a ≤ 1152921504606846976) (hb : 1 ≤ b) (h2 : b ≤ 1152921504606846976) : mooring_rounds_3.f a b = some ((a + b - 1) / b) := by
 have h4 : (a + b - 1) / b ≤ a + b - 1 := Int.ediv_le_self _ (by omega)
 have h3 : 0 ≤ (a + b - 1) / b := Int.ediv_nonneg (by omega) (by omega)
 unfold mooring_rounds_3.f
 rw [if_neg (by omega), wrap_id (n := a + b) (by omega) (by omega), wrap_id (n := a + b - 1) (by omega) (by omega), tdiv_pos (by omega), wrap_id (by omega) (by omega)]
theorem Moor.prod_range {l x : Int} (h0 : 0 ≤ l) (h1 : l ≤ 1048576) (h2 : 0 ≤ x) (h3 : x ≤ 41943040) : 0 ≤ l * x ∧ l * x ≤ 43980465111040 := by
 have a1 := Int.mul_nonneg h0 h2
 have a2 : l * x ≤ 1048576 * 41943040 := Int.mul_le_mul h1 h3 h2 (by omega)
 omega
theorem Moor.liftsFrom_bound {els : List S46} (h : ∀ e ∈ els, Moor.elB e = true) (s : Int) : ∀ v ∈ Moor.liftsFrom s els, v ≤ s + 1048576 * (els.length : Int) := by
 induction els generalizing s with
 | nil => intro v hv; cases hv
 | cons e es ih =>
  intro v hv
  have h1 := Moor.elB_iff.1 (h e List.mem_cons_self)
  rw [List.length_cons]
  rcases List.mem_cons.1 hv with rfl | hv
  ·have : (0 : Int) ≤ es.length := by omega
   omega
  have := ih (fun x hx => h x (List.mem_cons_of_mem _ hx)) (s + e.f1) v hv
  omega
theorem Moor.lifts_range {els : List S46} (h : ∀ e ∈ els, Moor.elB e = true) (hl : els.length ≤ 40) (hs : Moor.stands els = true) : ∀ v ∈ Moor.lifts els, 1 ≤ v ∧ v ≤ 41943040 := by
 intro v hv
 have h1 := Moor.liftsFrom_bound h 0 v hv
 unfold Moor.stands at hs
 have h2 := List.all_eq_true.1 hs v hv
 simp only [decide_eq_true_eq] at h2
 omega
theorem Moor.pullsFrom_range {free : Bool} {on : List S57} (h : ∀ x ∈ on, Moor.onB x) (lo hi m : Int) (h0 : 0 ≤ lo) (h1 : lo ≤ hi) (h2 : m ≤ 2 * hi) : ∀ p ∈ Moor.pullsFrom free lo hi m on, 0 ≤ p.f0 ∧ p.f0 ≤ p.f1 ∧ p.f1 ≤ hi + 600000 * (on.length : Int) := by
 induction on generalizing lo hi m with
 | nil => intro p hp; cases hp
 | cons x xs ih =>
  intro p hp
  have hx := h x List.mem_cons_self
  unfold Moor.onB at hx
  rw [List.length_cons]
  rcases List.mem_cons.1 hp with rfl | hp
  ·have hn : (0 : Int) ≤ xs.length := by omega
   cases free with
   | true => simp only [if_true]; omega
   | false => simp only [Bool.false_eq_true, if_false]; omega
  have := ih (fun y hy => h y (List.mem_cons_of_mem _ hy)) (lo + x.f0) (hi + x.f1) (max m (x.f0 + x.f1)) (by omega) (by omega) (by omega) p hp
  omega
theorem Moor.pulls_range {free : Bool} {on : List S57} (h : ∀ x ∈ on, Moor.onB x) (hl : on.length ≤ 40) : ∀ p ∈ Moor.pulls free on, 0 ≤ p.f0 ∧ p.f0 ≤ p.f1 ∧ p.f1 ≤ 24000000 := by
 intro p hp
 have := Moor.pullsFrom_range h 0 0 0 (by omega) (by omega) (by omega) p hp
 omega
def Moor.riseAt (els : List S46) (ps : List S57) (li : List Int) (i : Nat) : S57 := Moor.rise (rd_T46 els (i : Int)).f0 (rd_T57 ps (i : Int)) (rd li (i : Int))
def Moor.list (val : Nat → S57) (n : Nat) : List S57 := (List.range n).map val
theorem Moor.list_succ (val : Nat → S57) (n : Nat) : Moor.list val (n + 1) = Moor.list val n ++ [val n] := by
 unfold Moor.list
 rw [List.range_succ, List.map_append]
 rfl
theorem Moor.list_length (val : Nat → S57) (n : Nat) : (Moor.list val n).length = n := by
 unfold Moor.list
 rw [List.length_map, List.length_range]
theorem Moor.list_small {val : Nat → S57} {j n : Nat} (h : n ≤ 40) (hj : j < n) : ((Moor.list val j).length + 1) * 16 ≤ 140737488355328 := by
 rw [Moor.list_length]
 omega
def Moor.midB (x : S57) : Prop := 0 ≤ x.f0 ∧ x.f0 ≤ 70368744177664 ∧ 0 ≤ x.f1 ∧ x.f1 ≤ 70368744177664
theorem Moor.mid_bound {on : List S57} (h : ∀ x ∈ on, Moor.midB x) : 0 ≤ Moor.slo on ∧ Moor.slo on ≤ 70368744177664 * (on.length : Int) ∧ 0 ≤ Moor.shi on ∧ Moor.shi on ≤ 70368744177664 * (on.length : Int) := by
 induction on with
 | nil => simp [Moor.slo, Moor.shi]
 | cons x xs ih =>
  have h1 := h x List.mem_cons_self
  have h2 := ih (fun y hy => h y (List.mem_cons_of_mem _ hy))
  unfold Moor.midB at h1
  rw [Moor.slo, Moor.shi, List.length_cons]
  omega
theorem Moor.rise_mid {l v : Int} {p : S57} (hl0 : 0 ≤ l) (hl1 : l ≤ 1048576) (hb : Moor.okB p v) : Moor.midB (Moor.rise l p v) := by
 obtain ⟨r1, r2, r3, r4, _⟩ := Moor.sq_range hb
 obtain ⟨b1, b2, b3, b4, b5⟩ := hb
 have m := Moor.prod_range hl0 hl1 (x := v) (by omega) (by omega)
 have u1 := Moor.root_pos (n := Moor.sqL p v) (by omega) (by omega)
 have u2 := Moor.rootUp_is (n := Moor.sqH p v) (by omega) (by omega)
 have u3 := Moor.root_pos (n := Moor.sqH p v) (by omega) (by omega)
 have e1 := Int.ediv_nonneg (a := l * v) (b := Moor.rootUp (Moor.sqH p v)) (by omega) (by omega)
 have e2 := Int.ediv_le_self (a := l * v) (Moor.rootUp (Moor.sqH p v)) (by omega)
 have e3 := Int.ediv_nonneg (a := l * v + Moor.root (Moor.sqL p v) - 1) (b := Moor.root (Moor.sqL p v)) (by omega) (by omega)
 unfold Moor.midB Moor.rise
 simp only
 omega
structure Moor.Ok (d : Int) (els : List S46) (an fr : Int) (cs : List S57) : Prop where
 n40 : els.length ≤ 40
 n0 : 0 < els.length
 elok : ∀ e ∈ els, Moor.elB e = true
 len : cs.length = els.length
 cur : cs.all Moor.curB = true
 chk : Moor.chk d els an fr = 0
theorem Moor.err_ok {d an fr : Int} {els : List S46} {cs : List S57} {stand : Bool} (h : Moor.err d els an fr cs stand = 0) : Moor.Ok d els an fr cs ∧ (stand = true → Moor.stands els = true) := by
 unfold Moor.err at h
 by_cases h1 : Moor.chk d els an fr = 0
 ·rw [if_neg (by simpa using h1)] at h
  obtain ⟨h40, hn0, _, _, _, _, _, _, hel⟩ := Moor.chk_ok h1
  by_cases h2 : cs.length = els.length
  ·rw [if_neg (by simpa using h2)] at h
   unfold Moor.err2 at h
   by_cases h3 : cs.all Moor.curB = true
   ·rw [if_pos h3] at h
    refine ⟨⟨h40, hn0, hel, h2, h3, h1⟩, fun hs => ?_⟩
    by_cases h4 : stand = true ∧ Moor.stands els = false
    ·rw [if_pos h4] at h; cases h
    cases h5 : Moor.stands els with
    | true => rfl
    | false => exact absurd ⟨hs, h5⟩ h4
   rw [if_neg h3] at h; cases h
  rw [if_pos h2] at h; cases h
 rw [if_pos h1] at h; exact absurd h h1
theorem Moor.Ok.onlen {d an fr : Int} {els : List S46} {cs : List S57} (h : Moor.Ok d els an fr cs) : (Moor.on els cs).length = els.length := Moor.on_length h.len
theorem Moor.Ok.pulllen {d an fr : Int} {els : List S46} {cs : List S57} (h : Moor.Ok d els an fr cs) (free : Bool) : (Moor.pulls free (Moor.on els cs)).length = els.length := by rw [Moor.pulls_length, h.onlen]
theorem Moor.Ok.at {d an fr : Int} {els : List S46} {cs : List S57} (h : Moor.Ok d els an fr cs) (hs : Moor.stands els = true) (free : Bool) {i : Nat} (hi : i < els.length) :
  els[i]? = some (rd_T46 els (i : Int)) ∧ (Moor.pulls free (Moor.on els cs))[i]? = some (rd_T57 (Moor.pulls free (Moor.on els cs)) (i : Int)) ∧ (Moor.lifts els)[i]? = some (rd (Moor.lifts els) (i : Int)) ∧ Moor.okB (rd_T57 (Moor.pulls free (Moor.on els cs)) (i : Int)) (rd (Moor.lifts els) (i : Int)) ∧ 0 ≤ (rd_T46 els (i : Int)).f0 ∧ (rd_T46 els (i : Int)).f0 ≤ 1048576 := by
 have hp : i < (Moor.pulls free (Moor.on els cs)).length := by rw [h.pulllen]; exact hi
 have hl : i < (Moor.lifts els).length := by rw [Moor.lifts_length]; exact hi
 rw [Moor.rdE hi, Moor.rdS hp, rd_nat hl]
 have h1 := Moor.pulls_range (free := free) (Moor.on_onB h.elok h.cur) (by rw [h.onlen]; exact h.n40) _ (List.getElem_mem hp)
 have h2 := Moor.lifts_range h.elok h.n40 hs _ (List.getElem_mem hl)
 have h3 := Moor.elB_iff.1 (h.elok _ (List.getElem_mem hi))
 exact ⟨List.getElem?_eq_getElem hi, List.getElem?_eq_getElem hp, List.getElem?_eq_getElem hl, ⟨h1.1, h1.2.1, h1.2.2, h2.1, h2.2⟩, h3.1, h3.2.1⟩
theorem Moor.Ok.rises_mid {d an fr : Int} {els : List S46} {cs : List S57} (h : Moor.Ok d els an fr cs) (hs : Moor.stands els = true) (free : Bool) : ∀ x ∈ Moor.list (Moor.riseAt els (Moor.pulls free (Moor.on els cs)) (Moor.lifts els)) els.length, Moor.midB x := by
 intro x hx
 unfold Moor.list at hx
 obtain ⟨i, hi, rfl⟩ := List.mem_map.1 hx
 obtain ⟨-, -, -, h4, h5, h6⟩ := h.at hs free (List.mem_range.1 hi)
 exact Moor.rise_mid h5 h6 h4
def mooring_from.f (a0 : Int) (a1_0 : Int) (a1_1 : Int) : Option (Int × Int) := some (wrap64 (a0 - a1_1), wrap64 (a0 - a1_0))
set_option maxHeartbeats 8000000 in
set_option maxRecDepth 100000 in
theorem mooring_from.calls (a0 : Int) (a1_0 : Int) (a1_1 : Int) (r1 : Int) (r2 : Int) (w : World) (h : mooring_from.f a0 a1_0 a1_1 = some (r1, r2)) :
  Calls Try.prog 73 #[.int .i64 a0, .agg #[.int .i64 a1_0, .int .i64 a1_1]] w fun e w' => e = .returned (.agg #[.int .i64 r1, .int .i64 r2]) ∧ Below w.heap.size w w' := by
 have hu57 := Try.underlying57
 have HB := zam (Below.refl w.heap.size w)
 have H : (some (wrap64 (a0 - a1_1), wrap64 (a0 - a1_0))) = some (r1, r2) := h
 clear h
 simp only [Option.some.injEq, Prod.mk.injEq] at H
 obtain ⟨rfl, rfl⟩ := H
 go_enter Try.func73, Try.ntmps73
 go_wp2_with (first | ((with_reducible refine zgd (N := 3) rfl ?_); refine box_event ?hg (N := 3) ?hd (cs := #[.int .i64 a1_0, .int .i64 a1_1]) (t := 57) ?hr ?_; (case hd => rfl); (case hg => rfl); (case hr => first | (go_simp; done) | (go_simp; rfl)); intro gb101 hg w3 hbox hb; have n0_ := zam (zbt (by repeat (first | (with_reducible first | exact HB.out | apply zba | apply zbn | apply zb1) | exact HB.out)) hb); have n1_ := zam (hbox); have n2_ := zam ((by rw [hg]; exact (zbz (by repeat (first | (with_reducible first | exact HB.out | apply zba | apply zbn | apply zb1) | exact HB.out))) : w.heap.size ≤ gb101)); have n3_ := zam ((by rw [hg]; exact (zbz (by repeat (first | (with_reducible first | exact HB.out | apply zba | apply zbn | apply zb1) | exact HB.out))) : w.heap.size ≤ gb101)); clear HB; have HB := n0_; have BK101 := n1_; have GW101 := n2_; have GE101 := n3_; clear n0_ n1_ n2_ n3_; clear hb hbox hg) | ((with_reducible refine zgd (N := 4) rfl ?_); refine box_event ?hg (N := 4) ?hd (cs := #[.int .i64 0, .int .i64 0]) (t := 57) ?hr ?_; (case hd => rfl); (case hg => rfl); (case hr => first | (go_simp; done) | (go_simp; rfl)); intro gb102 hg w4 hbox hb; have n0_ := zam (zkb (g := gb101) (o := .cells #[.int .i64 a1_0, .int .i64 a1_1] 57 (0, 0)) (by (with_reducible repeat (first | refine zkn ?_ _ | refine zkd ?_ | refine zka ?_ _)); exact BK101.out) hb); have n1_ := zam (zbt (by repeat (first | (with_reducible first | exact HB.out | apply zba | apply zbn | apply zb1 | refine zbs ?_ GE101.out) | exact HB.out)) hb); have n2_ := zam (hbox); have n3_ := zam ((by rw [hg]; exact (zbz (by repeat (first | (with_reducible first | exact HB.out | apply zba | apply zbn | apply zb1 | refine zbs ?_ GE101.out) | exact HB.out))) : w.heap.size ≤ gb102)); have n4_ := zam ((by rw [hg]; exact (zbz (by repeat (first | (with_reducible first | exact HB.out | apply zba | apply zbn | apply zb1 | refine zbs ?_ GE101.out) | exact HB.out))) : w.heap.size ≤ gb102)); have n5_ := zam ((by rw [hg]; exact Nat.ne_of_lt (blk_lt (g := gb101) (o := .cells #[.int .i64 a1_0, .int .i64 a1_1] 57 (0, 0)) (by (with_reducible repeat (first | refine zkn ?_ _ | refine zkd ?_ | refine zka ?_ _)); exact BK101.out)) : gb101 ≠ gb102)); have n6_ := zam ((by rw [hg]; exact Nat.ne_of_gt (blk_lt (g := gb101) (o := .cells #[.int .i64 a1_0, .int .i64 a1_1] 57 (0, 0)) (by (with_reducible repeat (first | refine zkn ?_ _ | refine zkd ?_ | refine zka ?_ _)); exact BK101.out)) : gb102 ≠ gb101)); clear BK101; clear HB; have BK101 := n0_; have HB := n1_; have BK102 := n2_; have GW102 := n3_; have GE102 := n4_; have NB101_102 := n5_; have NB102_101 := n6_; clear n0_ n1_ n2_ n3_ n4_ n5_ n6_; clear hb hbox hg; have hnb5 := NB101_102.out; have hnc5 := NB102_101.out; have hcz6_0 : w4.cell? ⟨gb101, 0, none⟩ = some (.int .i64 a1_0) := (zkc BK101.out 0).trans rfl; have hcz6_1 : w4.cell? ⟨gb101, 1, none⟩ = some (.int .i64 a1_1) := (zkc BK101.out 1).trans rfl; have hfz6_0 := zkz BK101.out 0; have hfz6_1 := zkz BK101.out 1; have hcz7_0 : w4.cell? ⟨gb102, 0, none⟩ = some (.int .i64 0) := (zkc BK102.out 0).trans rfl; have hcz7_1 : w4.cell? ⟨gb102, 1, none⟩ = some (.int .i64 0) := (zkc BK102.out 1).trans rfl; have hfz7_0 := zkz BK102.out 0; have hfz7_1 := zkz BK102.out 1))
 refine bodyPost_ret (results_cell_row rfl _ _ gb102 57 #[.int .i64 (wrap64 (a0 - a1_1)), .int .i64 (wrap64 (a0 - a1_0))] (0, 0) _ rfl (by (with_reducible repeat (first | refine zkn ?_ _ | refine zkd ?_ | refine zka ?_ _)); refine blk_put (cs := #[.int .i64 (wrap64 (a0 - a1_1)), .int .i64 0]) ?_ 1 _ rfl; (with_reducible repeat (first | refine zkn ?_ _ | refine zkd ?_ | refine zka ?_ _)); refine blk_put (cs := #[.int .i64 0, .int .i64 0]) ?_ 0 _ rfl; (with_reducible repeat (first | refine zkn ?_ _ | refine zkd ?_ | refine zka ?_ _)); exact BK102.out) Try.underlying57 rfl (by kernel_rfl)) rfl ?_
 exact ⟨by first | rfl | (simp [errW_none, errW_some] <;> rfl) | (simp [*, errW_none, errW_some] <;> rfl), by repeat (first | (with_reducible first | exact HB.out | apply zba | apply zbn | apply zb1 | refine zbs ?_ GE101.out | refine zbs ?_ GE102.out) | exact HB.out)⟩
section
variable {P : Program} {ops : Array Oper} {Q : Exit → Act → World → Prop}
theorem goesT_ {oi : Oper} {N : Option Tmp} {a : Act} {w : World} {K : Act → World → Prop} {f : FuncId} {fn : Func} {c : Operand} {az : Array Operand} {ts : Array TypeId} {fi cap : Array Value} (hf : P.funcs[f]? = some fn) (hname : (fn.name == "runtime.NumGoroutine") = false) (hb : fn.body.isSome = true) (args : Array Value)
  (hw : Region.wanted oi (yielded ops a.tmps) = true) (hN : oi.dst = N) (hop : oi.op = .call { callee := .value c, args := az, argTypes := ts }) (hc : a.eval c = .func (.func f) fi cap) (hargs : fi ++ az.map a.eval ++ cap = args)
  (h : Calls P f args w fun e w' => ∃ v, e = .returned v ∧ K (a.put N v) w') : if Region.wanted oi (yielded ops a.tmps) = true then Oper.wp P oi a w K Q else K (a.put N undef) w := by
 refine call_ f args hw hN ?_ h
 have he := enters_ hf hname hb args w
 unfold execOp
 simp [hop, resolve, hc, Deferred.ofValue, invoke, hargs, he]
theorem goesTL_ {rest : List Oper} {oi : Oper} {a : Act} {w : World} (N : Option Tmp) (hd : oi.dst = N) (hg : oi.guard = none) {f : FuncId} {fn : Func} {c : Operand} {az : Array Operand} {ts : Array TypeId} {fi cap : Array Value} (hf : P.funcs[f]? = some fn) (hname : (fn.name == "runtime.NumGoroutine") = false) (hb : fn.body.isSome = true) (args : Array Value)
  (hop : oi.op = .call { callee := .value c, args := az, argTypes := ts }) (hc : a.eval c = .func (.func f) fi cap) (hargs : fi ++ az.map a.eval ++ cap = args)
  (h : Calls P f args w fun e w' => ∃ v, e = .returned v ∧ wpList P ops Q rest (a.put N v) w') : wpList P ops Q (oi :: rest) a w := by
 refine wpList_plain hg fun K hK => ?_
 have he := enters_ hf hname hb args w
 have hrun : (execOp a.eval oi).run P w = .ok (.enter f args) w := by
  unfold execOp
  simp [hop, resolve, hc, Deferred.ofValue, invoke, hargs, he]
 unfold Oper.wp
 rw [hrun, Oper.upon_enter]
 refine h.mono fun e w'' hh => ?_
 obtain ⟨v, rfl, hk⟩ := hh
 subst hd
 exact hK _ _ hk
end
theorem R_lt {α : Type} {d : Kd α} {e : Nat} {w : World} {base : Nat} {ok : Nat → Prop} {v : Value} {xs : List α} (h : d.R e w base ok v xs) : ∀ k, v.ownBlock = some k → k < w.heap.size := fun k hk => ((Kd.R_bound h).1 k hk).2.2.1
theorem R_new_ne {α : Type} {d : Kd α} {e : Nat} {w : World} {base : Nat} {ok : Nat → Prop} {v : Value} {xs : List α} (h : d.R e w base ok v xs) {g : Nat} (hg : w.heap.size ≤ g) : some g ≠ v.ownBlock := fun e => by
 have := R_lt h g e.symm
 omega
theorem R_beside {α β : Type} {d : Kd α} {d' : Kd β} {e e' : Nat} {w w1 : World} {base base' : Nat} {ok' : Nat → Prop} {v u : Value} {xs : List α} {ys : List β} (h : d.R e w base (fun _ => True) v xs) (h' : d'.R e' w base' ok' u ys) (ht : ∀ q, q ∈ e :: d.E → q ≠ e') (hg : w.grownBy w1 u.ownBlock) : d.R e w1 base (fun _ => True) v xs :=
 Kd.R_mono (Kd.R_grown (Kd.R_apart' h (Kd.R_typed h') ht) hg (fun _ hk => hk.2)) (fun _ _ => trivial)
def bound_check.l0 : Nat → List (S57) → Int → Int → Option (Int)
 | 0, _, _, _ => none
 | k + 1, x5, x6, x7 => if x7 < x6 then (if 0 ≤ x7 then (if x7 < (x5.length : Int) then (if ((rd_T57 x5 x7).f0) > ((rd_T57 x5 x7).f1) then (some 2) else (if ((rd_T57 x5 x7).f0) < (-1073741824) then (some 2) else (if ((rd_T57 x5 x7).f1) > 1073741824 then (some 2) else (bound_check.l0 k x5 x6 (wrap64 (x7 + 1)))))) else (none)) else (none)) else (some 0)
def bound_check.f (k : Nat) (l0 : List (S57)) : Option (Int) := bound_check.l0 k l0 (l0.length : Int) 0
set_option maxHeartbeats 8000000 in
set_option maxRecDepth 100000 in
theorem bound_check.calls (k : Nat) (A0 : Option Addr) (c0 : Nat) (l0 : List (S57)) (r : Int) (w : World) (hr0 : Kd.C k57 w A0 l0.length l0) (hc0 : l0.length ≤ c0) (h : bound_check.f k l0 = some r) :
  Calls Try.prog 101 #[.slice A0 l0.length c0] w fun e w' => e = .returned (.int .i64 r) ∧ Below w.heap.size w w' := by
 have hu57 := Try.underlying57
 have HR0 := zam hr0
 have HC0 := zam hc0
 clear hr0 hc0
 have HB := zam (Below.refl w.heap.size w)
 have H : (bound_check.l0 k l0 (l0.length : Int) 0) = some r := h
 clear h
 have H' := zam H
 clear H
 go_enter Try.func101, Try.ntmps101
 go_wp2
 go_loopg [7] k (fun kq v7 w' => ∃ (x7_1 : Int), v7 = .int .i64 x7_1 ∧ Aside0 (bound_check.l0 kq l0 (l0.length : Int) x7_1 = some r) ∧ Aside0 (kq ≤ k) ∧ Aside0 (Below w.heap.size w w'))
 case atStart => exact ⟨(0), (by first | rfl | (simp; done) | (simp [*]; done)), H', ⟨Nat.le_refl _⟩, ⟨by repeat (first | (with_reducible first | exact HB.out | apply zba | apply zbn | apply zb1) | exact HB.out)⟩⟩
 case round =>
  clear H'
  try clear c1
  obtain ⟨x7_1, rfl, HA, HK1, HB⟩ := hrel
  cases gk with
  | zero => exact absurd HA.out (by simp [bound_check.l0])
  | succ k1 =>
   have H := HA.out
   clear HA
   simp only [bound_check.l0] at H
   by_cases c2 : x7_1 < (l0.length : Int)
   ·rw [if_pos c2] at H
    have c2b0 : decide (x7_1 < (l0.length : Int)) = true := zdt c2
    clear c2
    by_cases c3 : 0 ≤ x7_1
    ·rw [if_pos c3] at H
     have c3b0 : decide (0 ≤ x7_1) = true := zdt c3
     clear c3
     by_cases c4 : x7_1 < (l0.length : Int)
     ·rw [if_pos c4] at H
      have c4b0 : decide (x7_1 < (l0.length : Int)) = true := zdt c4
      clear c4
      by_cases c5 : ((rd_T57 l0 x7_1).f0) > ((rd_T57 l0 x7_1).f1)
      ·rw [if_pos c5] at H
       have c5b0 : decide (((rd_T57 l0 x7_1).f1) < ((rd_T57 l0 x7_1).f0)) = true := zdt c5
       clear c5
       obtain rfl := zsi H
       have p101 : 0 ≤ (x7_1 : Int) := zod (by first | (with_reducible assumption) | assumption)
       have q101 : x7_1 < (l0.length : Int) := zod (by first | (with_reducible assumption) | assumption)
       obtain ⟨ad101, e101, hx101_0, hx101_1⟩ := at_T57 HR0.out x7_1 p101 q101
       cases e101
       replace hx101_0 := (HB.out.cell (zwb w _ hx101_0)).trans hx101_0
       replace hx101_1 := (HB.out.cell (zwb w _ hx101_1)).trans hx101_1
       replace p101 := eq_true p101
       replace q101 := eq_true q101
       go_wp2_with (first | ((with_reducible refine zgd (N := 4) rfl ?_); refine box_event ?hg (N := 4) ?hd (cs := #[.int .i64 0, .int .i64 0]) (t := 57) ?hr ?_; (case hd => rfl); (case hg => rfl); (case hr => first | (go_simp; done) | (go_simp; rfl)); intro gb102 hg w6 hbox hb; have n0_ := zam (zbt (by repeat (first | (with_reducible first | exact HB.out | apply zba | apply zbn | apply zb1) | exact HB.out)) hb); have n1_ := zam (hbox); have n2_ := zam ((by rw [hg]; exact (zbz (by repeat (first | (with_reducible first | exact HB.out | apply zba | apply zbn | apply zb1) | exact HB.out))) : w.heap.size ≤ gb102)); have n3_ := zam ((by rw [hg]; exact (zbz (by repeat (first | (with_reducible first | exact HB.out | apply zba | apply zbn | apply zb1) | exact HB.out))) : w.heap.size ≤ gb102)); clear HB; have HB := n0_; have BK102 := n1_; have GW102 := n2_; have GE102 := n3_; clear n0_ n1_ n2_ n3_; clear hb hbox hg; have hcz7_0 : w6.cell? ⟨gb102, 0, none⟩ = some (.int .i64 0) := (zkc BK102.out 0).trans rfl; have hcz7_1 : w6.cell? ⟨gb102, 1, none⟩ = some (.int .i64 0) := (zkc BK102.out 1).trans rfl; have hfz7_0 := zkz BK102.out 0; have hfz7_1 := zkz BK102.out 1))
       go_ret
       exact ⟨by first | rfl | (simp [errW_none, errW_some] <;> rfl) | (simp [*, errW_none, errW_some] <;> rfl), by repeat (first | (with_reducible first | exact HB.out | apply zba | apply zbn | apply zb1 | refine zbs ?_ GE102.out) | exact HB.out)⟩
      rw [if_neg c5] at H
      have c5b0 : decide (((rd_T57 l0 x7_1).f1) < ((rd_T57 l0 x7_1).f0)) = false := zdf c5
      clear c5
      by_cases c8 : ((rd_T57 l0 x7_1).f0) < (-1073741824)
      ·rw [if_pos c8] at H
       have c8b0 : decide (((rd_T57 l0 x7_1).f0) < (-1073741824)) = true := zdt c8
       clear c8
       obtain rfl := zsi H
       have p101 : 0 ≤ (x7_1 : Int) := zod (by first | (with_reducible assumption) | assumption)
       have q101 : x7_1 < (l0.length : Int) := zod (by first | (with_reducible assumption) | assumption)
       obtain ⟨ad101, e101, hx101_0, hx101_1⟩ := at_T57 HR0.out x7_1 p101 q101
       cases e101
       replace hx101_0 := (HB.out.cell (zwb w _ hx101_0)).trans hx101_0
       replace hx101_1 := (HB.out.cell (zwb w _ hx101_1)).trans hx101_1
       replace p101 := eq_true p101
       replace q101 := eq_true q101
       go_wp2_with (first | ((with_reducible refine zgd (N := 4) rfl ?_); refine box_event ?hg (N := 4) ?hd (cs := #[.int .i64 0, .int .i64 0]) (t := 57) ?hr ?_; (case hd => rfl); (case hg => rfl); (case hr => first | (go_simp; done) | (go_simp; rfl)); intro gb102 hg w9 hbox hb; have n0_ := zam (zbt (by repeat (first | (with_reducible first | exact HB.out | apply zba | apply zbn | apply zb1) | exact HB.out)) hb); have n1_ := zam (hbox); have n2_ := zam ((by rw [hg]; exact (zbz (by repeat (first | (with_reducible first | exact HB.out | apply zba | apply zbn | apply zb1) | exact HB.out))) : w.heap.size ≤ gb102)); have n3_ := zam ((by rw [hg]; exact (zbz (by repeat (first | (with_reducible first | exact HB.out | apply zba | apply zbn | apply zb1) | exact HB.out))) : w.heap.size ≤ gb102)); clear HB; have HB := n0_; have BK102 := n1_; have GW102 := n2_; have GE102 := n3_; clear n0_ n1_ n2_ n3_; clear hb hbox hg; have hcz10_0 : w9.cell? ⟨gb102, 0, none⟩ = some (.int .i64 0) := (zkc BK102.out 0).trans rfl; have hcz10_1 : w9.cell? ⟨gb102, 1, none⟩ = some (.int .i64 0) := (zkc BK102.out 1).trans rfl; have hfz10_0 := zkz BK102.out 0; have hfz10_1 := zkz BK102.out 1))
       go_ret
       exact ⟨by first | rfl | (simp [errW_none, errW_some] <;> rfl) | (simp [*, errW_none, errW_some] <;> rfl), by repeat (first | (with_reducible first | exact HB.out | apply zba | apply zbn | apply zb1 | refine zbs ?_ GE102.out) | exact HB.out)⟩
      rw [if_neg c8] at H
      have c8b0 : decide (((rd_T57 l0 x7_1).f0) < (-1073741824)) = false := zdf c8
      clear c8
      by_cases c11 : ((rd_T57 l0 x7_1).f1) > 1073741824
      ·rw [if_pos c11] at H
       have c11b0 : decide (1073741824 < ((rd_T57 l0 x7_1).f1)) = true := zdt c11
       clear c11
       obtain rfl := zsi H
       have p101 : 0 ≤ (x7_1 : Int) := zod (by first | (with_reducible assumption) | assumption)
       have q101 : x7_1 < (l0.length : Int) := zod (by first | (with_reducible assumption) | assumption)
       obtain ⟨ad101, e101, hx101_0, hx101_1⟩ := at_T57 HR0.out x7_1 p101 q101
       cases e101
       replace hx101_0 := (HB.out.cell (zwb w _ hx101_0)).trans hx101_0
       replace hx101_1 := (HB.out.cell (zwb w _ hx101_1)).trans hx101_1
       replace p101 := eq_true p101
       replace q101 := eq_true q101
       go_wp2_with (first | ((with_reducible refine zgd (N := 4) rfl ?_); refine box_event ?hg (N := 4) ?hd (cs := #[.int .i64 0, .int .i64 0]) (t := 57) ?hr ?_; (case hd => rfl); (case hg => rfl); (case hr => first | (go_simp; done) | (go_simp; rfl)); intro gb102 hg w12 hbox hb; have n0_ := zam (zbt (by repeat (first | (with_reducible first | exact HB.out | apply zba | apply zbn | apply zb1) | exact HB.out)) hb); have n1_ := zam (hbox); have n2_ := zam ((by rw [hg]; exact (zbz (by repeat (first | (with_reducible first | exact HB.out | apply zba | apply zbn | apply zb1) | exact HB.out))) : w.heap.size ≤ gb102)); have n3_ := zam ((by rw [hg]; exact (zbz (by repeat (first | (with_reducible first | exact HB.out | apply zba | apply zbn | apply zb1) | exact HB.out))) : w.heap.size ≤ gb102)); clear HB; have HB := n0_; have BK102 := n1_; have GW102 := n2_; have GE102 := n3_; clear n0_ n1_ n2_ n3_; clear hb hbox hg; have hcz13_0 : w12.cell? ⟨gb102, 0, none⟩ = some (.int .i64 0) := (zkc BK102.out 0).trans rfl; have hcz13_1 : w12.cell? ⟨gb102, 1, none⟩ = some (.int .i64 0) := (zkc BK102.out 1).trans rfl; have hfz13_0 := zkz BK102.out 0; have hfz13_1 := zkz BK102.out 1))
       go_ret
       exact ⟨by first | rfl | (simp [errW_none, errW_some] <;> rfl) | (simp [*, errW_none, errW_some] <;> rfl), by repeat (first | (with_reducible first | exact HB.out | apply zba | apply zbn | apply zb1 | refine zbs ?_ GE102.out) | exact HB.out)⟩
      rw [if_neg c11] at H
      have c11b0 : decide (1073741824 < ((rd_T57 l0 x7_1).f1)) = false := zdf c11
      clear c11
      have H' := zam H
      clear H
      have p101 : 0 ≤ (x7_1 : Int) := zod (by first | (with_reducible assumption) | assumption)
      have q101 : x7_1 < (l0.length : Int) := zod (by first | (with_reducible assumption) | assumption)
      obtain ⟨ad101, e101, hx101_0, hx101_1⟩ := at_T57 HR0.out x7_1 p101 q101
      cases e101
      replace hx101_0 := (HB.out.cell (zwb w _ hx101_0)).trans hx101_0
      replace hx101_1 := (HB.out.cell (zwb w _ hx101_1)).trans hx101_1
      replace p101 := eq_true p101
      replace q101 := eq_true q101
      go_wp2_with (first | ((with_reducible refine zgd (N := 4) rfl ?_); refine box_event ?hg (N := 4) ?hd (cs := #[.int .i64 0, .int .i64 0]) (t := 57) ?hr ?_; (case hd => rfl); (case hg => rfl); (case hr => first | (go_simp; done) | (go_simp; rfl)); intro gb102 hg w14 hbox hb; have n0_ := zam (zbt (by repeat (first | (with_reducible first | exact HB.out | apply zba | apply zbn | apply zb1) | exact HB.out)) hb); have n1_ := zam (hbox); have n2_ := zam ((by rw [hg]; exact (zbz (by repeat (first | (with_reducible first | exact HB.out | apply zba | apply zbn | apply zb1) | exact HB.out))) : w.heap.size ≤ gb102)); have n3_ := zam ((by rw [hg]; exact (zbz (by repeat (first | (with_reducible first | exact HB.out | apply zba | apply zbn | apply zb1) | exact HB.out))) : w.heap.size ≤ gb102)); clear HB; have HB := n0_; have BK102 := n1_; have GW102 := n2_; have GE102 := n3_; clear n0_ n1_ n2_ n3_; clear hb hbox hg; have hcz15_0 : w14.cell? ⟨gb102, 0, none⟩ = some (.int .i64 0) := (zkc BK102.out 0).trans rfl; have hcz15_1 : w14.cell? ⟨gb102, 1, none⟩ = some (.int .i64 0) := (zkc BK102.out 1).trans rfl; have hfz15_0 := zkz BK102.out 0; have hfz15_1 := zkz BK102.out 1))
      go_roundg k1
      case measure => have := HK1.out; omega
      case rel => exact ⟨(wrap64 (x7_1 + 1)), (by first | rfl | (simp; done) | (simp [*]; done)), H', ⟨by have := HK1.out; omega⟩, ⟨by repeat (first | (with_reducible first | exact HB.out | apply zba | apply zbn | apply zb1 | refine zbs ?_ GE102.out) | exact HB.out)⟩⟩
     rw [if_neg c4] at H
     exact absurd H (by simp)
    rw [if_neg c3] at H
    exact absurd H (by simp)
   rw [if_neg c2] at H
   have c2b0 : decide (x7_1 < (l0.length : Int)) = false := zdf c2
   clear c2
   obtain rfl := zsi H
   go_wp2
   go_ret
   exact ⟨by first | rfl | (simp [errW_none, errW_some] <;> rfl) | (simp [*, errW_none, errW_some] <;> rfl), by repeat (first | (with_reducible first | exact HB.out | apply zba | apply zbn | apply zb1) | exact HB.out)⟩
def bound_Check.f (k : Nat) (a0_0 : Int) (a0_1 : Int) : Option (Int) := (bound_check.f k (([(⟨a0_0, a0_1⟩ : S57)] : List (S57)))).bind fun t105 => (some t105)
set_option maxHeartbeats 8000000 in
set_option maxRecDepth 100000 in
theorem bound_Check.calls (k : Nat) (a0_0 : Int) (a0_1 : Int) (r : Int) (w : World) (h : bound_Check.f k a0_0 a0_1 = some r) :
  Calls Try.prog 89 #[.agg #[.int .i64 a0_0, .int .i64 a0_1]] w fun e w' => e = .returned (.int .i64 r) ∧ Below w.heap.size w w' := by
 have hu57 := Try.underlying57
 have HB := zam (Below.refl w.heap.size w)
 have H : ((bound_check.f k (([(⟨a0_0, a0_1⟩ : S57)] : List (S57)))).bind fun t105 => (some t105)) = some r := h
 clear h
 obtain ⟨y102, hy102⟩ : ∃ y_ : List (S57), y_ = (([(⟨a0_0, a0_1⟩ : S57)] : List (S57))) := ⟨_, rfl⟩
 replace H : ((bound_check.f k y102).bind fun t105 => (some t105)) = some r := by first | (rw [hy102]; with_reducible exact H) | (have H2_ := (Option.bind_some _ _).symm.trans H; rw [hy102]; with_reducible exact H2_) | (have H2_ := (Option.bind_some _ _).symm.trans H; with_reducible exact H2_) | with_reducible exact H | (rw [hy102]; exact H) | exact H
 have Ny102 := zam hy102
 clear hy102
 replace H := Option.bind_eq_some_iff.mp H
 obtain ⟨t105, A20, H⟩ := H
 replace H : (some t105) = some r := H
 have A2 := zam A20
 clear A20
 obtain rfl := zsi H
 go_enter Try.func89, Try.ntmps89
 go_wp2_with (first | ((with_reducible refine zgd (N := 1) rfl ?_); refine box_event ?hg (N := 1) ?hd (cs := #[.int .i64 a0_0, .int .i64 a0_1]) (t := 57) ?hr ?_; (case hd => rfl); (case hg => rfl); (case hr => first | (go_simp; done) | (go_simp; rfl)); intro gb101 hg w3 hbox hb; have n0_ := zam (zbt (by repeat (first | (with_reducible first | exact HB.out | apply zba | apply zbn | apply zb1) | exact HB.out)) hb); have n1_ := zam (hbox); have n2_ := zam ((by rw [hg]; exact (zbz (by repeat (first | (with_reducible first | exact HB.out | apply zba | apply zbn | apply zb1) | exact HB.out))) : w.heap.size ≤ gb101)); have n3_ := zam ((by rw [hg]; exact (zbz (by repeat (first | (with_reducible first | exact HB.out | apply zba | apply zbn | apply zb1) | exact HB.out))) : w.heap.size ≤ gb101)); clear HB; have HB := n0_; have BK101 := n1_; have GW101 := n2_; have GE101 := n3_; clear n0_ n1_ n2_ n3_; clear hb hbox hg; have hcz4_0 : w3.cell? ⟨gb101, 0, none⟩ = some (.int .i64 a0_0) := (zkc BK101.out 0).trans rfl; have hcz4_1 : w3.cell? ⟨gb101, 1, none⟩ = some (.int .i64 a0_1) := (zkc BK101.out 1).trans rfl; have hfz4_0 := zkz BK101.out 0; have hfz4_1 := zkz BK101.out 1) | ((with_reducible refine zgd (N := 4) rfl ?_); refine Kd.R_lit k57 _ 57 ?hg (N := 4) ?hd (xs := ([(⟨a0_0, a0_1⟩ : S57)] : List (S57))) (inner := [.int .i64 a0_0, .int .i64 a0_1]) (ok := fun _ => True) (okp := fun _ => True) ?hr ?hp (fun _ hk => hk) trivial (Below.refl _ _) (Nat.le_refl _) (by simp) ?_; (case hd => rfl); (case hg => rfl); (case hr => first | (go_simp; done) | (go_simp; rfl)); (case hp => exact (Reps.c2 (show Kd.M k57 _ _ _ (⟨a0_0, a0_1⟩ : S57) [.int .i64 a0_0, .int .i64 a0_1] from (k57_mkM _ _ _ (⟨a0_0, a0_1⟩ : S57) )) (Reps.none _ _))); intro v103 w5 ho6 hb hg_ hnew_; clear hg_ hnew_; (first | rw [← Ny102.out] at ho6 | (simp only [Int.reduceToNat] at ho6; rw [← Ny102.out] at ho6)); have n0_ := zam (Kd.R_lower (Kd.R_newB ho6 (g := gb101) (o := .cells #[.int .i64 a0_0, .int .i64 a0_1] 57 (0, 0)) (by (with_reducible repeat (first | refine zkn ?_ _ | refine zkd ?_ | refine zka ?_ _)); exact BK101.out)) (zbz (by repeat (first | (with_reducible first | exact HB.out | apply zba | apply zbn | apply zb1 | refine zbs ?_ GE101.out) | exact HB.out)))); have n1_ := zam (zkb (g := gb101) (o := .cells #[.int .i64 a0_0, .int .i64 a0_1] 57 (0, 0)) (by (with_reducible repeat (first | refine zkn ?_ _ | refine zkd ?_ | refine zka ?_ _)); exact BK101.out) hb); have n2_ := zam (zbt (by repeat (first | (with_reducible first | exact HB.out | apply zba | apply zbn | apply zb1 | refine zbs ?_ GE101.out) | exact HB.out)) hb); clear BK101; clear HB; have HO104 := n0_; have BK101 := n1_; have HB := n2_; clear n0_ n1_ n2_; clear hb ho6; obtain ⟨Ao7, co7, eo7⟩ := Kd.R_slice HO104.out; subst eo7) | ((with_reducible refine zgc (f := 101) rfl ?_); refine goesL_ (some 5) rfl rfl Try.func101 (by kernel_rfl) rfl #[.slice Ao7 y102.length co7] rfl (by (try simp only [zmt, List.map_cons, List.map_nil]); first | done | rfl | (simp only [zld, zlt]; rfl)) ?_; (with_reducible refine (bound_check.calls k _ _ y102 t105 _ ?side1 ?side2 A2.out).mono ?_); (case side1 => repeat (first | exact (Kd.R_reads' HO104.out).2.2 | (with_reducible refine Kd.C_alloc ?_ _) | (with_reducible refine Kd.C_drewN ?_ _) | (with_reducible refine Kd.C_drew ?_))); (case side2 => exact (Kd.R_reads' HO104.out).2.1); rintro e w8 ⟨rfl, hb⟩; refine ⟨_, rfl, ?_⟩; have n0_ := zam (Kd.R_below (by (with_reducible repeat (first | apply zRa | apply zRn | apply zRd)); exact HO104.out) hb); have n1_ := zam (zkb (g := gb101) (o := .cells #[.int .i64 a0_0, .int .i64 a0_1] 57 (0, 0)) (by (with_reducible repeat (first | refine zkn ?_ _ | refine zkd ?_ | refine zka ?_ _)); exact BK101.out) hb); have n2_ := zam (zbt (by repeat (first | (with_reducible first | exact HB.out | apply zba | apply zbn | apply zb1 | refine zbs ?_ GE101.out) | exact HB.out)) hb); clear HO104; clear BK101; clear HB; have HO104 := n0_; have BK101 := n1_; have HB := n2_; clear n0_ n1_ n2_; (try clear hb); (try clear hb2); (try clear hk); (try clear hi)))
 go_ret
 exact ⟨by first | rfl | (simp [errW_none, errW_some] <;> rfl) | (simp [*, errW_none, errW_some] <;> rfl), by repeat (first | (with_reducible first | exact HB.out | apply zba | apply zbn | apply zb1 | refine zbs ?_ GE101.out) | exact HB.out)⟩
def Bnd.chk (lo hi : Int) : Int := if lo ≤ hi ∧ -1073741824 ≤ lo ∧ hi ≤ 1073741824 then 0 else 2
theorem Bnd.check1 (lo hi : Int) : bound_Check.f 3 lo hi = some (Bnd.chk lo hi) := by
 unfold bound_Check.f bound_check.f Bnd.chk
 have e0 : rd_T57 [(⟨lo, hi⟩ : S57)] 0 = ⟨lo, hi⟩ := rfl
 simp only [bound_check.l0, List.length_singleton, e0]
 rw [if_pos (by omega), if_pos (by omega), if_pos (by omega)]
 by_cases h1 : lo > hi
 ·rw [if_pos h1, if_neg (show ¬ (lo ≤ hi ∧ -1073741824 ≤ lo ∧ hi ≤ 1073741824) by omega)]; rfl
 rw [if_neg h1]
 by_cases h2 : lo < -1073741824
 ·rw [if_pos h2, if_neg (show ¬ (lo ≤ hi ∧ -1073741824 ≤ lo ∧ hi ≤ 1073741824) by omega)]; rfl
 rw [if_neg h2]
 by_cases h3 : hi > 1073741824
 ·rw [if_pos h3, if_neg (show ¬ (lo ≤ hi ∧ -1073741824 ≤ lo ∧ hi ≤ 1073741824) by omega)]; rfl
 rw [if_neg h3, if_pos (show lo ≤ hi ∧ -1073741824 ≤ lo ∧ hi ≤ 1073741824 by omega), if_neg (by unfold wrap64; omega)]
 rfl
theorem mooring_rounds.calls (w : World) : Calls Try.prog 88 #[] w fun e w' => ∃ h, e = .returned (.agg #[.func (.func 98) #[] #[], .func (.func 99) #[] #[], .func (.func 97) #[] #[], .func (.func 100) #[] #[.pointer (some ⟨h, 0, none⟩)]]) ∧
  w'.heap[h]? = some (.cells #[.func (.func 97) #[] #[]] 94 (0, 0)) ∧ w.heap.size ≤ h ∧ Below w.heap.size w w' := by
 have hu1 := Try.underlying96
 have hu2 := Try.underlying94
 go_enter Try.func88, Try.ntmps88
 go_wp2
 refine bodyPost_ret (results_cell_row rfl _ _ w.heap.size 96 _ (0, 0) _ rfl (zka (blk_new _ _) _) hu1 rfl (by kernel_rfl)) rfl ⟨w.heap.size + 1, rfl, ?_, Nat.le_succ _, zba (zba (Below.refl _ _) _) _⟩
 have h := blk_new (w.alloc (.cells #[.func (.func 98) #[] #[], .func (.func 99) #[] #[], .func (.func 97) #[] #[], .func (.func 100) #[] #[.pointer (some ⟨w.heap.size + 1, 0, none⟩)]] 96)) (.cells #[.func (.func 97) #[] #[]] 94)
 simpa using h
def IsForces (w : World) (g : Nat) (A : Option Addr) (c : Nat) (d an fr : Int) (els : List S46) (on : List S57) (li : List Int) : Prop :=
 ∃ h A2 c2 A3 c3, w.heap[g]? = some (.cells #[.int .i64 d, .slice A els.length c, .int .i64 an, .int .i64 fr, .func (.func 98) #[] #[], .func (.func 99) #[] #[], .func (.func 97) #[] #[], .func (.func 100) #[] #[.pointer (some ⟨h, 0, none⟩)], .slice A2 on.length c2, .slice A3 li.length c3] 98 (0, 0)) ∧
  w.heap[h]? = some (.cells #[.func (.func 97) #[] #[]] 94 (0, 0)) ∧ Kd.C k46 w A els.length els ∧ Kd.C k57 w A2 on.length on ∧ on.length ≤ c2 ∧ (Kd.int .i64).C w A3 li.length li ∧ li.length ≤ c3
theorem IsForces.below {w w1 : World} {g : Nat} {A : Option Addr} {c : Nat} {d an fr : Int} {els : List S46} {on : List S57} {li : List Int} (h : IsForces w g A c d an fr els on li) (hb : Below w.heap.size w w1) : IsForces w1 g A c d an fr els on li := by
 obtain ⟨h, A2, c2, A3, c3, h1, h2, h3, h4, h5, h6, h7⟩ := h
 exact ⟨h, A2, c2, A3, c3, zkb h1 hb, zkb h2 hb, Kd.C_below h3 hb, Kd.C_below h4 hb, h5, Kd.C_below h6 hb, h7⟩
def OwnForces (w w' : World) (g : Nat) (on : List S57) (li : List Int) : Prop :=
 ∃ v0 v1 v2 v3 v4 v5 v6 v7 von vli, w'.heap[g]? = some (.cells #[v0, v1, v2, v3, v4, v5, v6, v7, von, vli] 98 (0, 0)) ∧ Kd.R k57 57 w' w.heap.size (fun _ => True) von on ∧ Kd.R (Kd.int .i64) 2 w' w.heap.size (fun _ => True) vli li
def NewForces (w : World) (A : Option Addr) (c : Nat) (d an fr : Int) (els : List S46) (cs : List S57) (r : Int) (e : Ending) (w' : World) : Prop :=
 (r ≠ 0 ∧ e = .returned (.tuple #[.pointer none, .int .i64 r]) ∧ Below w.heap.size w w') ∨
 (r = 0 ∧ ∃ g, e = .returned (.tuple #[.pointer (some ⟨g, 0, none⟩), .int .i64 0]) ∧ IsForces w' g A c d an fr els (Moor.on els cs) (Moor.lifts els) ∧ OwnForces w w' g (Moor.on els cs) (Moor.lifts els) ∧ Below w.heap.size w w')
set_option maxHeartbeats 8000000 in
set_option maxRecDepth 100000 in
theorem newForces_err {d an fr : Int} {els : List S46} (A : Option Addr) (c : Nat) (A1 : Option Addr) (c1 : Nat) (cs : List S57) (stand : Bool) (r : Int) (w : World) (hr0 : Kd.C k46 w A els.length els) (hc0 : els.length ≤ c)
  (h : mooring_Check.f 43 d els an fr = some r) (hr : r ≠ 0) :
  Calls Try.prog 58 #[.agg #[.int .i64 d, .slice A els.length c, .int .i64 an, .int .i64 fr], .slice A1 cs.length c1, .bool stand] w fun e w' => e = .returned (.tuple #[.pointer none, .int .i64 r]) ∧ Below w.heap.size w w' := by
 have hu37 := Try.underlying37
 have HR0 := zam hr0
 have H := zam h
 have c2b : (r != 0) = true := bne_iff_ne.mpr hr
 clear hr0 h hr
 go_enter Try.func58, Try.ntmps58
 go_wp2_with (go_at_call 38; (with_reducible refine (mooring_Check.calls 43 d A c els an fr r _ ?s1 hc0 H.out).mono ?_); (case s1 => exact Kd.C_alloc HR0.out _); rintro e w1 ⟨rfl, hb1⟩; have HB := zam (zbt (zba (Below.refl _ _) _) hb1); clear hb1)
 go_ret2
 exact ⟨rfl, HB.out⟩
set_option maxHeartbeats 8000000 in
set_option maxRecDepth 100000 in
theorem newForces_equal {d an fr : Int} {els : List S46} (A : Option Addr) (c : Nat) (A1 : Option Addr) (c1 : Nat) (cs : List S57) (stand : Bool) (w : World) (hr0 : Kd.C k46 w A els.length els) (hc0 : els.length ≤ c)
  (h : mooring_Check.f 43 d els an fr = some 0) (hr : cs.length ≠ els.length) :
  Calls Try.prog 58 #[.agg #[.int .i64 d, .slice A els.length c, .int .i64 an, .int .i64 fr], .slice A1 cs.length c1, .bool stand] w fun e w' => e = .returned (.tuple #[.pointer none, .int .i64 17]) ∧ Below w.heap.size w w' := by
 have hu37 := Try.underlying37
 have HR0 := zam hr0
 have H := zam h
 have c2b : (cs.length == els.length) = false := beq_eq_false_iff_ne.mpr hr
 have c2c : ((cs.length : Int) == (els.length : Int)) = false := beq_eq_false_iff_ne.mpr (by omega)
 clear hr0 h hr
 go_enter Try.func58, Try.ntmps58
 go_wp2_with (go_at_call 38; (with_reducible refine (mooring_Check.calls 43 d A c els an fr 0 _ ?s1 hc0 H.out).mono ?_); (case s1 => exact Kd.C_alloc HR0.out _); rintro e w1 ⟨rfl, hb1⟩; have hz := (zkc (zkb (blk_new w _) hb1) 1); have HB := zam (zbt (zba (Below.refl _ _) _) hb1); clear hb1)
 go_ret2
 exact ⟨rfl, HB.out⟩
def NFRel (w : World) (gm g gh : Nat) (A : Option Addr) (c : Nat) (d an fr : Int) (els : List S46) (cs : List S57) (kq : Nat) (vs vt vi : Value) (w' : World) : Prop :=
 ∃ j : Nat, kq + j = els.length ∧ (cs.take j).all Moor.curB = true ∧ vs = .int .i64 (Moor.sumL (els.take j)) ∧ vt = .bool ((Moor.lifts (els.take j)).all (fun x => decide (1 ≤ x))) ∧ vi = .int .i64 (j : Int) ∧
 w'.heap[gm]? = some (.cells #[.int .i64 d, .slice A els.length c, .int .i64 an, .int .i64 fr] 37 (0, 0)) ∧
 w'.heap[gh]? = some (.cells #[.func (.func 97) #[] #[]] 94 (0, 0)) ∧
 (∃ von vli, w'.heap[g]? = some (.cells #[.int .i64 d, .slice A els.length c, .int .i64 an, .int .i64 fr, .func (.func 98) #[] #[], .func (.func 99) #[] #[], .func (.func 97) #[] #[], .func (.func 100) #[] #[.pointer (some ⟨gh, 0, none⟩)], von, vli] 98 (0, 0)) ∧
  Kd.R k57 57 w' w.heap.size (fun _ => True) von (Moor.on (els.take j) (cs.take j)) ∧ Kd.R (Kd.int .i64) 2 w' w.heap.size (fun _ => True) vli (Moor.lifts (els.take j))) ∧
 Below w.heap.size w w'
theorem NFRel.start {w w' : World} {gm g gh : Nat} {A : Option Addr} {c : Nat} {d an fr : Int} {els : List S46} {cs : List S57}
  (h1 : w'.heap[gm]? = some (.cells #[.int .i64 d, .slice A els.length c, .int .i64 an, .int .i64 fr] 37 (0, 0)))
  (h2 : w'.heap[gh]? = some (.cells #[.func (.func 97) #[] #[]] 94 (0, 0)))
  (h3 : w'.heap[g]? = some (.cells #[.int .i64 d, .slice A els.length c, .int .i64 an, .int .i64 fr, .func (.func 98) #[] #[], .func (.func 99) #[] #[], .func (.func 97) #[] #[], .func (.func 100) #[] #[.pointer (some ⟨gh, 0, none⟩)], .slice none 0 0, .slice none 0 0] 98 (0, 0)))
  (hb : Below w.heap.size w w') : NFRel w gm g gh A c d an fr els cs els.length (.int .i64 0) (.bool true) (.int .i64 0) w' :=
 ⟨0, rfl, rfl, rfl, rfl, rfl, h1, h2, ⟨_, _, h3, Kd.R_nil _ _ _ _ _, Kd.R_nil _ _ _ _ _⟩, hb⟩
theorem NewForces.bad {w w' : World} {A : Option Addr} {c : Nat} {d an fr : Int} {els : List S46} {cs : List S57} {r r' : Int} (hr : r = r') (h0 : r' ≠ 0) (hb : Below w.heap.size w w') : NewForces w A c d an fr els cs r (.returned (.tuple #[.pointer none, .int .i64 r'])) w' := by
 subst hr
 exact .inl ⟨h0, rfl, hb⟩
theorem NewForces.good {w w' : World} {A : Option Addr} {c : Nat} {d an fr : Int} {els : List S46} {cs : List S57} {r : Int} (hr : r = 0) {g : Nat} (hf : IsForces w' g A c d an fr els (Moor.on els cs) (Moor.lifts els) ∧ OwnForces w w' g (Moor.on els cs) (Moor.lifts els)) (hb : Below w.heap.size w w') : NewForces w A c d an fr els cs r (.returned (.tuple #[.pointer (some ⟨g, 0, none⟩), .int .i64 0])) w' := by
 subst hr
 exact .inr ⟨rfl, g, rfl, hf.1, hf.2, hb⟩
theorem Moor.cur_bad {cs : List S57} {j : Nat} (h : j < cs.length) (hb : Moor.curB cs[j] = false) : ¬ cs.all Moor.curB = true := by
 intro hall
 have := List.all_eq_true.1 hall cs[j] (List.getElem_mem h)
 rw [hb] at this
 cases this
theorem Moor.cur_take {cs : List S57} {j : Nat} (h : j < cs.length) (hp : (cs.take j).all Moor.curB = true) (hb : Moor.curB cs[j] = true) : (cs.take (j + 1)).all Moor.curB = true := by
 rw [take_snoc h, List.all_append, hp, List.all_cons, hb]
 rfl
theorem NFRel.next {w w' : World} {gm g gh : Nat} {A : Option Addr} {c : Nat} {d an fr : Int} {els : List S46} {cs : List S57} {kq j : Nat} {sw : Int} {st : Bool} {vi : Int} {von vli : Value}
  (hj : kq + (j + 1) = els.length) (hc : (cs.take (j + 1)).all Moor.curB = true) (hs : Moor.sumL (els.take (j + 1)) = sw) (ht : (Moor.lifts (els.take (j + 1))).all (fun x => decide (1 ≤ x)) = st) (hi : ((j + 1 : Nat) : Int) = vi)
  (h1 : w'.heap[gm]? = some (.cells #[.int .i64 d, .slice A els.length c, .int .i64 an, .int .i64 fr] 37 (0, 0)))
  (h2 : w'.heap[gh]? = some (.cells #[.func (.func 97) #[] #[]] 94 (0, 0)))
  (h3 : w'.heap[g]? = some (.cells #[.int .i64 d, .slice A els.length c, .int .i64 an, .int .i64 fr, .func (.func 98) #[] #[], .func (.func 99) #[] #[], .func (.func 97) #[] #[], .func (.func 100) #[] #[.pointer (some ⟨gh, 0, none⟩)], von, vli] 98 (0, 0)))
  (h4 : Kd.R k57 57 w' w.heap.size (fun _ => True) von (Moor.on (els.take (j + 1)) (cs.take (j + 1)))) (h5 : Kd.R (Kd.int .i64) 2 w' w.heap.size (fun _ => True) vli (Moor.lifts (els.take (j + 1))))
  (hb : Below w.heap.size w w') : NFRel w gm g gh A c d an fr els cs kq (.int .i64 sw) (.bool st) (.int .i64 vi) w' := by
 subst hs; subst ht; subst hi
 exact ⟨j + 1, hj, hc, rfl, rfl, rfl, h1, h2, ⟨_, _, h3, h4, h5⟩, hb⟩
theorem Moor.cur_take' {cs : List S57} {j : Nat} {s : S57} (h : cs[j]? = some s) (hp : (cs.take j).all Moor.curB = true) (h1 : s.f0 ≤ s.f1 ∧ -1073741824 ≤ s.f0 ∧ s.f1 ≤ 1073741824) (h2 : ¬ s.f0 < 0) (h3 : ¬ s.f1 > 3000) : (cs.take (j + 1)).all Moor.curB = true := by
 obtain ⟨h4, h5⟩ := List.getElem?_eq_some_iff.1 h
 exact Moor.cur_take h4 hp (by rw [h5]; unfold Moor.curB; simp; omega)
theorem IsForces.mk' {w w' : World} {g gh : Nat} {A : Option Addr} {c : Nat} {d an fr : Int} {els : List S46} {cs : List S57} {j : Nat} {von vli : Value} (hj : j = els.length) (hl : cs.length = els.length) (hr0 : Kd.C k46 w A els.length els) (hb : Below w.heap.size w w')
  (h2 : w'.heap[gh]? = some (.cells #[.func (.func 97) #[] #[]] 94 (0, 0)))
  (h3 : w'.heap[g]? = some (.cells #[.int .i64 d, .slice A els.length c, .int .i64 an, .int .i64 fr, .func (.func 98) #[] #[], .func (.func 99) #[] #[], .func (.func 97) #[] #[], .func (.func 100) #[] #[.pointer (some ⟨gh, 0, none⟩)], von, vli] 98 (0, 0)))
  (h4 : Kd.R k57 57 w' w.heap.size (fun _ => True) von (Moor.on (els.take j) (cs.take j))) (h5 : Kd.R (Kd.int .i64) 2 w' w.heap.size (fun _ => True) vli (Moor.lifts (els.take j))) : IsForces w' g A c d an fr els (Moor.on els cs) (Moor.lifts els) ∧ OwnForces w w' g (Moor.on els cs) (Moor.lifts els) := by
 rw [List.take_of_length_le (by omega), List.take_of_length_le (by omega)] at h4
 rw [List.take_of_length_le (by omega)] at h5
 refine ⟨?_, _, _, _, _, _, _, _, _, _, _, h3, h4, h5⟩
 obtain ⟨A2, c2, rfl, hl2, hC2⟩ := Kd.R_reads h4
 obtain ⟨A3, c3, rfl, hl3, hC3⟩ := Kd.R_reads h5
 exact ⟨gh, A2, c2, A3, c3, h3, h2, Kd.C_below hr0 hb, hC2, hl2, hC3, hl3⟩
def newForces.T14 : Bool × List (List Nat × List Nat) := (true, [([], []), ([], []), ([1], [1]), ([2], [2]), ([3], [3]), ([], []), ([5], [5]), ([6], [6]), ([7], [7]), ([8], [8]), ([], []), ([], []), ([11], [11]), ([10, 12], [10, 12]), ([], []), ([14], [14]), ([13, 15], [13, 15]), ([9, 16], [9, 16]), ([], []), ([18], [18]), ([19], [19]), ([20], [20]), ([21], [21]), ([], []), ([], []), ([24], [24]), ([23, 25], [23, 25]), ([], []), ([27], [27]), ([26, 28], [26, 28]), ([22, 29, 17], [22, 29]), ([17, 30], [17, 30]), ([31], [31]), ([4, 32, 30], [4, 32]), ([0, 0, 1, 2, 3, 4, 5, 6, 7, 8, 9, 10, 11, 12, 13, 14, 15, 16, 17, 18, 19, 20, 21, 22, 23, 24, 25, 26, 27, 28, 29, 30, 31, 32, 33], [0]), ([34, 0, 1, 2, 3, 4, 5, 6, 7, 8, 9, 10, 11, 12, 13, 14, 15, 16, 17, 18, 19, 20, 21, 22, 23, 24, 25, 26, 27, 28, 29, 30, 31, 32, 33], [34]), ([35, 33, 33, 0, 1, 2, 3, 4, 5, 6, 7, 8, 9, 10, 11, 12, 13, 14, 15, 16, 17, 18, 19, 20, 21, 22, 23, 24, 25, 26, 27, 28, 29, 30, 31, 32, 33], [33, 35])])
def newForces.B14 : List Nat := [0, 0, 2, 6, 14, 0, 32, 96, 224, 480, 0, 0, 2048, 7168, 0, 16384, 64512, 131040, 0, 262144, 786432, 1835008, 3932160, 0, 0, 16777216, 58720256, 0, 134217728, 528482304, 1073741792, 2147483616, 4294967264, 8589934590, 17179869183, 34359738367, 68719476735]
theorem newForces.tab14 : rtab .any (opsOf Try.f58 14) = newForces.T14 := by kernel_rfl
theorem newForces.bits14 : waitsOk newForces.T14.2 newForces.B14 = true := by kernel_rfl
set_option maxHeartbeats 8000000 in
set_option maxRecDepth 100000 in
theorem newForces_main {d an fr : Int} {els : List S46} (A : Option Addr) (c : Nat) (A1 : Option Addr) (c1 : Nat) (cs : List S57) (stand : Bool) (w : World) (hr0 : Kd.C k46 w A els.length els) (hc0 : els.length ≤ c) (hr1 : Kd.C k57 w A1 cs.length cs) (hc1 : cs.length ≤ c1)
  (h : mooring_Check.f 43 d els an fr = some 0) (hr : cs.length = els.length) (h40 : els.length ≤ 40) (hel : ∀ e ∈ els, Moor.elB e = true) :
  Calls Try.prog 58 #[.agg #[.int .i64 d, .slice A els.length c, .int .i64 an, .int .i64 fr], .slice A1 cs.length c1, .bool stand] w (NewForces w A c d an fr els cs (Moor.err2 els cs stand)) := by
 have hu37 := Try.underlying37
 have hu98 := Try.underlying98
 have hu96 := Try.underlying96
 have hu57 := Try.underlying57
 have HR0 := zam hr0
 have HC0 := zam hc0
 have HR1 := zam hr1
 have HC1 := zam hc1
 have H := zam h
 have HL := zam hr
 have HEL := zam hel
 have c2b : (cs.length == els.length) = true := beq_iff_eq.mpr hr
 have c2c : ((cs.length : Int) == (els.length : Int)) = true := beq_iff_eq.mpr (by omega)
 have c2d : ((cs.length : Int) != (els.length : Int)) = false := bne_eq_false_iff_eq.mpr (by omega)
 clear hr0 hc0 hr1 hc1 h hr hel
 go_enter Try.func58, Try.ntmps58
 go_wp2_with (first | ((with_reducible refine zgd (N := 3) rfl ?_); refine box_event ?hg (N := 3) ?hd (cs := #[.int .i64 d, .slice A els.length c, .int .i64 an, .int .i64 fr]) (t := 37) ?hr ?_; (case hd => rfl); (case hg => rfl); (case hr => first | (go_simp; done) | (go_simp; rfl)); intro gm hgm w1 hbk hb0; have GE1 : Aside0 (w.heap.size ≤ gm) := ⟨Nat.le_of_eq hgm.symm⟩; have BM := zam hbk; have HB := zam hb0; have hz0 := (zkc hbk 0).trans rfl; have hz1 := (zkc hbk 1).trans rfl; have hz2 := (zkc hbk 2).trans rfl; have hz3 := (zkc hbk 3).trans rfl; clear hgm hbk hb0) | (go_at_call 38; (with_reducible refine (mooring_Check.calls 43 d A c els an fr 0 _ ?s1 HC0.out H.out).mono ?_); (case s1 => exact Kd.C_below HR0.out HB.out); rintro e w2 ⟨rfl, hb1⟩; have n0 := zam (zkb BM.out hb1); have n1 := zam (zbt HB.out hb1); clear BM HB hz0 hz1 hz2 hz3; have BM := n0; have HB := n1; have hz1 := (zkc BM.out 1).trans rfl; clear n0 n1 hb1))
 have n0 := zam (zkd BM.out)
 have n1 := zam (zb1 HB.out)
 clear BM HB hz1
 have BM := n0
 have HB := n1
 clear n0 n1
 refine start_ (n := 5) (S := fun w' => w'.cell? ⟨gm, 0, none⟩ = some (.int .i64 d) ∧ w'.cell? ⟨gm, 1, none⟩ = some (.slice A els.length c) ∧ w'.cell? ⟨gm, 2, none⟩ = some (.int .i64 an) ∧ w'.cell? ⟨gm, 3, none⟩ = some (.int .i64 fr)) (ds := []) #[false, false, false, false, false] (by kernel_rfl) rfl rfl ⟨((zkc BM.out 0).trans rfl), ((zkc BM.out 1).trans rfl), ((zkc BM.out 2).trans rfl), ((zkc BM.out 3).trans rfl)⟩ (fun hHeld => ?_)
 generalize w2.drew = w3 at BM HB hHeld ⊢
 refine take_ (i := 0) (N := some 26) (v := ?_) (a' := ?_) #[true, false, false, false, false] rfl rfl (by kernel_rfl) (fun _ _ _ h => h) (Or.inl ⟨by rfl, ?_⟩) hHeld ?_ ?_
 rotate_left
 ·rintro w' ⟨s0, s1, s2, s3⟩
  go_simp
  with_reducible rfl
 rotate_left
 ·simp only [Act.put, zsa, zsz, zss, i64_w, i32_w]
  rfl
 refine one_ (i := 1) (N := some 27) #[true, true, false, false, false] rfl rfl (by kernel_rfl) (by decide) (fun K hK => ?_)
 clear hHeld
 refine goes_ Try.func88 (by kernel_rfl) rfl #[] (by rfl) rfl rfl (by simp) ?_
 with_reducible refine (mooring_rounds.calls _).mono ?_
 rintro e w4 ⟨gh, rfl, hh, hge, hb3⟩
 refine ⟨_, rfl, ?_⟩
 have n0 := zam (zkb BM.out hb3)
 have n1 := zam (zbt HB.out hb3)
 have n2 := zam hh
 have GE2 := zam (Nat.le_trans (zbz HB.out) hge)
 clear BM HB hh hge hb3
 have BM := n0
 have HB := n1
 have BH := n2
 clear n0 n1 n2
 refine hK.out _ _ ⟨((zkc BM.out 0).trans rfl), ((zkc BM.out 1).trans rfl), ((zkc BM.out 2).trans rfl), ((zkc BM.out 3).trans rfl)⟩ (fun hHeld => ?_)
 clear hK K
 refine norm_ (a' := ?_) ?_ ?_
 rotate_left
 ·show Act.put _ (some 27) _ = _
  simp only [Act.put, zsa, zsz, zss, i64_w, i32_w]
  rfl
 refine pure_ (i := 2) (N := some 28) (v := ?_) (a' := ?_) #[true, true, true, false, false] rfl rfl (by kernel_rfl) (fun _ _ _ h => h) (Or.inl ⟨by rfl, ?_⟩) ?_ ?_
 rotate_left
 ·intro w'
  go_simp
  with_reducible rfl
 rotate_left
 ·simp only [Act.put, zsa, zsz, zss, i64_w, i32_w]
  rfl
 refine one_ (i := 3) (N := some 29) #[true, true, true, true, false] rfl rfl (by kernel_rfl) (by decide) (fun K hK => ?_)
 clear hHeld
 refine box_step (by rfl) (N := 29) rfl (cs := #[.int .i64 d, .slice A els.length c, .int .i64 an, .int .i64 fr, .func (.func 98) #[] #[], .func (.func 99) #[] #[], .func (.func 97) #[] #[], .func (.func 100) #[] #[.pointer (some ⟨gh, 0, none⟩)], .slice none 0 0, .slice none 0 0]) (t := 98) ?hr ?_
 (case hr => first | (go_simp; done) | (go_simp; rfl))
 intro g hg w5 hbf hb4
 have n0 := zam (zkb BM.out hb4)
 have n1 := zam (zbt HB.out hb4)
 have n2 := zam (zkb BH.out hb4)
 have BF := zam hbf
 have GE3 : Aside0 (w.heap.size ≤ g) := ⟨by rw [hg]; exact zbz HB.out⟩
 have NE1 : Aside0 (gm ≠ g) := ⟨by rw [hg]; exact Nat.ne_of_lt (blk_lt BM.out)⟩
 have NE2 : Aside0 (gh ≠ g) := ⟨by rw [hg]; exact Nat.ne_of_lt (blk_lt BH.out)⟩
 clear BM HB BH hbf hb4 hg
 have BM := n0
 have HB := n1
 have BH := n2
 clear n0 n1 n2
 refine hK.out _ _ ⟨((zkc BM.out 0).trans rfl), ((zkc BM.out 1).trans rfl), ((zkc BM.out 2).trans rfl), ((zkc BM.out 3).trans rfl)⟩ (fun hHeld => ?_)
 clear hK K
 refine norm_ (a' := ?_) ?_ ?_
 rotate_left
 ·show Act.put _ (some 29) _ = _
  simp only [Act.put, zsa, zsz, zss, i64_w, i32_w]
  rfl
 refine pure_ (i := 4) (N := some 9) (v := ?_) (a' := ?_) #[true, true, true, true, true] rfl rfl (by kernel_rfl) (fun _ _ _ h => h) (Or.inl ⟨by rfl, ?_⟩) ?_ ?_
 rotate_left
 ·intro w'
  go_simp
  with_reducible rfl
 rotate_left
 ·simp only [Act.put, zsa, zsz, zss, i64_w, i32_w]
  rfl
 refine done_ (by kernel_rfl) ?_
 try clear hHeld
 go_wp2
 go_loopg [10, 11, 32] els.length (fun kq v10 v11 v32 w' => NFRel w gm g gh A c d an fr els cs kq v10 v11 v32 w')
 case atStart => exact NFRel.start BM.out BH.out BF.out HB.out
 case round =>
  clear BM BH BF HB
  obtain ⟨j, hj, hcur, rfl, rfl, rfl, BM0, BH0, ⟨von, vli, BF0, RO0, RL0⟩, HB0⟩ := hrel
  have BM := zam BM0
  have BH := zam BH0
  have BF := zam BF0
  have RO := zam RO0
  have RL := zam RL0
  have HB := zam HB0
  have HCUR := zam hcur
  have HJ := zam hj
  clear BM0 BH0 BF0 RO0 RL0 HB0 hcur hj
  by_cases hlt : j < els.length
  ·have hltc : j < cs.length := by rw [HL.out]; exact hlt
   have HLT := zam hlt
   have HLTC := zam hltc
   have c3 : decide ((j : Int) < (cs.length : Int)) = true := zdt (by omega)
   have c3n : decide (j < cs.length) = true := zdt hltc
   have p1 : (0 : Int) ≤ (j : Int) := by omega
   have q1 : (j : Int) < (cs.length : Int) := by omega
   have q2 : (j : Int) < (els.length : Int) := by omega
   obtain ⟨ad1, e1, hx0, hx1⟩ := at_T57 HR1.out (j : Int) p1 (by exact q1)
   cases e1
   replace hx0 := (HB.out.cell (zwb w _ hx0)).trans hx0
   replace hx1 := (HB.out.cell (zwb w _ hx1)).trans hx1
   rw [Moor.rdS hltc] at hx0 hx1
   obtain ⟨s, hs⟩ : ∃ s, cs[j]? = some s := ⟨_, List.getElem?_eq_getElem hltc⟩
   have hs1 : cs[j] = s := by rw [List.getElem?_eq_getElem hltc] at hs; exact zsi hs
   rw [hs1] at hx0 hx1
   simp only [Int.toNat_natCast] at hx0 hx1
   have HS := zam hs
   have HS1 : Aside0 (∀ b, Moor.curB s = b → Moor.curB (cs[j]'hltc) = b) := ⟨fun b hb => by rw [hs1]; exact hb⟩
   have hbad : Moor.curB s = false → Moor.err2 els cs stand = 2 := fun hb => by
    unfold Moor.err2
    rw [if_neg (Moor.cur_bad hltc (HS1.out _ hb))]
   have HBAD := zam hbad
   clear hs hs1 hbad HS1 hlt hltc
   have HCK := zam (Bnd.check1 s.f0 s.f1)
   obtain ⟨b, hb⟩ : ∃ b, b = Bnd.chk s.f0 s.f1 := ⟨_, rfl⟩
   rw [← hb] at HCK
   have HBV := zam hb
   clear hb
   by_cases hb0 : b = 0
   ·subst hb0
    have HV : Aside0 (s.f0 ≤ s.f1 ∧ -1073741824 ≤ s.f0 ∧ s.f1 ≤ 1073741824) := ⟨by
     have h1 := HBV.out
     unfold Bnd.chk at h1
     by_cases h2 : s.f0 ≤ s.f1 ∧ -1073741824 ≤ s.f0 ∧ s.f1 ≤ 1073741824
     ·exact h2
     rw [if_neg h2] at h1; cases h1⟩
    clear HBV
    by_cases hf0 : s.f0 < 0
    ·have HB2 : Aside0 (Moor.err2 els cs stand = 2) := ⟨HBAD.out (by unfold Moor.curB; simp; omega)⟩
     have d2 : decide (s.f0 < 0) = true := zdt hf0
     clear hf0
     go_wp2_with (go_at_call 89; (with_reducible refine (bound_Check.calls 3 s.f0 s.f1 0 _ HCK.out).mono ?_); rintro e w6 ⟨rfl, hb1⟩; have n1 := zam (zbt (zba HB.out _) hb1); have BS := zam (zkb (blk_new wr (.cells #[.int .i64 s.f0, .int .i64 s.f1] 57)) hb1); have hz0 := (zkc BS.out 0).trans rfl; have hz1 := (zkc BS.out 1).trans rfl; clear HB hb1; have HB := n1; clear n1)
     go_ret2
     exact NewForces.bad HB2.out (by decide) HB.out
    have d2 : decide (s.f0 < 0) = false := zdf hf0
    have HF0 := zam hf0
    clear hf0
    by_cases hf1 : s.f1 > 3000
    ·have HB2 : Aside0 (Moor.err2 els cs stand = 2) := ⟨HBAD.out (by unfold Moor.curB; simp; omega)⟩
     have d3 : decide (3000 < s.f1) = true := zdt hf1
     clear hf1
     go_wp2_with (go_at_call 89; (with_reducible refine (bound_Check.calls 3 s.f0 s.f1 0 _ HCK.out).mono ?_); rintro e w6 ⟨rfl, hb1⟩; have n1 := zam (zbt (zba HB.out _) hb1); have BS := zam (zkb (blk_new wr (.cells #[.int .i64 s.f0, .int .i64 s.f1] 57)) hb1); have hz0 := (zkc BS.out 0).trans rfl; have hz1 := (zkc BS.out 1).trans rfl; clear HB hb1; have HB := n1; clear n1)
     go_ret2
     exact NewForces.bad HB2.out (by decide) HB.out
    have d3 : decide (3000 < s.f1) = false := zdf hf1
    have HF1 := zam hf1
    clear hf1
    obtain ⟨ad0, e0, hy0, hy1, hy2, hy3⟩ := at_T46 HR0.out (j : Int) p1 q2
    cases e0
    simp only [Int.toNat_natCast] at hy0 hy1 hy2 hy3
    rw [Moor.rdE HLT.out] at hy0 hy1 hy2 hy3
    obtain ⟨el, hel⟩ : ∃ el, els[j]? = some el := ⟨_, List.getElem?_eq_getElem HLT.out⟩
    have hel1 : els[j]'HLT.out = el := by rw [List.getElem?_eq_getElem HLT.out] at hel; exact zsi hel
    rw [hel1] at hy0 hy1 hy2 hy3
    have HELJ := zam hel
    have HELB : Aside0 (Moor.elB el = true) := ⟨by rw [← hel1]; exact HEL.out _ (List.getElem_mem HLT.out)⟩
    have HY1 := zam hy1
    have HY2 := zam hy2
    clear hel hel1 hy0 hy1 hy2 hy3
    go_wp2_with (go_at_call 89; (with_reducible refine (bound_Check.calls 3 s.f0 s.f1 0 _ HCK.out).mono ?_); rintro e w6 ⟨rfl, hb1⟩; have n1 := zam (zbt (zba HB.out _) hb1); have BS := zam (zkb (blk_new wr (.cells #[.int .i64 s.f0, .int .i64 s.f1] 57)) hb1); have n2 := zam (zkb (zka BM.out _) hb1); have n3 := zam (zkb (zka BH.out _) hb1); have n4 := zam (zkb (zka BF.out _) hb1); have n5 := zam (Kd.R_below (zRa RO.out _) hb1); have n6 := zam (Kd.R_below (zRa RL.out _) hb1); have NES := zam (R_new_ne RO.out (Nat.le_refl _)); have NEL := zam (R_new_ne RL.out (Nat.le_refl _)); have GES := zam (zbz HB.out); have LTM := zam (Nat.ne_of_lt (blk_lt BM.out)); have LTF := zam (Nat.ne_of_lt (blk_lt BF.out)); clear HB hb1 BM BH BF RO RL hx0 hx1; have HB := n1; have BM := n2; have BH := n3; have BF := n4; have RO := n5; have RL := n6; clear n1 n2 n3 n4 n5 n6; have hz0 := (zkc BS.out 0).trans rfl; have hz1 := (zkc BS.out 1).trans rfl; have hz2 := (zkc BM.out 1).trans rfl; have hz3 := (HB.out.cell (zwb w _ HY2.out)).trans HY2.out; generalize wr.heap.size = gs at *)
    have n1 := zam (zb1 HB.out)
    have n2 := zam (zkd BM.out)
    have n3 := zam (zkd BH.out)
    have n4 := zam (zkd BF.out)
    have n5 := zam (zRd RO.out)
    have n6 := zam (zRd RL.out)
    have n7 := zam (zkd BS.out)
    clear HB BM BH BF RO RL BS HY2 hz0 hz1 hz2 hz3
    have HB := n1
    have BM := n2
    have BH := n3
    have BF := n4
    have RO := n5
    have RL := n6
    have BS := n7
    clear n1 n2 n3 n4 n5 n6 n7
    have HEB := Moor.elB_iff.1 HELB.out
    have PB0 := Moor.prod_bound (a := el.f2) (b := s.f0) (by omega) (by omega) (by have := HF0.out; omega) (by have := HF1.out; have := HV.out; omega)
    have PB1 := Moor.prod_bound (a := el.f2) (b := s.f1) (by omega) (by omega) (by have := HF0.out; have := HV.out; omega) (by have := HF1.out; omega)
    have HQ0 : Aside0 (mooring_rounds_2.f (wrap64 (wrap64 (el.f2 * s.f0) * s.f0)) 1000000 = some (Moor.force el s).f0) := ⟨by
     rw [wrap_id (n := el.f2 * s.f0) (by omega) (by omega), wrap_id (by omega) (by omega), Moor.lo (by omega) (by omega)]
     rfl⟩
    have HQ1 : Aside0 (mooring_rounds_3.f (wrap64 (wrap64 (el.f2 * s.f1) * s.f1)) 1000000 = some (Moor.force el s).f1) := ⟨by
     rw [wrap_id (n := el.f2 * s.f1) (by omega) (by omega), wrap_id (by omega) (by omega), Moor.hi (by omega) (by omega)]
     rfl⟩
    clear HEB PB0 PB1
    obtain ⟨fo, hfo⟩ : ∃ fo, fo = Moor.force el s := ⟨_, rfl⟩
    rw [← hfo] at HQ0 HQ1
    have HFO := zam hfo
    clear hfo
    refine start_ (n := 37) (S := fun w' => w'.cell? ⟨g, 8, none⟩ = some von ∧ w'.cell? ⟨g, 4, none⟩ = some (.func (.func 98) #[] #[]) ∧ w'.cell? ⟨g, 5, none⟩ = some (.func (.func 99) #[] #[]) ∧ w'.cell? ⟨gs, 0, none⟩ = some (.int .i64 s.f0) ∧ w'.cell? ⟨gs, 1, none⟩ = some (.int .i64 s.f1)) (ds := [36]) #[false, false, false, false, false, false, false, false, false, false, false, false, false, false, false, false, false, false, false, false, false, false, false, false, false, false, false, false, false, false, false, false, false, false, false, false, false] (by kernel_rfl) rfl rfl ⟨((zkc BF.out 8).trans rfl), ((zkc BF.out 4).trans rfl), ((zkc BF.out 5).trans rfl), ((zkc BS.out 0).trans rfl), ((zkc BS.out 1).trans rfl)⟩ (fun hHeld => ?_)
    refine with_tabW newForces.tab14 newForces.bits14 (fun HT_ HW_ => ?_)
    generalize w6.drew = w7 at HB BM BH BF RO RL BS hHeld ⊢
    refine pure_ (i := 0) (N := some 56) (v := ?_) (a' := ?_) #[true, false, false, false, false, false, false, false, false, false, false, false, false, false, false, false, false, false, false, false, false, false, false, false, false, false, false, false, false, false, false, false, false, false, false, false, false] rfl rfl (any_of HT_.out (by kernel_rfl)) (fun _ _ _ h => h) (Or.inl ⟨by rfl, ?_⟩) ?_ ?_
    rotate_left
    ·intro w'
     go_simp
     with_reducible rfl
    rotate_left
    ·simp only [Act.put, zsa, zsz, zss, i64_w, i32_w]
     rfl
    refine pure_ (i := 1) (N := some 57) (v := ?_) (a' := ?_) #[true, true, false, false, false, false, false, false, false, false, false, false, false, false, false, false, false, false, false, false, false, false, false, false, false, false, false, false, false, false, false, false, false, false, false, false, false] rfl rfl (any_of HT_.out (by kernel_rfl)) (fun _ _ _ h => h) (Or.inl ⟨by rfl, ?_⟩) ?_ ?_
    rotate_left
    ·intro w'
     go_simp
     with_reducible rfl
    rotate_left
    ·simp only [Act.put, zsa, zsz, zss, i64_w, i32_w]
     rfl
    refine pure_ (i := 2) (N := some 58) (v := ?_) (a' := ?_) #[true, true, true, false, false, false, false, false, false, false, false, false, false, false, false, false, false, false, false, false, false, false, false, false, false, false, false, false, false, false, false, false, false, false, false, false, false] rfl rfl (any_of HT_.out (by kernel_rfl)) (fun _ _ _ h => h) (Or.inl ⟨by rfl, ?_⟩) ?_ ?_
    rotate_left
    ·intro w'
     go_simp
     with_reducible rfl
    rotate_left
    ·simp only [Act.put, zsa, zsz, zss, i64_w, i32_w]
     rfl
    refine pure_ (i := 3) (N := some 59) (v := ?_) (a' := ?_) #[true, true, true, true, false, false, false, false, false, false, false, false, false, false, false, false, false, false, false, false, false, false, false, false, false, false, false, false, false, false, false, false, false, false, false, false, false] rfl rfl (any_of HT_.out (by kernel_rfl)) (fun _ _ _ h => h) (Or.inl ⟨by rfl, ?_⟩) ?_ ?_
    rotate_left
    ·intro w'
     go_simp
     with_reducible rfl
    rotate_left
    ·simp only [Act.put, zsa, zsz, zss, i64_w, i32_w]
     rfl
    refine pure_ (i := 5) (N := some 61) (v := ?_) (a' := ?_) #[true, true, true, true, false, true, false, false, false, false, false, false, false, false, false, false, false, false, false, false, false, false, false, false, false, false, false, false, false, false, false, false, false, false, false, false, false] rfl rfl (any_of HT_.out (by kernel_rfl)) (fun _ _ _ h => h) (Or.inl ⟨by rfl, ?_⟩) ?_ ?_
    rotate_left
    ·intro w'
     go_simp
     with_reducible rfl
    rotate_left
    ·simp only [Act.put, zsa, zsz, zss, i64_w, i32_w]
     rfl
    refine pure_ (i := 6) (N := some 62) (v := ?_) (a' := ?_) #[true, true, true, true, false, true, true, false, false, false, false, false, false, false, false, false, false, false, false, false, false, false, false, false, false, false, false, false, false, false, false, false, false, false, false, false, false] rfl rfl (any_of HT_.out (by kernel_rfl)) (fun _ _ _ h => h) (Or.inl ⟨by rfl, ?_⟩) ?_ ?_
    rotate_left
    ·intro w'
     go_simp
     with_reducible rfl
    rotate_left
    ·simp only [Act.put, zsa, zsz, zss, i64_w, i32_w]
     rfl
    refine pure_ (i := 7) (N := some 63) (v := ?_) (a' := ?_) #[true, true, true, true, false, true, true, true, false, false, false, false, false, false, false, false, false, false, false, false, false, false, false, false, false, false, false, false, false, false, false, false, false, false, false, false, false] rfl rfl (any_of HT_.out (by kernel_rfl)) (fun _ _ _ h => h) (Or.inl ⟨by rfl, ?_⟩) ?_ ?_
    rotate_left
    ·intro w'
     go_simp
     with_reducible rfl
    rotate_left
    ·simp only [Act.put, zsa, zsz, zss, i64_w, i32_w]
     rfl
    refine pure_ (i := 8) (N := some 64) (v := ?_) (a' := ?_) #[true, true, true, true, false, true, true, true, true, false, false, false, false, false, false, false, false, false, false, false, false, false, false, false, false, false, false, false, false, false, false, false, false, false, false, false, false] rfl rfl (any_of HT_.out (by kernel_rfl)) (fun _ _ _ h => h) (Or.inl ⟨by rfl, ?_⟩) ?_ ?_
    rotate_left
    ·intro w'
     go_simp
     with_reducible rfl
    rotate_left
    ·simp only [Act.put, zsa, zsz, zss, i64_w, i32_w]
     rfl
    refine pure_ (i := 10) (N := some 66) (v := ?_) (a' := ?_) #[true, true, true, true, false, true, true, true, true, false, true, false, false, false, false, false, false, false, false, false, false, false, false, false, false, false, false, false, false, false, false, false, false, false, false, false, false] rfl rfl (any_of HT_.out (by kernel_rfl)) (fun _ _ _ h => h) (Or.inl ⟨by rfl, ?_⟩) ?_ ?_
    rotate_left
    ·intro w'
     go_simp
     with_reducible rfl
    rotate_left
    ·simp only [Act.put, zsa, zsz, zss, i64_w, i32_w]
     rfl
    refine pure_ (i := 11) (N := some 67) (v := ?_) (a' := ?_) #[true, true, true, true, false, true, true, true, true, false, true, true, false, false, false, false, false, false, false, false, false, false, false, false, false, false, false, false, false, false, false, false, false, false, false, false, false] rfl rfl (any_of HT_.out (by kernel_rfl)) (fun _ _ _ h => h) (Or.inl ⟨by rfl, ?_⟩) ?_ ?_
    rotate_left
    ·intro w'
     go_simp
     with_reducible rfl
    rotate_left
    ·simp only [Act.put, zsa, zsz, zss, i64_w, i32_w]
     rfl
    refine pure_ (i := 14) (N := some 70) (v := ?_) (a' := ?_) #[true, true, true, true, false, true, true, true, true, false, true, true, false, false, true, false, false, false, false, false, false, false, false, false, false, false, false, false, false, false, false, false, false, false, false, false, false] rfl rfl (any_of HT_.out (by kernel_rfl)) (fun _ _ _ h => h) (Or.inl ⟨by rfl, ?_⟩) ?_ ?_
    rotate_left
    ·intro w'
     go_simp
     with_reducible rfl
    rotate_left
    ·simp only [Act.put, zsa, zsz, zss, i64_w, i32_w]
     rfl
    refine pure_ (i := 18) (N := some 74) (v := ?_) (a' := ?_) #[true, true, true, true, false, true, true, true, true, false, true, true, false, false, true, false, false, false, true, false, false, false, false, false, false, false, false, false, false, false, false, false, false, false, false, false, false] rfl rfl (any_of HT_.out (by kernel_rfl)) (fun _ _ _ h => h) (Or.inl ⟨by rfl, ?_⟩) ?_ ?_
    rotate_left
    ·intro w'
     go_simp
     with_reducible rfl
    rotate_left
    ·simp only [Act.put, zsa, zsz, zss, i64_w, i32_w]
     rfl
    refine pure_ (i := 19) (N := some 75) (v := ?_) (a' := ?_) #[true, true, true, true, false, true, true, true, true, false, true, true, false, false, true, false, false, false, true, true, false, false, false, false, false, false, false, false, false, false, false, false, false, false, false, false, false] rfl rfl (any_of HT_.out (by kernel_rfl)) (fun _ _ _ h => h) (Or.inl ⟨by rfl, ?_⟩) ?_ ?_
    rotate_left
    ·intro w'
     go_simp
     with_reducible rfl
    rotate_left
    ·simp only [Act.put, zsa, zsz, zss, i64_w, i32_w]
     rfl
    refine pure_ (i := 20) (N := some 76) (v := ?_) (a' := ?_) #[true, true, true, true, false, true, true, true, true, false, true, true, false, false, true, false, false, false, true, true, true, false, false, false, false, false, false, false, false, false, false, false, false, false, false, false, false] rfl rfl (any_of HT_.out (by kernel_rfl)) (fun _ _ _ h => h) (Or.inl ⟨by rfl, ?_⟩) ?_ ?_
    rotate_left
    ·intro w'
     go_simp
     with_reducible rfl
    rotate_left
    ·simp only [Act.put, zsa, zsz, zss, i64_w, i32_w]
     rfl
    refine pure_ (i := 21) (N := some 77) (v := ?_) (a' := ?_) #[true, true, true, true, false, true, true, true, true, false, true, true, false, false, true, false, false, false, true, true, true, true, false, false, false, false, false, false, false, false, false, false, false, false, false, false, false] rfl rfl (any_of HT_.out (by kernel_rfl)) (fun _ _ _ h => h) (Or.inl ⟨by rfl, ?_⟩) ?_ ?_
    rotate_left
    ·intro w'
     go_simp
     with_reducible rfl
    rotate_left
    ·simp only [Act.put, zsa, zsz, zss, i64_w, i32_w]
     rfl
    refine pure_ (i := 23) (N := some 79) (v := ?_) (a' := ?_) #[true, true, true, true, false, true, true, true, true, false, true, true, false, false, true, false, false, false, true, true, true, true, false, true, false, false, false, false, false, false, false, false, false, false, false, false, false] rfl rfl (any_of HT_.out (by kernel_rfl)) (fun _ _ _ h => h) (Or.inl ⟨by rfl, ?_⟩) ?_ ?_
    rotate_left
    ·intro w'
     go_simp
     with_reducible rfl
    rotate_left
    ·simp only [Act.put, zsa, zsz, zss, i64_w, i32_w]
     rfl
    refine pure_ (i := 24) (N := some 80) (v := ?_) (a' := ?_) #[true, true, true, true, false, true, true, true, true, false, true, true, false, false, true, false, false, false, true, true, true, true, false, true, true, false, false, false, false, false, false, false, false, false, false, false, false] rfl rfl (any_of HT_.out (by kernel_rfl)) (fun _ _ _ h => h) (Or.inl ⟨by rfl, ?_⟩) ?_ ?_
    rotate_left
    ·intro w'
     go_simp
     with_reducible rfl
    rotate_left
    ·simp only [Act.put, zsa, zsz, zss, i64_w, i32_w]
     rfl
    refine pure_ (i := 27) (N := some 83) (v := ?_) (a' := ?_) #[true, true, true, true, false, true, true, true, true, false, true, true, false, false, true, false, false, false, true, true, true, true, false, true, true, false, false, true, false, false, false, false, false, false, false, false, false] rfl rfl (any_of HT_.out (by kernel_rfl)) (fun _ _ _ h => h) (Or.inl ⟨by rfl, ?_⟩) ?_ ?_
    rotate_left
    ·intro w'
     go_simp
     with_reducible rfl
    rotate_left
    ·simp only [Act.put, zsa, zsz, zss, i64_w, i32_w]
     rfl
    refine take_ (i := 4) (N := some 60) (v := ?_) (a' := ?_) #[true, true, true, true, true, true, true, true, true, false, true, true, false, false, true, false, false, false, true, true, true, true, false, true, true, false, false, true, false, false, false, false, false, false, false, false, false] rfl rfl (take_ofW HT_.out HW_.out (by kernel_rfl)) (fun _ _ _ h => h) (Or.inl ⟨by rfl, ?_⟩) hHeld ?_ ?_
    rotate_left
    ·rintro w' ⟨s0, s1, s2, s3, s4⟩
     go_simp
     with_reducible rfl
    rotate_left
    ·simp only [Act.put, zsa, zsz, zss, i64_w, i32_w]
     rfl
    refine take_ (i := 9) (N := some 65) (v := ?_) (a' := ?_) #[true, true, true, true, true, true, true, true, true, true, true, true, false, false, true, false, false, false, true, true, true, true, false, true, true, false, false, true, false, false, false, false, false, false, false, false, false] rfl rfl (take_ofW HT_.out HW_.out (by kernel_rfl)) (fun _ _ _ h => h) (Or.inl ⟨by rfl, ?_⟩) hHeld ?_ ?_
    rotate_left
    ·rintro w' ⟨s0, s1, s2, s3, s4⟩
     go_simp
     with_reducible rfl
    rotate_left
    ·simp only [Act.put, zsa, zsz, zss, i64_w, i32_w]
     rfl
    refine take_ (i := 12) (N := some 68) (v := ?_) (a' := ?_) #[true, true, true, true, true, true, true, true, true, true, true, true, true, false, true, false, false, false, true, true, true, true, false, true, true, false, false, true, false, false, false, false, false, false, false, false, false] rfl rfl (take_ofW HT_.out HW_.out (by kernel_rfl)) (fun _ _ _ h => h) (Or.inl ⟨by rfl, ?_⟩) hHeld ?_ ?_
    rotate_left
    ·rintro w' ⟨s0, s1, s2, s3, s4⟩
     go_simp
     with_reducible rfl
    rotate_left
    ·simp only [Act.put, zsa, zsz, zss, i64_w, i32_w]
     rfl
    refine pure_ (i := 13) (N := some 69) (v := ?_) (a' := ?_) #[true, true, true, true, true, true, true, true, true, true, true, true, true, true, true, false, false, false, true, true, true, true, false, true, true, false, false, true, false, false, false, false, false, false, false, false, false] rfl rfl (any_of HT_.out (by kernel_rfl)) (fun _ _ _ h => h) (Or.inl ⟨by rfl, ?_⟩) ?_ ?_
    rotate_left
    ·intro w'
     go_simp
     with_reducible rfl
    rotate_left
    ·simp only [Act.put, zsa, zsz, zss, i64_w, i32_w]
     rfl
    refine take_ (i := 15) (N := some 71) (v := ?_) (a' := ?_) #[true, true, true, true, true, true, true, true, true, true, true, true, true, true, true, true, false, false, true, true, true, true, false, true, true, false, false, true, false, false, false, false, false, false, false, false, false] rfl rfl (take_ofW HT_.out HW_.out (by kernel_rfl)) (fun _ _ _ h => h) (Or.inl ⟨by rfl, ?_⟩) hHeld ?_ ?_
    rotate_left
    ·rintro w' ⟨s0, s1, s2, s3, s4⟩
     go_simp
     with_reducible rfl
    rotate_left
    ·simp only [Act.put, zsa, zsz, zss, i64_w, i32_w]
     rfl
    refine pure_ (i := 16) (N := some 72) (v := ?_) (a' := ?_) #[true, true, true, true, true, true, true, true, true, true, true, true, true, true, true, true, true, false, true, true, true, true, false, true, true, false, false, true, false, false, false, false, false, false, false, false, false] rfl rfl (any_of HT_.out (by kernel_rfl)) (fun _ _ _ h => h) (Or.inl ⟨by rfl, ?_⟩) ?_ ?_
    rotate_left
    ·intro w'
     go_simp
     with_reducible rfl
    rotate_left
    ·simp only [Act.put, zsa, zsz, zss, i64_w, i32_w]
     rfl
    refine take_ (i := 22) (N := some 78) (v := ?_) (a' := ?_) #[true, true, true, true, true, true, true, true, true, true, true, true, true, true, true, true, true, false, true, true, true, true, true, true, true, false, false, true, false, false, false, false, false, false, false, false, false] rfl rfl (take_ofW HT_.out HW_.out (by kernel_rfl)) (fun _ _ _ h => h) (Or.inl ⟨by rfl, ?_⟩) hHeld ?_ ?_
    rotate_left
    ·rintro w' ⟨s0, s1, s2, s3, s4⟩
     go_simp
     with_reducible rfl
    rotate_left
    ·simp only [Act.put, zsa, zsz, zss, i64_w, i32_w]
     rfl
    refine take_ (i := 25) (N := some 81) (v := ?_) (a' := ?_) #[true, true, true, true, true, true, true, true, true, true, true, true, true, true, true, true, true, false, true, true, true, true, true, true, true, true, false, true, false, false, false, false, false, false, false, false, false] rfl rfl (take_ofW HT_.out HW_.out (by kernel_rfl)) (fun _ _ _ h => h) (Or.inl ⟨by rfl, ?_⟩) hHeld ?_ ?_
    rotate_left
    ·rintro w' ⟨s0, s1, s2, s3, s4⟩
     go_simp
     with_reducible rfl
    rotate_left
    ·simp only [Act.put, zsa, zsz, zss, i64_w, i32_w]
     rfl
    refine pure_ (i := 26) (N := some 82) (v := ?_) (a' := ?_) #[true, true, true, true, true, true, true, true, true, true, true, true, true, true, true, true, true, false, true, true, true, true, true, true, true, true, true, true, false, false, false, false, false, false, false, false, false] rfl rfl (any_of HT_.out (by kernel_rfl)) (fun _ _ _ h => h) (Or.inl ⟨by rfl, ?_⟩) ?_ ?_
    rotate_left
    ·intro w'
     go_simp
     with_reducible rfl
    rotate_left
    ·simp only [Act.put, zsa, zsz, zss, i64_w, i32_w]
     rfl
    refine take_ (i := 28) (N := some 84) (v := ?_) (a' := ?_) #[true, true, true, true, true, true, true, true, true, true, true, true, true, true, true, true, true, false, true, true, true, true, true, true, true, true, true, true, true, false, false, false, false, false, false, false, false] rfl rfl (take_ofW HT_.out HW_.out (by kernel_rfl)) (fun _ _ _ h => h) (Or.inl ⟨by rfl, ?_⟩) hHeld ?_ ?_
    rotate_left
    ·rintro w' ⟨s0, s1, s2, s3, s4⟩
     go_simp
     with_reducible rfl
    rotate_left
    ·simp only [Act.put, zsa, zsz, zss, i64_w, i32_w]
     rfl
    refine pure_ (i := 29) (N := some 85) (v := ?_) (a' := ?_) #[true, true, true, true, true, true, true, true, true, true, true, true, true, true, true, true, true, false, true, true, true, true, true, true, true, true, true, true, true, true, false, false, false, false, false, false, false] rfl rfl (any_of HT_.out (by kernel_rfl)) (fun _ _ _ h => h) (Or.inl ⟨by rfl, ?_⟩) ?_ ?_
    rotate_left
    ·intro w'
     go_simp
     with_reducible rfl
    rotate_left
    ·simp only [Act.put, zsa, zsz, zss, i64_w, i32_w]
     rfl
    refine one_ (i := 17) (N := some 73) #[true, true, true, true, true, true, true, true, true, true, true, true, true, true, true, true, true, true, true, true, true, true, true, true, true, true, true, true, true, true, false, false, false, false, false, false, false] rfl rfl (one_of HT_.out (by kernel_rfl)) (by decide) (fun K hK => ?_)
    refine goesT_ Try.func98 (by kernel_rfl) rfl #[.int .i64 (wrap64 (wrap64 (el.f2 * s.f0) * s.f0)), .int .i64 1000000] (by rfl) rfl rfl rfl (by simp only [zmt, List.map_cons, List.map_nil]; rfl) ?_
    with_reducible refine (mooring_rounds_2.calls _ 1000000 fo.f0 _ HQ0.out).mono ?_
    rintro e w' ⟨rfl, ⟨nd, rfl⟩⟩
    refine ⟨_, rfl, ?_⟩
    refine hK.out _ _ ⟨((zkc BF.out 8).trans rfl), ((zkc BF.out 4).trans rfl), ((zkc BF.out 5).trans rfl), ((zkc BS.out 0).trans rfl), ((zkc BS.out 1).trans rfl)⟩ (fun hHeld => ?_)
    clear hK K
    refine norm_ (a' := ?_) ?_ ?_
    rotate_left
    ·show Act.put _ (some 73) _ = _
     simp only [Act.put, zsa, zsz, zss, i64_w, i32_w]
     rfl
    refine one_ (i := 30) (N := some 86) #[true, true, true, true, true, true, true, true, true, true, true, true, true, true, true, true, true, true, true, true, true, true, true, true, true, true, true, true, true, true, true, false, false, false, false, false, false] rfl rfl (one_of HT_.out (by kernel_rfl)) (by decide) (fun K hK => ?_)
    refine goesT_ Try.func99 (by kernel_rfl) rfl #[.int .i64 (wrap64 (wrap64 (el.f2 * s.f1) * s.f1)), .int .i64 1000000] (by rfl) rfl rfl rfl (by simp only [zmt, List.map_cons, List.map_nil]; rfl) ?_
    with_reducible refine (mooring_rounds_3.calls _ 1000000 fo.f1 _ HQ1.out).mono ?_
    rintro e w' ⟨rfl, ⟨nd2, rfl⟩⟩
    refine ⟨_, rfl, ?_⟩
    refine hK.out _ _ ⟨((zkc BF.out 8).trans rfl), ((zkc BF.out 4).trans rfl), ((zkc BF.out 5).trans rfl), ((zkc BS.out 0).trans rfl), ((zkc BS.out 1).trans rfl)⟩ (fun hHeld => ?_)
    clear hK K
    refine norm_ (a' := ?_) ?_ ?_
    rotate_left
    ·show Act.put _ (some 86) _ = _
     simp only [Act.put, zsa, zsz, zss, i64_w, i32_w]
     rfl
    refine pure_ (i := 31) (N := some 87) (v := ?_) (a' := ?_) #[true, true, true, true, true, true, true, true, true, true, true, true, true, true, true, true, true, true, true, true, true, true, true, true, true, true, true, true, true, true, true, true, false, false, false, false, false] rfl rfl (any_of HT_.out (by kernel_rfl)) (fun _ _ _ h => h) (Or.inl ⟨by rfl, ?_⟩) ?_ ?_
    rotate_left
    ·intro w'
     go_simp
     with_reducible rfl
    rotate_left
    ·simp only [Act.put, zsa, zsz, zss, i64_w, i32_w]
     rfl
    refine one_ (i := 32) (N := some 88) #[true, true, true, true, true, true, true, true, true, true, true, true, true, true, true, true, true, true, true, true, true, true, true, true, true, true, true, true, true, true, true, true, true, false, false, false, false] rfl rfl (one_of HT_.out (by kernel_rfl)) (by decide) (fun K hK => ?_)
    refine value_ (w1 := ?_) (v := ?_) (by rfl) rfl ?_ ?_
    rotate_left 2
    ·go_simp
     constructor
     ·rfl
     rfl
    refine hK.out _ _ ⟨((zkc (zka BF.out _) 8).trans rfl), ((zkc (zka BF.out _) 4).trans rfl), ((zkc (zka BF.out _) 5).trans rfl), ((zkc (zka BS.out _) 0).trans rfl), ((zkc (zka BS.out _) 1).trans rfl)⟩ (fun hHeld => ?_)
    clear hK K
    refine norm_ (a' := ?_) ?_ ?_
    rotate_left
    ·show Act.put _ (some 88) _ = _
     simp only [Act.put, zsa, zsz, zss, i64_w, i32_w]
     rfl
    refine one_ (i := 33) (N := some 89) #[true, true, true, true, true, true, true, true, true, true, true, true, true, true, true, true, true, true, true, true, true, true, true, true, true, true, true, true, true, true, true, true, true, true, false, false, false] rfl rfl (one_of HT_.out (by kernel_rfl)) (by decide) (fun K hK => ?_)
    refine Kd.R_append_step k57 (w0 := w) w.heap.size (by rfl) (.tmp 60) (.tmp 88) 48 57 (.agg #[(.int .i64 0), (.int .i64 0)]) 16 rfl Try.underlying48 info57 rfl (by decide) (by omega) von (Moor.on (els.take j) (cs.take j)) fo [.int .i64 fo.f0, .int .i64 fo.f1] (fun _ => True) (fun _ => False) rfl rfl ?aP (fun _ hk => hk.elim) ?aF ?aO ?aB ?aS ?aL ?_
    (case aP => exact k57_mkM _ _ _ fo)
    (case aF => exact fun _ _ => trivial)
    (case aO => exact (by (with_reducible repeat (first | apply zRa | apply zRn | apply zRd)); exact RO.out))
    (case aB => exact (by repeat (first | (with_reducible first | exact HB.out | apply zba | apply zbn | apply zb1) | exact HB.out)))
    (case aS => exact (zbz (by repeat (first | (with_reducible first | exact HB.out | apply zba | apply zbn | apply zb1) | exact HB.out))))
    (case aL => exact Moor.on_small h40)
    intro v1 w8 ho hb hg hat
    obtain ⟨A8, n8, c8, rfl⟩ : ∃ A n c, v1 = .slice A n c := by
     obtain ⟨A, c, h⟩ := Kd.R_slice ho
     exact ⟨A, _, c, h⟩
    rw [HFO.out, ← Moor.on_take' HELJ.out HS.out] at ho
    have n2 := zam (blk_grown (zkn BM.out (nd + nd2)) hg (Kd.R_ne RO.out BM.out (by decide)))
    have n3 := zam (blk_grown (zkn BH.out (nd + nd2)) hg (Kd.R_ne RO.out BH.out (by decide)))
    have n4 := zam (blk_grown (zkn BF.out (nd + nd2)) hg (Kd.R_ne RO.out BF.out (by decide)))
    have n5 := zam (blk_grown (zkn BS.out (nd + nd2)) hg NES.out)
    have n6 := zam (R_beside (zRn RL.out (nd + nd2)) (zRn RO.out (nd + nd2)) (by decide) hg)
    clear HB BM BH BF RO RL BS
    have HB := zam hb
    have BM := n2
    have BH := n3
    have BF := n4
    have BS := n5
    have RO := zam ho
    have RL := n6
    clear n2 n3 n4 n5 n6 ho hb hg hat
    refine hK.out _ _ ⟨((zkc BF.out 8).trans rfl), ((zkc BF.out 4).trans rfl), ((zkc BF.out 5).trans rfl), ((zkc BS.out 0).trans rfl), ((zkc BS.out 1).trans rfl)⟩ (fun hHeld => ?_)
    clear hK K
    refine norm_ (a' := ?_) ?_ ?_
    rotate_left
    ·show Act.put _ (some 89) _ = _
     simp only [Act.put, zsa, zsz, zss, i64_w, i32_w]
     rfl
    refine pure_ (i := 34) (N := some 90) (v := ?_) (a' := ?_) #[true, true, true, true, true, true, true, true, true, true, true, true, true, true, true, true, true, true, true, true, true, true, true, true, true, true, true, true, true, true, true, true, true, true, true, false, false] rfl rfl (any_of HT_.out (by kernel_rfl)) (fun _ _ _ h => h) (Or.inl ⟨by rfl, ?_⟩) ?_ ?_
    rotate_left
    ·intro w'
     go_simp
     with_reducible rfl
    rotate_left
    ·simp only [Act.put, zsa, zsz, zss, i64_w, i32_w]
     rfl
    refine pure_ (i := 35) (N := some 91) (v := ?_) (a' := ?_) #[true, true, true, true, true, true, true, true, true, true, true, true, true, true, true, true, true, true, true, true, true, true, true, true, true, true, true, true, true, true, true, true, true, true, true, true, false] rfl rfl (any_of HT_.out (by kernel_rfl)) (fun _ _ _ h => h) (Or.inl ⟨by rfl, ?_⟩) ?_ ?_
    rotate_left
    ·intro w'
     go_simp
     with_reducible rfl
    rotate_left
    ·simp only [Act.put, zsa, zsz, zss, i64_w, i32_w]
     rfl
    refine last_ (i := 36) (N := none) #[true, true, true, true, true, true, true, true, true, true, true, true, true, true, true, true, true, true, true, true, true, true, true, true, true, true, true, true, true, true, true, true, true, true, true, true, true] rfl rfl (one_of HT_.out (by kernel_rfl)) (by decide) (fun K hK => ?_)
    clear hHeld
    have hz8 := (zkc BF.out 8).trans rfl
    have hf8 := zkz BF.out 8
    refine skip_ (w1 := ?_) (by rfl) rfl ?_ ?_
    rotate_left
    ·go_simp
     rfl
    refine hK.out _ _ ?_
    clear hK K
    refine done_ (done_of HT_.out (by kernel_rfl)) ?_
    clear hz8 hf8
    have n1 := zam (zbs (j := 8) (v := .slice A8 n8 c8) HB.out GE3.out)
    have n2 := zam (zkf (p := ⟨g, 8, none⟩) BM.out NE1.out (.slice A8 n8 c8))
    have n3 := zam (zkf (p := ⟨g, 8, none⟩) BH.out NE2.out (.slice A8 n8 c8))
    have n4 := zam (blk_put (cs' := #[.int .i64 d, .slice (some ad0) els.length c, .int .i64 an, .int .i64 fr, .func (.func 98) #[] #[], .func (.func 99) #[] #[], .func (.func 97) #[] #[], .func (.func 100) #[] #[.pointer (some ⟨gh, 0, none⟩)], .slice A8 n8 c8, vli]) BF.out 8 (.slice A8 n8 c8) rfl)
    have n5 := zam (Kd.R_set RO.out BF.out (by decide) 8 (.slice A8 n8 c8))
    have n6 := zam (Kd.R_set RL.out BF.out (by decide) 8 (.slice A8 n8 c8))
    clear HB BM BH BF BS RO RL
    have HB := n1
    have BM := n2
    have BH := n3
    have BF := n4
    have RO := n5
    have RL := n6
    clear n1 n2 n3 n4 n5 n6
    generalize w8.setCell ⟨g, 8, none⟩ (.slice A8 n8 c8) = w9 at HB BM BH BF RO RL ⊢
    have hz2 := (zkc BM.out 1).trans rfl
    have hz3 := (HB.out.cell (zwb w _ HY1.out)).trans HY1.out
    have hz9 := (zkc BF.out 9).trans rfl
    have hf9 := zkz BF.out 9
    obtain ⟨k1, rfl⟩ : ∃ k1, gk = k1 + 1 := ⟨gk - 1, by have := HJ.out; have := HLT.out; omega⟩
    have HSB := zam (Moor.sumL_take_bound HEL.out h40 j)
    have HWS : Aside0 (wrap64 (Moor.sumL (els.take j) + el.f1) = Moor.sumL (els.take (j + 1))) := ⟨by
     have h1 := Moor.elB_iff.1 HELB.out
     have h2 := HSB.out
     rw [Moor.sumL_take' HELJ.out, wrap_id (by omega) (by omega)]⟩
    have HST : Aside0 ((Moor.lifts (els.take (j + 1))).all (fun x => decide (1 ≤ x)) = ((Moor.lifts (els.take j)).all (fun x => decide (1 ≤ x)) && decide (1 ≤ wrap64 (Moor.sumL (els.take j) + el.f1)))) := ⟨by
     rw [Moor.lifts_take' HELJ.out, List.all_append, HWS.out, Moor.sumL_take' HELJ.out]
     simp⟩
    generalize hst : (Moor.lifts (els.take j)).all (fun x => decide (1 ≤ x)) = st at HST ⊢
    clear hst
    generalize hsm : Moor.sumL (els.take j) = sm at HSB HWS HST ⊢
    clear HSB
    generalize hsw : wrap64 (sm + el.f1) = sw at HWS HST
    have HSW := zam hsw
    have HSM := zam hsm
    clear hsm
    have c9 : (IntKind.i64.wrap (sm + el.f1)) = sw := by rw [i64_w]; exact hsw
    cases st with
    | true =>
     go_wp2_with ((with_reducible refine gate_builtin (b := .append) (xs := #[.tmp 104, .tmp 106]) rfl ?_); at_builtin; refine Kd.R_append (Kd.int .i64) (w0 := w) w.heap.size rfl (.tmp 104) (.tmp 106) 42 2 (.int .i64 0) 8 rfl Try.underlying42 info2 rfl (by decide) (by omega) vli (Moor.lifts (els.take j)) sw [.int .i64 sw] (fun _ => True) (fun _ => False) rfl rfl ?aP (fun _ hk => hk.elim) ?aF ?aO ?aB ?aS ?aL ?_; (case aP => exact rfl); (case aF => exact (fun _ _ => trivial)); (case aO => exact (by (with_reducible repeat (first | apply zRa | apply zRn | apply zRd)); exact RL.out)); (case aB => exact HB.out); (case aS => exact zbz HB.out); (case aL => exact Moor.lifts_small h40); intro v2 w10 ho hb hg hat; obtain ⟨A9, n9, c9, rfl⟩ : ∃ A n c, v2 = .slice A n c := (by obtain ⟨A, c, h⟩ := Kd.R_slice ho; exact ⟨A, _, c, h⟩); rw [HWS.out, Moor.sumL_take' HELJ.out, ← Moor.lifts_take' HELJ.out] at ho; have n2 := zam (blk_grown BM.out hg (Kd.R_ne RL.out BM.out (by decide))); have n3 := zam (blk_grown BH.out hg (Kd.R_ne RL.out BH.out (by decide))); have n4 := zam (blk_grown BF.out hg (Kd.R_ne RL.out BF.out (by decide))); have n5 := zam (R_beside RO.out RL.out (by decide) hg); clear HB BM BH BF RO RL hz2 hz3 hz9 hf9; have HB := zam hb; have BM := n2; have BH := n3; have BF := n4; have RO := n5; have RL := zam ho; clear n2 n3 n4 n5 ho hb hg hat; have hz9 := (zkc BF.out 9).trans rfl; have hf9 := zkz BF.out 9)
     have n1 := zam (zbs (j := 9) (v := .slice A9 n9 c9) HB.out GE3.out)
     have n2 := zam (zkf (p := ⟨g, 9, none⟩) BM.out NE1.out (.slice A9 n9 c9))
     have n3 := zam (zkf (p := ⟨g, 9, none⟩) BH.out NE2.out (.slice A9 n9 c9))
     have n4 := zam (blk_put (cs' := #[.int .i64 d, .slice (some ad0) els.length c, .int .i64 an, .int .i64 fr, .func (.func 98) #[] #[], .func (.func 99) #[] #[], .func (.func 97) #[] #[], .func (.func 100) #[] #[.pointer (some ⟨gh, 0, none⟩)], .slice A8 n8 c8, .slice A9 n9 c9]) BF.out 9 (.slice A9 n9 c9) rfl)
     have n5 := zam (Kd.R_set RO.out BF.out (by decide) 9 (.slice A9 n9 c9))
     have n6 := zam (Kd.R_set RL.out BF.out (by decide) 9 (.slice A9 n9 c9))
     go_roundg k1
     case measure => omega
     case rel => exact NFRel.next (by have := HJ.out; omega) (Moor.cur_take' HS.out HCUR.out HV.out (by have := HF0.out; omega) (by have := HF1.out; omega)) HWS.out.symm HST.out rfl n2.out n3.out n4.out n5.out n6.out n1.out
    | false =>
     go_wp2_with ((with_reducible refine gate_builtin (b := .append) (xs := #[.tmp 104, .tmp 106]) rfl ?_); at_builtin; refine Kd.R_append (Kd.int .i64) (w0 := w) w.heap.size rfl (.tmp 104) (.tmp 106) 42 2 (.int .i64 0) 8 rfl Try.underlying42 info2 rfl (by decide) (by omega) vli (Moor.lifts (els.take j)) sw [.int .i64 sw] (fun _ => True) (fun _ => False) rfl rfl ?aP (fun _ hk => hk.elim) ?aF ?aO ?aB ?aS ?aL ?_; (case aP => exact rfl); (case aF => exact (fun _ _ => trivial)); (case aO => exact (by (with_reducible repeat (first | apply zRa | apply zRn | apply zRd)); exact RL.out)); (case aB => exact HB.out); (case aS => exact zbz HB.out); (case aL => exact Moor.lifts_small h40); intro v2 w10 ho hb hg hat; obtain ⟨A9, n9, c9, rfl⟩ : ∃ A n c, v2 = .slice A n c := (by obtain ⟨A, c, h⟩ := Kd.R_slice ho; exact ⟨A, _, c, h⟩); rw [HWS.out, Moor.sumL_take' HELJ.out, ← Moor.lifts_take' HELJ.out] at ho; have n2 := zam (blk_grown BM.out hg (Kd.R_ne RL.out BM.out (by decide))); have n3 := zam (blk_grown BH.out hg (Kd.R_ne RL.out BH.out (by decide))); have n4 := zam (blk_grown BF.out hg (Kd.R_ne RL.out BF.out (by decide))); have n5 := zam (R_beside RO.out RL.out (by decide) hg); clear HB BM BH BF RO RL hz2 hz3 hz9 hf9; have HB := zam hb; have BM := n2; have BH := n3; have BF := n4; have RO := n5; have RL := zam ho; clear n2 n3 n4 n5 ho hb hg hat; have hz9 := (zkc BF.out 9).trans rfl; have hf9 := zkz BF.out 9)
     have n1 := zam (zbs (j := 9) (v := .slice A9 n9 c9) HB.out GE3.out)
     have n2 := zam (zkf (p := ⟨g, 9, none⟩) BM.out NE1.out (.slice A9 n9 c9))
     have n3 := zam (zkf (p := ⟨g, 9, none⟩) BH.out NE2.out (.slice A9 n9 c9))
     have n4 := zam (blk_put (cs' := #[.int .i64 d, .slice (some ad0) els.length c, .int .i64 an, .int .i64 fr, .func (.func 98) #[] #[], .func (.func 99) #[] #[], .func (.func 97) #[] #[], .func (.func 100) #[] #[.pointer (some ⟨gh, 0, none⟩)], .slice A8 n8 c8, .slice A9 n9 c9]) BF.out 9 (.slice A9 n9 c9) rfl)
     have n5 := zam (Kd.R_set RO.out BF.out (by decide) 9 (.slice A9 n9 c9))
     have n6 := zam (Kd.R_set RL.out BF.out (by decide) 9 (.slice A9 n9 c9))
     go_roundg k1
     case measure => omega
     case rel => exact NFRel.next (by have := HJ.out; omega) (Moor.cur_take' HS.out HCUR.out HV.out (by have := HF0.out; omega) (by have := HF1.out; omega)) HWS.out.symm HST.out rfl n2.out n3.out n4.out n5.out n6.out n1.out
   have HB2 : Aside0 (Moor.err2 els cs stand = 2) := ⟨HBAD.out (by
    have h1 := HBV.out
    unfold Bnd.chk at h1
    by_cases h2 : s.f0 ≤ s.f1 ∧ -1073741824 ≤ s.f0 ∧ s.f1 ≤ 1073741824
    ·rw [if_pos h2] at h1; exact absurd h1 hb0
    unfold Moor.curB; simp; omega)⟩
   have d1 : (b != 0) = true := bne_iff_ne.mpr hb0
   clear hb0
   go_wp2_with (go_at_call 89; (with_reducible refine (bound_Check.calls 3 s.f0 s.f1 b _ HCK.out).mono ?_); rintro e w6 ⟨rfl, hb1⟩; have n1 := zam (zbt (zba HB.out _) hb1); clear HB hb1; have HB := n1; clear n1)
   go_ret2
   exact NewForces.bad HB2.out (by decide) HB.out
  have hje : j = els.length := by have := HJ.out; omega
  have c3 : decide ((j : Int) < (cs.length : Int)) = false := zdf (by have := HL.out; omega)
  have c3n : decide (j < cs.length) = false := zdf (by have := HL.out; omega)
  have HJE := zam hje
  clear hlt hje
  have hall : (Moor.lifts (els.take j)).all (fun x => decide (1 ≤ x)) = Moor.stands els := by
   rw [HJE.out, List.take_length]; rfl
  have hcur : cs.all Moor.curB = true := by
   have h1 := HCUR.out
   rw [List.take_of_length_le (by have := HJE.out; have := HL.out; omega)] at h1
   exact h1
  have HR : Aside0 (Moor.err2 els cs stand = if stand = true ∧ Moor.stands els = false then 10 else 0) := ⟨by unfold Moor.err2; rw [if_pos hcur]⟩
  clear hcur
  rw [hall]
  clear hall
  generalize Moor.stands els = st at HR ⊢
  cases stand with
  | true =>
   cases st with
   | true =>
    go_wp2
    go_ret2
    exact NewForces.good (HR.out.trans (by decide)) (IsForces.mk' HJE.out HL.out HR0.out HB.out BH.out BF.out RO.out RL.out) HB.out
   | false =>
    go_wp2
    go_ret2
    exact NewForces.bad (HR.out.trans (by decide)) (by decide) HB.out
  | false =>
   go_wp2
   go_ret2
   exact NewForces.good (HR.out.trans (by simp)) (IsForces.mk' HJE.out HL.out HR0.out HB.out BH.out BF.out RO.out RL.out) HB.out
theorem mooring_newForces.calls {d an fr : Int} {els : List S46} (A : Option Addr) (c : Nat) (A1 : Option Addr) (c1 : Nat) (cs : List S57) (stand : Bool) (r : Int) (w : World) (hr0 : Kd.C k46 w A els.length els) (hc0 : els.length ≤ c) (hr1 : Kd.C k57 w A1 cs.length cs) (hc1 : cs.length ≤ c1) (hr : Moor.err d els an fr cs stand = r) :
  Calls Try.prog 58 #[.agg #[.int .i64 d, .slice A els.length c, .int .i64 an, .int .i64 fr], .slice A1 cs.length c1, .bool stand] w (NewForces w A c d an fr els cs r) := by
 subst hr
 have hk := Moor.check (d := d) (an := an) (fr := fr) (els := els) hr0.2.1 (Nat.le_refl 43)
 unfold Moor.err
 by_cases h : Moor.chk d els an fr = 0
 ·rw [if_neg (by simpa using h)]
  rw [h] at hk
  obtain ⟨h40, _, _, _, _, _, _, _, hel⟩ := Moor.chk_ok h
  by_cases hl : cs.length = els.length
  ·rw [if_neg (by simpa using hl)]
   exact newForces_main A c A1 c1 cs stand w hr0 hc0 hr1 hc1 hk hl h40 hel
  rw [if_pos hl]
  exact (newForces_equal A c A1 c1 cs stand w hr0 hc0 hk hl).mono fun e w' ⟨he, hb⟩ => .inl ⟨by decide, he, hb⟩
 rw [if_pos h]
 exact (newForces_err A c A1 c1 cs stand _ w hr0 hc0 hk h).mono fun e w' ⟨he, hb⟩ => .inl ⟨h, he, hb⟩
def IsShape (w : World) (gs : Nat) (A : Option Addr) (c : Nat) (d an fr : Int) (els : List S46) (on : List S57) (li : List Int) (ps : List S57) : Prop :=
 ∃ g A4 c4, w.heap[gs]? = some (.cells #[.pointer (some ⟨g, 0, none⟩), .slice A4 ps.length c4] 129 (0, 0)) ∧ IsForces w g A c d an fr els on li ∧ Kd.C k57 w A4 ps.length ps ∧ ps.length ≤ c4
theorem IsShape.below {w w1 : World} {gs : Nat} {A : Option Addr} {c : Nat} {d an fr : Int} {els : List S46} {on : List S57} {li : List Int} {ps : List S57} (h : IsShape w gs A c d an fr els on li ps) (hb : Below w.heap.size w w1) : IsShape w1 gs A c d an fr els on li ps := by
 obtain ⟨g, A4, c4, h1, h2, h3, h4⟩ := h
 exact ⟨g, A4, c4, zkb h1 hb, h2.below hb, Kd.C_below h3 hb, h4⟩
def squares.T1 : Bool × List (List Nat × List Nat) := (true, [([], []), ([0], [0]), ([1], [1]), ([2], [2]), ([], []), ([3, 4], [3, 4]), ([5], [5]), ([], []), ([7], [7]), ([8], [8]), ([9], [9]), ([10], [10]), ([11], [11]), ([12], [12]), ([], []), ([13, 14], [13, 14]), ([15], [15]), ([], []), ([17, 6, 0, 1, 2, 3, 4, 5, 6, 17], [6, 17]), ([16, 18, 0, 1, 2, 3, 4, 5, 6, 7, 8, 9, 10, 11, 12, 13, 14, 15, 16, 17, 18], [16])])
def squares.B1 : List Nat := [0, 1, 3, 7, 0, 31, 63, 0, 128, 384, 896, 1920, 3968, 8064, 0, 32640, 65408, 0, 131199, 524287]
theorem squares.tab1 : rtab .any (opsOf Try.f90 1) = squares.T1 := by kernel_rfl
theorem squares.bits1 : waitsOk squares.T1.2 squares.B1 = true := by kernel_rfl
def squares.T2 : Bool × List (List Nat × List Nat) := (true, [([], []), ([0], [0]), ([], []), ([2], [2]), ([1, 3], [1, 3]), ([], []), ([], []), ([5, 6], [5, 6]), ([4, 7], [4, 7]), ([], []), ([9], [9]), ([], []), ([11], [11]), ([10, 12], [10, 12]), ([], []), ([], []), ([14, 15], [14, 15]), ([13, 16], [13, 16]), ([8, 0, 1, 2, 3, 4, 5, 6, 7, 8], [8]), ([17, 18, 0, 1, 2, 3, 4, 5, 6, 7, 8, 9, 10, 11, 12, 13, 14, 15, 16, 17, 18], [17])])
def squares.B2 : List Nat := [0, 1, 0, 4, 15, 0, 0, 96, 255, 0, 512, 0, 2048, 7680, 0, 0, 49152, 130560, 511, 524287]
theorem squares.tab2 : rtab .any (opsOf Try.f90 2) = squares.T2 := by kernel_rfl
theorem squares.bits2 : waitsOk squares.T2.2 squares.B2 = true := by kernel_rfl
set_option maxHeartbeats 8000000 in
set_option maxRecDepth 100000 in
theorem mooring_squares.calls {d an fr : Int} {els : List S46} {on : List S57} {li : List Int} {ps : List S57} (A : Option Addr) (c : Nat) (gs : Nat) (i : Nat) (p : S57) (v : Int) (w : World) (h : IsShape w gs A c d an fr els on li ps) (hp : ps[i]? = some p) (hv : li[i]? = some v) :
  Calls Try.prog 90 #[.pointer (some ⟨gs, 0, none⟩), .int .i64 (i : Int)] w fun e w' => e = .returned (.tuple #[.int .i64 (wrap64 (wrap64 (p.f0 * p.f0) + wrap64 (v * v))), .int .i64 (wrap64 (wrap64 (p.f1 * p.f1) + wrap64 (v * v)))]) ∧ Below w.heap.size w w' := by
 have hu57 := Try.underlying57
 have hu98 := Try.underlying98
 have hu129 := Try.underlying129
 obtain ⟨g, A4, c4, h1, ⟨gh, A2, c2, A3, c3, h2, h3, h4, h5, h6, h7, h8⟩, h9, h10⟩ := h
 obtain ⟨hp1, hp2⟩ := List.getElem?_eq_some_iff.1 hp
 obtain ⟨hv1, hv2⟩ := List.getElem?_eq_some_iff.1 hv
 have p1 : (0 : Int) ≤ (i : Int) := by omega
 have q1 : (i : Int) < (ps.length : Int) := by omega
 have q2 : (i : Int) < (li.length : Int) := by omega
 obtain ⟨ad1, e1, hx0, hx1⟩ := at_T57 h9 (i : Int) p1 q1
 cases e1
 obtain ⟨ad2, e2, hy0⟩ := Kd.at_int h7 (i : Int) p1 q2
 cases e2
 rw [Moor.rdS hp1, hp2] at hx0 hx1
 rw [rd_nat hv1, hv2] at hy0
 simp only [Int.toNat_natCast] at hx0 hx1 hy0
 have BS := zam h1
 have BF := zam h2
 have HX0 := zam hx0
 have HX1 := zam hx1
 have HY0 := zam hy0
 clear h1 h2 h3 h4 h5 h6 h7 h8 h9 h10 hp hv hp1 hp2 hv1 hv2 hx0 hx1 hy0
 go_enter Try.func90, Try.ntmps90
 go_wp2
 have HB := zam (zb1 (Below.refl w.heap.size w))
 have n1 := zam (zkd BS.out)
 have n2 := zam (zkd BF.out)
 clear BS BF
 have BS := n1
 have BF := n2
 clear n1 n2
 refine start_ (n := 20) (S := fun w' => w'.cell? ⟨gs, 0, none⟩ = some (.pointer (some ⟨g, 0, none⟩)) ∧ w'.cell? ⟨gs, 1, none⟩ = some (.slice (some ad1) ps.length c4) ∧ w'.cell? ⟨g, 9, none⟩ = some (.slice (some ad2) li.length c3) ∧ w'.cell? (ad1.add (i * 2)) = some (.int .i64 p.f0) ∧ w'.cell? ⟨(ad1.add (i * 2)).block, (ad1.add (i * 2)).off + 1, none⟩ = some (.int .i64 p.f1) ∧ w'.cell? (ad2.add i) = some (.int .i64 v)) (ds := []) #[false, false, false, false, false, false, false, false, false, false, false, false, false, false, false, false, false, false, false, false] (by kernel_rfl) rfl rfl ⟨((zkc BS.out 0).trans rfl), ((zkc BS.out 1).trans rfl), ((zkc BF.out 9).trans rfl), ((HB.out.cell (zwb w _ HX0.out)).trans HX0.out), ((HB.out.cell (zwb w _ HX1.out)).trans HX1.out), ((HB.out.cell (zwb w _ HY0.out)).trans HY0.out)⟩ (fun hHeld => ?_)
 refine with_tabW squares.tab1 squares.bits1 (fun HT_ HW_ => ?_)
 generalize w.drew = w1 at BS BF HB hHeld ⊢
 refine pure_ (i := 0) (N := some 8) (v := ?_) (a' := ?_) #[true, false, false, false, false, false, false, false, false, false, false, false, false, false, false, false, false, false, false, false] rfl rfl (any_of HT_.out (by kernel_rfl)) (fun _ _ _ h => h) (Or.inl ⟨by rfl, ?_⟩) ?_ ?_
 rotate_left
 ·intro w'
  go_simp
  with_reducible rfl
 rotate_left
 ·simp only [Act.put, zsa, zsz, zss, i64_w, i32_w]
  rfl
 refine pure_ (i := 1) (N := some 9) (v := ?_) (a' := ?_) #[true, true, false, false, false, false, false, false, false, false, false, false, false, false, false, false, false, false, false, false] rfl rfl (any_of HT_.out (by kernel_rfl)) (fun _ _ _ h => h) (Or.inl ⟨by rfl, ?_⟩) ?_ ?_
 rotate_left
 ·intro w'
  go_simp
  with_reducible rfl
 rotate_left
 ·simp only [Act.put, zsa, zsz, zss, i64_w, i32_w]
  rfl
 refine pure_ (i := 2) (N := some 10) (v := ?_) (a' := ?_) #[true, true, true, false, false, false, false, false, false, false, false, false, false, false, false, false, false, false, false, false] rfl rfl (any_of HT_.out (by kernel_rfl)) (fun _ _ _ h => h) (Or.inl ⟨by rfl, ?_⟩) ?_ ?_
 rotate_left
 ·intro w'
  go_simp
  with_reducible rfl
 rotate_left
 ·simp only [Act.put, zsa, zsz, zss, i64_w, i32_w]
  rfl
 refine pure_ (i := 4) (N := some 12) (v := ?_) (a' := ?_) #[true, true, true, false, true, false, false, false, false, false, false, false, false, false, false, false, false, false, false, false] rfl rfl (any_of HT_.out (by kernel_rfl)) (fun _ _ _ h => h) (Or.inl ⟨by rfl, ?_⟩) ?_ ?_
 rotate_left
 ·intro w'
  go_simp
  with_reducible rfl
 rotate_left
 ·simp only [Act.put, zsa, zsz, zss, i64_w, i32_w]
  rfl
 refine pure_ (i := 7) (N := some 15) (v := ?_) (a' := ?_) #[true, true, true, false, true, false, false, true, false, false, false, false, false, false, false, false, false, false, false, false] rfl rfl (any_of HT_.out (by kernel_rfl)) (fun _ _ _ h => h) (Or.inl ⟨by rfl, ?_⟩) ?_ ?_
 rotate_left
 ·intro w'
  go_simp
  with_reducible rfl
 rotate_left
 ·simp only [Act.put, zsa, zsz, zss, i64_w, i32_w]
  rfl
 refine pure_ (i := 8) (N := some 16) (v := ?_) (a' := ?_) #[true, true, true, false, true, false, false, true, true, false, false, false, false, false, false, false, false, false, false, false] rfl rfl (any_of HT_.out (by kernel_rfl)) (fun _ _ _ h => h) (Or.inl ⟨by rfl, ?_⟩) ?_ ?_
 rotate_left
 ·intro w'
  go_simp
  with_reducible rfl
 rotate_left
 ·simp only [Act.put, zsa, zsz, zss, i64_w, i32_w]
  rfl
 refine pure_ (i := 9) (N := some 17) (v := ?_) (a' := ?_) #[true, true, true, false, true, false, false, true, true, true, false, false, false, false, false, false, false, false, false, false] rfl rfl (any_of HT_.out (by kernel_rfl)) (fun _ _ _ h => h) (Or.inl ⟨by rfl, ?_⟩) ?_ ?_
 rotate_left
 ·intro w'
  go_simp
  with_reducible rfl
 rotate_left
 ·simp only [Act.put, zsa, zsz, zss, i64_w, i32_w]
  rfl
 refine pure_ (i := 14) (N := some 22) (v := ?_) (a' := ?_) #[true, true, true, false, true, false, false, true, true, true, false, false, false, false, true, false, false, false, false, false] rfl rfl (any_of HT_.out (by kernel_rfl)) (fun _ _ _ h => h) (Or.inl ⟨by rfl, ?_⟩) ?_ ?_
 rotate_left
 ·intro w'
  go_simp
  with_reducible rfl
 rotate_left
 ·simp only [Act.put, zsa, zsz, zss, i64_w, i32_w]
  rfl
 refine take_ (i := 3) (N := some 11) (v := ?_) (a' := ?_) #[true, true, true, true, true, false, false, true, true, true, false, false, false, false, true, false, false, false, false, false] rfl rfl (take_ofW HT_.out HW_.out (by kernel_rfl)) (fun _ _ _ h => h) (Or.inl ⟨by rfl, ?_⟩) hHeld ?_ ?_
 rotate_left
 ·rintro w' ⟨s0, s1, s2, s3, s4, s5⟩
  go_simp
  with_reducible rfl
 rotate_left
 ·simp only [Act.put, zsa, zsz, zss, i64_w, i32_w]
  rfl
 refine pure_ (i := 5) (N := some 13) (v := ?_) (a' := ?_) #[true, true, true, true, true, true, false, true, true, true, false, false, false, false, true, false, false, false, false, false] rfl rfl (any_of HT_.out (by kernel_rfl)) (fun _ _ _ h => h) (Or.inl ⟨by rfl, ?_⟩) ?_ ?_
 rotate_left
 ·intro w'
  go_simp
  with_reducible rfl
 rotate_left
 ·simp only [Act.put, zsa, zsz, zss, i64_w, i32_w]
  rfl
 refine take_ (i := 6) (N := some 14) (v := ?_) (a' := ?_) #[true, true, true, true, true, true, true, true, true, true, false, false, false, false, true, false, false, false, false, false] rfl rfl (take_ofW HT_.out HW_.out (by kernel_rfl)) (fun _ _ _ h => h) (Or.inl ⟨by rfl, ?_⟩) hHeld ?_ ?_
 rotate_left
 ·rintro w' ⟨s0, s1, s2, s3, s4, s5⟩
  go_simp
  with_reducible rfl
 rotate_left
 ·simp only [Act.put, zsa, zsz, zss, i64_w, i32_w]
  rfl
 refine take_ (i := 10) (N := some 18) (v := ?_) (a' := ?_) #[true, true, true, true, true, true, true, true, true, true, true, false, false, false, true, false, false, false, false, false] rfl rfl (take_ofW HT_.out HW_.out (by kernel_rfl)) (fun _ _ _ h => h) (Or.inl ⟨by rfl, ?_⟩) hHeld ?_ ?_
 rotate_left
 ·rintro w' ⟨s0, s1, s2, s3, s4, s5⟩
  go_simp
  with_reducible rfl
 rotate_left
 ·simp only [Act.put, zsa, zsz, zss, i64_w, i32_w]
  rfl
 refine pure_ (i := 11) (N := some 19) (v := ?_) (a' := ?_) #[true, true, true, true, true, true, true, true, true, true, true, true, false, false, true, false, false, false, false, false] rfl rfl (any_of HT_.out (by kernel_rfl)) (fun _ _ _ h => h) (Or.inl ⟨by rfl, ?_⟩) ?_ ?_
 rotate_left
 ·intro w'
  go_simp
  with_reducible rfl
 rotate_left
 ·simp only [Act.put, zsa, zsz, zss, i64_w, i32_w]
  rfl
 refine pure_ (i := 12) (N := some 20) (v := ?_) (a' := ?_) #[true, true, true, true, true, true, true, true, true, true, true, true, true, false, true, false, false, false, false, false] rfl rfl (any_of HT_.out (by kernel_rfl)) (fun _ _ _ h => h) (Or.inl ⟨by rfl, ?_⟩) ?_ ?_
 rotate_left
 ·intro w'
  go_simp
  with_reducible rfl
 rotate_left
 ·simp only [Act.put, zsa, zsz, zss, i64_w, i32_w]
  rfl
 refine take_ (i := 13) (N := some 21) (v := ?_) (a' := ?_) #[true, true, true, true, true, true, true, true, true, true, true, true, true, true, true, false, false, false, false, false] rfl rfl (take_ofW HT_.out HW_.out (by kernel_rfl)) (fun _ _ _ h => h) (Or.inl ⟨by rfl, ?_⟩) hHeld ?_ ?_
 rotate_left
 ·rintro w' ⟨s0, s1, s2, s3, s4, s5⟩
  go_simp
  with_reducible rfl
 rotate_left
 ·simp only [Act.put, zsa, zsz, zss, i64_w, i32_w]
  rfl
 refine pure_ (i := 15) (N := some 23) (v := ?_) (a' := ?_) #[true, true, true, true, true, true, true, true, true, true, true, true, true, true, true, true, false, false, false, false] rfl rfl (any_of HT_.out (by kernel_rfl)) (fun _ _ _ h => h) (Or.inl ⟨by rfl, ?_⟩) ?_ ?_
 rotate_left
 ·intro w'
  go_simp
  with_reducible rfl
 rotate_left
 ·simp only [Act.put, zsa, zsz, zss, i64_w, i32_w]
  rfl
 refine take_ (i := 16) (N := some 24) (v := ?_) (a' := ?_) #[true, true, true, true, true, true, true, true, true, true, true, true, true, true, true, true, true, false, false, false] rfl rfl (take_ofW HT_.out HW_.out (by kernel_rfl)) (fun _ _ _ h => h) (Or.inl ⟨by rfl, ?_⟩) hHeld ?_ ?_
 rotate_left
 ·rintro w' ⟨s0, s1, s2, s3, s4, s5⟩
  go_simp
  with_reducible rfl
 rotate_left
 ·simp only [Act.put, zsa, zsz, zss, i64_w, i32_w]
  rfl
 refine one_ (i := 17) (N := some 6) #[true, true, true, true, true, true, true, true, true, true, true, true, true, true, true, true, true, true, false, false] rfl rfl (one_of HT_.out (by kernel_rfl)) (by decide) (fun K hK => ?_)
 clear hHeld
 refine box_step (by rfl) (N := 6) rfl (cs := #[.int .i64 0, .int .i64 0]) (t := 57) ?hr ?_
 (case hr => first | (go_simp; done) | (go_simp; rfl))
 intro gt hgt w2 hbt hb2
 have n1 := zam (zkb BS.out hb2)
 have n2 := zam (zkb BF.out hb2)
 have n3 := zam (zbt HB.out hb2)
 have BT := zam hbt
 have GE : Aside0 (w.heap.size ≤ gt) := ⟨by rw [hgt]; exact zbz HB.out⟩
 have NE1 : Aside0 (gs ≠ gt) := ⟨by rw [hgt]; exact Nat.ne_of_lt (blk_lt BS.out)⟩
 have NE2 : Aside0 (g ≠ gt) := ⟨by rw [hgt]; exact Nat.ne_of_lt (blk_lt BF.out)⟩
 clear BS BF HB hgt hbt hb2
 have BS := n1
 have BF := n2
 have HB := n3
 clear n1 n2 n3
 refine hK.out _ _ ⟨((zkc BS.out 0).trans rfl), ((zkc BS.out 1).trans rfl), ((zkc BF.out 9).trans rfl), ((HB.out.cell (zwb w _ HX0.out)).trans HX0.out), ((HB.out.cell (zwb w _ HX1.out)).trans HX1.out), ((HB.out.cell (zwb w _ HY0.out)).trans HY0.out)⟩ (fun hHeld => ?_)
 clear hK K
 refine norm_ (a' := ?_) ?_ ?_
 rotate_left
 ·show Act.put _ (some 6) _ = _
  simp only [Act.put, zsa, zsz, zss, i64_w, i32_w]
  rfl
 refine one_ (i := 18) (N := none) #[true, true, true, true, true, true, true, true, true, true, true, true, true, true, true, true, true, true, true, false] rfl rfl (one_of HT_.out (by kernel_rfl)) (by decide) (fun K hK => ?_)
 clear hHeld
 have hz0 := (zkc BT.out 0).trans rfl
 have hz1 := (zkc BT.out 1).trans rfl
 have hf0 := zkz BT.out 0
 have hf1 := zkz BT.out 1
 refine skip_ (w1 := ?_) (by rfl) rfl ?_ ?_
 rotate_left
 ·go_simp
  rfl
 clear hz0 hz1 hf0 hf1
 have n1 := zam (zkf (p := ⟨gt, 1, none⟩) (zkf (p := ⟨gt, 0, none⟩) BS.out NE1.out (.int .i64 p.f0)) NE1.out (.int .i64 p.f1))
 have n2 := zam (zkf (p := ⟨gt, 1, none⟩) (zkf (p := ⟨gt, 0, none⟩) BF.out NE2.out (.int .i64 p.f0)) NE2.out (.int .i64 p.f1))
 have n3 := zam (zbs (j := 1) (v := .int .i64 p.f1) (zbs (j := 0) (v := .int .i64 p.f0) HB.out GE.out) GE.out)
 have n4 := zam (blk_put (cs' := #[.int .i64 p.f0, .int .i64 p.f1]) (blk_put (cs' := #[.int .i64 p.f0, .int .i64 0]) BT.out 0 (.int .i64 p.f0) rfl) 1 (.int .i64 p.f1) rfl)
 clear BS BF HB BT
 have BS := n1
 have BF := n2
 have HB := n3
 have BT := n4
 clear n1 n2 n3 n4
 refine hK.out _ _ ⟨((zkc BS.out 0).trans rfl), ((zkc BS.out 1).trans rfl), ((zkc BF.out 9).trans rfl), ((HB.out.cell (zwb w _ HX0.out)).trans HX0.out), ((HB.out.cell (zwb w _ HX1.out)).trans HX1.out), ((HB.out.cell (zwb w _ HY0.out)).trans HY0.out)⟩ (fun hHeld => ?_)
 clear hK K
 refine pure_ (i := 19) (N := some 7) (v := ?_) (a' := ?_) #[true, true, true, true, true, true, true, true, true, true, true, true, true, true, true, true, true, true, true, true] rfl rfl (any_of HT_.out (by kernel_rfl)) (fun _ _ _ h => h) (Or.inl ⟨by rfl, ?_⟩) ?_ ?_
 rotate_left
 ·intro w'
  go_simp
  with_reducible rfl
 rotate_left
 ·simp only [Act.put, zsa, zsz, zss, i64_w, i32_w]
  rfl
 refine done_ (done_of HT_.out (by kernel_rfl)) ?_
 clear hHeld BS BF
 go_wp2
 have n1 := zam (zb1 HB.out)
 have n2 := zam (zkd BT.out)
 clear HB BT
 have HB := n1
 have BT := n2
 clear n1 n2
 refine start_ (n := 20) (S := fun w' => w'.cell? ⟨gt, 0, none⟩ = some (.int .i64 p.f0) ∧ w'.cell? ⟨gt, 1, none⟩ = some (.int .i64 p.f1)) (ds := []) #[false, false, false, false, false, false, false, false, false, false, false, false, false, false, false, false, false, false, false, false] (by kernel_rfl) rfl rfl ⟨((zkc BT.out 0).trans rfl), ((zkc BT.out 1).trans rfl)⟩ (fun hHeld => ?_)
 refine with_tabW squares.tab2 squares.bits2 (fun HT_ HW_ => ?_)
 generalize World.drew _ = w3 at BT HB hHeld ⊢
 refine pure_ (i := 0) (N := some 25) (v := ?_) (a' := ?_) #[true, false, false, false, false, false, false, false, false, false, false, false, false, false, false, false, false, false, false, false] rfl rfl (any_of HT_.out (by kernel_rfl)) (fun _ _ _ h => h) (Or.inl ⟨by rfl, ?_⟩) ?_ ?_
 rotate_left
 ·intro w'
  go_simp
  with_reducible rfl
 rotate_left
 ·simp only [Act.put, zsa, zsz, zss, i64_w, i32_w]
  rfl
 refine pure_ (i := 2) (N := some 27) (v := ?_) (a' := ?_) #[true, false, true, false, false, false, false, false, false, false, false, false, false, false, false, false, false, false, false, false] rfl rfl (any_of HT_.out (by kernel_rfl)) (fun _ _ _ h => h) (Or.inl ⟨by rfl, ?_⟩) ?_ ?_
 rotate_left
 ·intro w'
  go_simp
  with_reducible rfl
 rotate_left
 ·simp only [Act.put, zsa, zsz, zss, i64_w, i32_w]
  rfl
 refine pure_ (i := 5) (N := some 30) (v := ?_) (a' := ?_) #[true, false, true, false, false, true, false, false, false, false, false, false, false, false, false, false, false, false, false, false] rfl rfl (any_of HT_.out (by kernel_rfl)) (fun _ _ _ h => h) (Or.inl ⟨by rfl, ?_⟩) ?_ ?_
 rotate_left
 ·intro w'
  go_simp
  with_reducible rfl
 rotate_left
 ·simp only [Act.put, zsa, zsz, zss, i64_w, i32_w]
  rfl
 refine pure_ (i := 6) (N := some 31) (v := ?_) (a' := ?_) #[true, false, true, false, false, true, true, false, false, false, false, false, false, false, false, false, false, false, false, false] rfl rfl (any_of HT_.out (by kernel_rfl)) (fun _ _ _ h => h) (Or.inl ⟨by rfl, ?_⟩) ?_ ?_
 rotate_left
 ·intro w'
  go_simp
  with_reducible rfl
 rotate_left
 ·simp only [Act.put, zsa, zsz, zss, i64_w, i32_w]
  rfl
 refine pure_ (i := 7) (N := some 32) (v := ?_) (a' := ?_) #[true, false, true, false, false, true, true, true, false, false, false, false, false, false, false, false, false, false, false, false] rfl rfl (any_of HT_.out (by kernel_rfl)) (fun _ _ _ h => h) (Or.inl ⟨by rfl, ?_⟩) ?_ ?_
 rotate_left
 ·intro w'
  go_simp
  with_reducible rfl
 rotate_left
 ·simp only [Act.put, zsa, zsz, zss, i64_w, i32_w]
  rfl
 refine pure_ (i := 9) (N := some 34) (v := ?_) (a' := ?_) #[true, false, true, false, false, true, true, true, false, true, false, false, false, false, false, false, false, false, false, false] rfl rfl (any_of HT_.out (by kernel_rfl)) (fun _ _ _ h => h) (Or.inl ⟨by rfl, ?_⟩) ?_ ?_
 rotate_left
 ·intro w'
  go_simp
  with_reducible rfl
 rotate_left
 ·simp only [Act.put, zsa, zsz, zss, i64_w, i32_w]
  rfl
 refine pure_ (i := 11) (N := some 36) (v := ?_) (a' := ?_) #[true, false, true, false, false, true, true, true, false, true, false, true, false, false, false, false, false, false, false, false] rfl rfl (any_of HT_.out (by kernel_rfl)) (fun _ _ _ h => h) (Or.inl ⟨by rfl, ?_⟩) ?_ ?_
 rotate_left
 ·intro w'
  go_simp
  with_reducible rfl
 rotate_left
 ·simp only [Act.put, zsa, zsz, zss, i64_w, i32_w]
  rfl
 refine pure_ (i := 14) (N := some 39) (v := ?_) (a' := ?_) #[true, false, true, false, false, true, true, true, false, true, false, true, false, false, true, false, false, false, false, false] rfl rfl (any_of HT_.out (by kernel_rfl)) (fun _ _ _ h => h) (Or.inl ⟨by rfl, ?_⟩) ?_ ?_
 rotate_left
 ·intro w'
  go_simp
  with_reducible rfl
 rotate_left
 ·simp only [Act.put, zsa, zsz, zss, i64_w, i32_w]
  rfl
 refine pure_ (i := 15) (N := some 40) (v := ?_) (a' := ?_) #[true, false, true, false, false, true, true, true, false, true, false, true, false, false, true, true, false, false, false, false] rfl rfl (any_of HT_.out (by kernel_rfl)) (fun _ _ _ h => h) (Or.inl ⟨by rfl, ?_⟩) ?_ ?_
 rotate_left
 ·intro w'
  go_simp
  with_reducible rfl
 rotate_left
 ·simp only [Act.put, zsa, zsz, zss, i64_w, i32_w]
  rfl
 refine pure_ (i := 16) (N := some 41) (v := ?_) (a' := ?_) #[true, false, true, false, false, true, true, true, false, true, false, true, false, false, true, true, true, false, false, false] rfl rfl (any_of HT_.out (by kernel_rfl)) (fun _ _ _ h => h) (Or.inl ⟨by rfl, ?_⟩) ?_ ?_
 rotate_left
 ·intro w'
  go_simp
  with_reducible rfl
 rotate_left
 ·simp only [Act.put, zsa, zsz, zss, i64_w, i32_w]
  rfl
 refine take_ (i := 1) (N := some 26) (v := ?_) (a' := ?_) #[true, true, true, false, false, true, true, true, false, true, false, true, false, false, true, true, true, false, false, false] rfl rfl (take_ofW HT_.out HW_.out (by kernel_rfl)) (fun _ _ _ h => h) (Or.inl ⟨by rfl, ?_⟩) hHeld ?_ ?_
 rotate_left
 ·rintro w' ⟨s0, s1⟩
  go_simp
  with_reducible rfl
 rotate_left
 ·simp only [Act.put, zsa, zsz, zss, i64_w, i32_w]
  rfl
 refine take_ (i := 3) (N := some 28) (v := ?_) (a' := ?_) #[true, true, true, true, false, true, true, true, false, true, false, true, false, false, true, true, true, false, false, false] rfl rfl (take_ofW HT_.out HW_.out (by kernel_rfl)) (fun _ _ _ h => h) (Or.inl ⟨by rfl, ?_⟩) hHeld ?_ ?_
 rotate_left
 ·rintro w' ⟨s0, s1⟩
  go_simp
  with_reducible rfl
 rotate_left
 ·simp only [Act.put, zsa, zsz, zss, i64_w, i32_w]
  rfl
 refine pure_ (i := 4) (N := some 29) (v := ?_) (a' := ?_) #[true, true, true, true, true, true, true, true, false, true, false, true, false, false, true, true, true, false, false, false] rfl rfl (any_of HT_.out (by kernel_rfl)) (fun _ _ _ h => h) (Or.inl ⟨by rfl, ?_⟩) ?_ ?_
 rotate_left
 ·intro w'
  go_simp
  with_reducible rfl
 rotate_left
 ·simp only [Act.put, zsa, zsz, zss, i64_w, i32_w]
  rfl
 refine pure_ (i := 8) (N := some 33) (v := ?_) (a' := ?_) #[true, true, true, true, true, true, true, true, true, true, false, true, false, false, true, true, true, false, false, false] rfl rfl (any_of HT_.out (by kernel_rfl)) (fun _ _ _ h => h) (Or.inl ⟨by rfl, ?_⟩) ?_ ?_
 rotate_left
 ·intro w'
  go_simp
  with_reducible rfl
 rotate_left
 ·simp only [Act.put, zsa, zsz, zss, i64_w, i32_w]
  rfl
 refine pure_ (i := 18) (N := some 4) (v := ?_) (a' := ?_) #[true, true, true, true, true, true, true, true, true, true, false, true, false, false, true, true, true, false, true, false] rfl rfl (any_of HT_.out (by kernel_rfl)) (fun _ _ _ h => h) (Or.inl ⟨by rfl, ?_⟩) ?_ ?_
 rotate_left
 ·intro w'
  go_simp
  with_reducible rfl
 rotate_left
 ·simp only [Act.put, zsa, zsz, zss, i64_w, i32_w]
  rfl
 refine take_ (i := 10) (N := some 35) (v := ?_) (a' := ?_) #[true, true, true, true, true, true, true, true, true, true, true, true, false, false, true, true, true, false, true, false] rfl rfl (take_ofW HT_.out HW_.out (by kernel_rfl)) (fun _ _ _ h => h) (Or.inl ⟨by rfl, ?_⟩) hHeld ?_ ?_
 rotate_left
 ·rintro w' ⟨s0, s1⟩
  go_simp
  with_reducible rfl
 rotate_left
 ·simp only [Act.put, zsa, zsz, zss, i64_w, i32_w]
  rfl
 refine take_ (i := 12) (N := some 37) (v := ?_) (a' := ?_) #[true, true, true, true, true, true, true, true, true, true, true, true, true, false, true, true, true, false, true, false] rfl rfl (take_ofW HT_.out HW_.out (by kernel_rfl)) (fun _ _ _ h => h) (Or.inl ⟨by rfl, ?_⟩) hHeld ?_ ?_
 rotate_left
 ·rintro w' ⟨s0, s1⟩
  go_simp
  with_reducible rfl
 rotate_left
 ·simp only [Act.put, zsa, zsz, zss, i64_w, i32_w]
  rfl
 refine pure_ (i := 13) (N := some 38) (v := ?_) (a' := ?_) #[true, true, true, true, true, true, true, true, true, true, true, true, true, true, true, true, true, false, true, false] rfl rfl (any_of HT_.out (by kernel_rfl)) (fun _ _ _ h => h) (Or.inl ⟨by rfl, ?_⟩) ?_ ?_
 rotate_left
 ·intro w'
  go_simp
  with_reducible rfl
 rotate_left
 ·simp only [Act.put, zsa, zsz, zss, i64_w, i32_w]
  rfl
 refine pure_ (i := 17) (N := some 42) (v := ?_) (a' := ?_) #[true, true, true, true, true, true, true, true, true, true, true, true, true, true, true, true, true, true, true, false] rfl rfl (any_of HT_.out (by kernel_rfl)) (fun _ _ _ h => h) (Or.inl ⟨by rfl, ?_⟩) ?_ ?_
 rotate_left
 ·intro w'
  go_simp
  with_reducible rfl
 rotate_left
 ·simp only [Act.put, zsa, zsz, zss, i64_w, i32_w]
  rfl
 refine pure_ (i := 19) (N := some 5) (v := ?_) (a' := ?_) #[true, true, true, true, true, true, true, true, true, true, true, true, true, true, true, true, true, true, true, true] rfl rfl (any_of HT_.out (by kernel_rfl)) (fun _ _ _ h => h) (Or.inl ⟨by rfl, ?_⟩) ?_ ?_
 rotate_left
 ·intro w'
  go_simp
  with_reducible rfl
 rotate_left
 ·simp only [Act.put, zsa, zsz, zss, i64_w, i32_w]
  rfl
 refine done_ (done_of HT_.out (by kernel_rfl)) ?_
 clear hHeld
 go_wp2
 go_ret2
 exact ⟨rfl, HB.out⟩
def Gives (w : World) (F : FuncId) (gs n : Nat) (val : Nat → S57) : Prop :=
 (∃ fn, Try.prog.funcs[F]? = some fn ∧ (fn.name == "runtime.NumGoroutine") = false ∧ fn.body.isSome = true) ∧
 ∀ i : Nat, i < n → ∀ w1, Below w.heap.size w w1 → Calls Try.prog F #[.pointer (some ⟨gs, 0, none⟩), .int .i64 (i : Int)] w1 fun e w' => e = .returned (.agg #[.int .i64 (val i).f0, .int .i64 (val i).f1]) ∧ Below w1.heap.size w1 w'
theorem Gives.below {w w1 : World} {F : FuncId} {gs n : Nat} {val : Nat → S57} (h : Gives w F gs n val) (hb : Below w.heap.size w w1) : Gives w1 F gs n val := ⟨h.1, fun i hi w2 hb2 => h.2 i hi w2 (zbt hb hb2)⟩
def EachRel (w : World) (val : Nat → S57) (n kq : Nat) (v5 v16 : Value) (w' : World) : Prop :=
 ∃ j : Nat, kq + j = n ∧ v16 = .int .i64 (j : Int) ∧ Kd.R k57 57 w' w.heap.size (fun _ => True) v5 (Moor.list val j) ∧ Below w.heap.size w w'
theorem EachRel.next {w w' : World} {val : Nat → S57} {n kq j : Nat} {v5 : Value} {i : Int} (hj : kq + (j + 1) = n) (hi : ((j + 1 : Nat) : Int) = i) (hr : Kd.R k57 57 w' w.heap.size (fun _ => True) v5 (Moor.list val j ++ [val j])) (hb : Below w.heap.size w w') : EachRel w val n kq v5 (.int .i64 i) w' := by
 subst hi
 rw [← Moor.list_succ] at hr
 exact ⟨j + 1, hj, rfl, hr, hb⟩
set_option maxHeartbeats 8000000 in
set_option maxRecDepth 100000 in
theorem mooring_each.calls {d an fr : Int} {els : List S46} {on : List S57} {li : List Int} {ps : List S57} (A : Option Addr) (c : Nat) (gs : Nat) (F : FuncId) (val : Nat → S57) (w : World) (h : IsShape w gs A c d an fr els on li ps) (h40 : els.length ≤ 40) (hg : Gives w F gs els.length val) :
  Calls Try.prog 62 #[.pointer (some ⟨gs, 0, none⟩), .func (.func F) #[.pointer (some ⟨gs, 0, none⟩)] #[]] w fun e w' => ∃ v, e = .returned v ∧ Kd.R k57 57 w' w.heap.size (fun _ => True) v (Moor.list val els.length) ∧ Below w.heap.size w w' := by
 have hu57 := Try.underlying57
 have hu37 := Try.underlying37
 have hu98 := Try.underlying98
 have hu129 := Try.underlying129
 obtain ⟨⟨fn, hf1, hf2, hf3⟩, hg⟩ := hg
 have HF1 := zam hf1
 have HF2 := zam hf2
 have HF3 := zam hf3
 have HG := zam hg
 obtain ⟨g, A4, c4, h1, ⟨gh, A2, c2, A3, c3, h2, h3, h4, h5, h6, h7, h8⟩, h9, h10⟩ := h
 have hz0 := (zkc h1 0).trans rfl
 have hz1 := (zkc h2 1).trans rfl
 clear h1 h2 h3 h4 h5 h6 h7 h8 h9 h10 hg hf1 hf2 hf3
 go_enter Try.func62, Try.ntmps62
 go_wp2
 go_loopg [5, 16] els.length (fun kq v5 v16 w' => EachRel w val els.length kq v5 v16 w')
 case atStart => exact ⟨0, rfl, rfl, Kd.R_nil _ _ _ _ _, Below.refl _ _⟩
 case round =>
  clear hz0 hz1
  obtain ⟨j, hj, rfl, RO0, HB0⟩ := hrel
  have RO := zam RO0
  have HB := zam HB0
  have HJ := zam hj
  clear RO0 HB0 hj
  by_cases hlt : j < els.length
  ·have HLT := zam hlt
   have c3 : decide ((j : Int) < (els.length : Int)) = true := zdt (by omega)
   have c3n : decide (j < els.length) = true := zdt hlt
   clear hlt
   go_wp2_with (first | ((with_reducible refine zgd (N := 22) rfl ?_); go_loud (refine goesTL_ (some 22) rfl rfl HF1.out HF2.out HF3.out #[.pointer (some ⟨gs, 0, none⟩), .int .i64 (j : Int)] rfl rfl (by simp only [zmt, List.map_cons, List.map_nil]; rfl) ?_); go_loud (with_reducible refine (HG.out j HLT.out _ HB.out).mono ?_); rintro e w2 ⟨rfl, hb1⟩; have n1 := zam (zbt HB.out hb1); have n2 := zam (Kd.R_below RO.out hb1); clear HB RO hb1; have HB := n1; have RO := n2; clear n1 n2; refine ⟨_, rfl, ?_⟩) | ((with_reducible refine gate_builtin (b := .append) (xs := #[.tmp 19, .tmp 23]) rfl ?_); at_builtin; refine Kd.R_append k57 (w0 := w) w.heap.size rfl (.tmp 19) (.tmp 23) 48 57 (.agg #[(.int .i64 0), (.int .i64 0)]) 16 rfl Try.underlying48 info57 rfl (by decide) (by omega) u5 (Moor.list val j) (val j) [.int .i64 (val j).f0, .int .i64 (val j).f1] (fun _ => True) (fun _ => False) rfl rfl ?aP (fun _ hk => hk.elim) ?aF ?aO ?aB ?aS ?aL ?_; (case aP => exact k57_mkM _ _ _ (val j)); (case aF => exact fun _ _ => trivial); (case aO => exact RO.out); (case aB => exact HB.out); (case aS => exact zbz HB.out); (case aL => exact Moor.list_small h40 HLT.out); intro v2 w10 ho hb hg hat; have n2 := zam hb; have n3 := zam ho; clear HB RO ho hb hg hat; have HB := n2; have RO := n3; clear n2 n3))
   obtain ⟨k1, rfl⟩ : ∃ k1, gk = k1 + 1 := ⟨gk - 1, by have := HJ.out; have := HLT.out; omega⟩
   go_roundg k1
   case measure => omega
   case rel => exact EachRel.next (by have := HJ.out; omega) (wrap_succ HLT.out (by omega)).symm RO.out HB.out
  have hje : j = els.length := by have := HJ.out; omega
  have c3 : decide ((j : Int) < (els.length : Int)) = false := zdf (by omega)
  have c3n : decide (j < els.length) = false := zdf hlt
  have HJE := zam hje
  clear hlt hje
  obtain ⟨A5, n5, c5, rfl⟩ : ∃ A n c, u5 = .slice A n c := by
   obtain ⟨A, c, h⟩ := Kd.R_slice RO.out
   exact ⟨A, _, c, h⟩
  go_wp2
  go_ret
  refine ⟨_, rfl, ?_, HB.out⟩
  have h := RO.out
  rw [HJE.out] at h
  exact h
def TotRel (w : World) (gm gt : Nat) (xs : List S57) (vx : Value) (kq : Nat) (v12 : Value) (w' : World) : Prop :=
 ∃ j : Nat, kq + j = xs.length ∧ v12 = .int .i64 (j : Int) ∧
  w'.heap[gm]? = some (.cells #[.int .i64 (Moor.slo (xs.take j)), .int .i64 (Moor.shi (xs.take j))] 57 (0, 0)) ∧
  w'.heap[gt]? = some (.cells #[.int .i64 0, .int .i64 0] 57 (0, 0)) ∧ Kd.R k57 57 w' w.heap.size (fun k => k ≠ gm) vx xs ∧ Below w.heap.size w w'
theorem TotRel.next {w w' : World} {gm gt : Nat} {xs : List S57} {vx : Value} {kq j : Nat} {s0 s1 i : Int} (hj : kq + (j + 1) = xs.length) (hi : ((j + 1 : Nat) : Int) = i) (h0 : s0 = Moor.slo (xs.take (j + 1))) (h1 : s1 = Moor.shi (xs.take (j + 1)))
  (hb : w'.heap[gm]? = some (.cells #[.int .i64 s0, .int .i64 s1] 57 (0, 0))) (hT : w'.heap[gt]? = some (.cells #[.int .i64 0, .int .i64 0] 57 (0, 0))) (hr : Kd.R k57 57 w' w.heap.size (fun k => k ≠ gm) vx xs) (hB : Below w.heap.size w w') : TotRel w gm gt xs vx kq (.int .i64 i) w' := by
 subst hi; subst h0; subst h1
 exact ⟨j + 1, hj, rfl, hb, hT, hr, hB⟩
theorem R_C {α : Type} {d : Kd α} {e : Nat} {w : World} {base : Nat} {ok : Nat → Prop} {A : Option Addr} {n c : Nat} {xs : List α} (h : d.R e w base ok (.slice A n c) xs) : d.C w A n xs := by
 obtain ⟨A', c', h1, _, h3⟩ := Kd.R_reads h
 injection h1 with h1 h2 h4
 subst h1; subst h2
 exact h3
theorem mooring_rounds_4.calls (k : Nat) (n r : Int) (g : Nat) (w : World) (hg : w.heap[g]? = some (.cells #[.func (.func 97) #[] #[]] 94 (0, 0))) (h : mooring_rounds_1.f k n = some r) :
  Calls Try.prog 100 #[.int .i64 n, .pointer (some ⟨g, 0, none⟩)] w fun e w' => e = .returned (.int .i64 (if wrap64 (r * r) < n then wrap64 (r + 1) else r)) ∧ Drawn0 w w' := by
 have hc := zkc hg 0
 have hc1 : w.cell? ⟨g, 0, none⟩ = some (.func (.func 97) #[] #[]) := hc.trans rfl
 have H := zam h
 clear hc h hg
 by_cases c : wrap64 (r * r) < n
 ·rw [if_pos c]
  have c1 : decide (wrap64 (r * r) < n) = true := zdt c
  clear c
  go_enter Try.func100, Try.ntmps100
  go_wp2_with (go_at_call 97; (with_reducible refine (mooring_rounds_1.calls k n r _ H.out).mono ?_); rintro e w' ⟨rfl, ⟨nd, rfl⟩⟩)
  go_ret
  exact ⟨by first | rfl | (simp; done) | (simp [*]; done), by repeat (first | exact Drawn0.refl _ | apply Drawn0.step)⟩
 rw [if_neg c]
 have c1 : decide (wrap64 (r * r) < n) = false := zdf c
 clear c
 go_enter Try.func100, Try.ntmps100
 go_wp2_with (go_at_call 97; (with_reducible refine (mooring_rounds_1.calls k n r _ H.out).mono ?_); rintro e w' ⟨rfl, ⟨nd, rfl⟩⟩)
 go_ret
 exact ⟨by first | rfl | (simp; done) | (simp [*]; done), by repeat (first | exact Drawn0.refl _ | apply Drawn0.step)⟩
theorem mooring_low.calls (n : Int) (h0 : 0 ≤ n) (hn : n < 1152921504606846976) (w : World) : Calls Try.prog 97 #[.int .i64 n] w fun e w' => e = .returned (.int .i64 (Moor.root n)) ∧ Drawn0 w w' :=
 mooring_rounds_1.calls 32 n _ w (Moor.root_f h0 hn (Nat.le_refl _))
theorem mooring_high.calls (n : Int) (h0 : 0 ≤ n) (hn : n < 1152921504606846976) (g : Nat) (w : World) (hg : w.heap[g]? = some (.cells #[.func (.func 97) #[] #[]] 94 (0, 0))) :
  Calls Try.prog 100 #[.int .i64 n, .pointer (some ⟨g, 0, none⟩)] w fun e w' => e = .returned (.int .i64 (Moor.rootUp n)) ∧ Drawn0 w w' := by
 have h := mooring_rounds_4.calls 32 n _ g w hg (Moor.root_f h0 hn (Nat.le_refl _))
 rw [Moor.rootUp_wrap h0 hn] at h
 exact h
def rise.T2 : Bool × List (List Nat × List Nat) := (true, [([], []), ([0], [0]), ([1], [1]), ([2], [2]), ([3], [3]), ([4], [4]), ([5], [5]), ([6], [6]), ([], []), ([7, 8], [7, 8]), ([9], [9]), ([10], [10]), ([], []), ([12], [12]), ([13], [13]), ([14], [14]), ([15], [15]), ([16], [16]), ([17], [17]), ([], []), ([18, 19], [18, 19]), ([20], [20]), ([11, 0, 1, 2, 3, 4, 5, 6, 7, 8, 9, 10, 11], [11]), ([21, 22, 0, 1, 2, 3, 4, 5, 6, 7, 8, 9, 10, 11, 12, 13, 14, 15, 16, 17, 18, 19, 20, 21, 22], [21])])
def rise.B2 : List Nat := [0, 1, 3, 7, 15, 31, 63, 127, 0, 511, 1023, 2047, 0, 4096, 12288, 28672, 61440, 126976, 258048, 0, 1044480, 2093056, 4095, 8388607]
theorem rise.tab2 : rtab .any (opsOf Try.f64 2) = rise.T2 := by kernel_rfl
theorem rise.bits2 : waitsOk rise.T2.2 rise.B2 = true := by kernel_rfl
def rise.T3 : Bool × List (List Nat × List Nat) := (true, [([], []), ([0], [0]), ([1], [1]), ([2], [2]), ([3], [3]), ([4], [4]), ([5], [5]), ([6], [6]), ([], []), ([], []), ([8, 9], [8, 9]), ([], []), ([11], [11]), ([12], [12]), ([13], [13]), ([14], [14]), ([15], [15]), ([16], [16]), ([17], [17]), ([], []), ([18, 19], [18, 19]), ([7, 10, 20, 20], [7, 10, 20]), ([], []), ([], []), ([23], [23]), ([24], [24]), ([25], [25]), ([26], [26]), ([27], [27]), ([28], [28]), ([29], [29]), ([], []), ([], []), ([31, 32], [31, 32]), ([], []), ([34], [34]), ([35], [35]), ([36], [36]), ([37], [37]), ([38], [38]), ([39], [39]), ([40], [40]), ([], []), ([41, 42, 21], [41, 42]), ([30, 33, 43, 43], [30, 33, 43]), ([22, 44], [22, 44]), ([21, 45], [21, 45]), ([46, 44, 0, 1, 2, 3, 4, 5, 6, 7, 8, 9, 10, 11, 12, 13, 14, 15, 16, 17, 18, 19, 20, 21, 22, 23, 24, 25, 26, 27, 28, 29, 30, 31, 32, 33, 34, 35, 36, 37, 38, 39, 40, 41, 42, 43, 44, 45, 46], [46])])
def rise.B3 : List Nat := [0, 1, 3, 7, 15, 31, 63, 127, 0, 0, 768, 0, 2048, 6144, 14336, 30720, 63488, 129024, 260096, 0, 1046528, 2097151, 0, 0, 8388608, 25165824, 58720256, 125829120, 260046848, 528482304, 1065353216, 0, 0, 6442450944, 0, 17179869184, 51539607552, 120259084288, 257698037760, 532575944704, 1082331758592, 2181843386368, 0, 8778917347327, 17592181850111, 35184372088831, 70368744177663, 140737488355327]
theorem rise.tab3 : rtab .any (opsOf Try.f64 3) = rise.T3 := by kernel_rfl
theorem rise.bits3 : waitsOk rise.T3.2 rise.B3 = true := by kernel_rfl
set_option maxHeartbeats 16000000 in
set_option maxRecDepth 100000 in
theorem mooring_rise.calls {d an fr : Int} {els : List S46} {on : List S57} {li : List Int} {ps : List S57} (A : Option Addr) (c : Nat) (gs : Nat) (i : Nat) (el : S46) (p : S57) (v : Int) (w : World) (h : IsShape w gs A c d an fr els on li ps) (he : els[i]? = some el) (hp : ps[i]? = some p) (hv : li[i]? = some v) (hb : Moor.okB p v) (hl0 : 0 ≤ el.f0) (hl1 : el.f0 ≤ 1048576) :
  Calls Try.prog 64 #[.pointer (some ⟨gs, 0, none⟩), .int .i64 (i : Int)] w fun e w' => e = .returned (.agg #[.int .i64 (Moor.rise el.f0 p v).f0, .int .i64 (Moor.rise el.f0 p v).f1]) ∧ Below w.heap.size w w' := by
 have hu57 := Try.underlying57
 have hu46 := Try.underlying46
 have hu37 := Try.underlying37
 have hu98 := Try.underlying98
 have hu96 := Try.underlying96
 have hu129 := Try.underlying129
 have SQ := fun (w1 : World) (hb1 : Below w.heap.size w w1) => mooring_squares.calls A c gs i p v w1 (h.below hb1) hp hv
 obtain ⟨g, A4, c4, h1, ⟨gh, A2, c2, A3, c3, h2, h3, h4, h5, h6, h7, h8⟩, h9, h10⟩ := h
 rw [Moor.sqL_wrap hb, Moor.sqH_wrap hb] at SQ
 have SQ := zam SQ
 obtain ⟨he1, he2⟩ := List.getElem?_eq_some_iff.1 he
 obtain ⟨hp1, hp2⟩ := List.getElem?_eq_some_iff.1 hp
 obtain ⟨hv1, hv2⟩ := List.getElem?_eq_some_iff.1 hv
 have p1 : (0 : Int) ≤ (i : Int) := by omega
 have q0 : (i : Int) < (els.length : Int) := by omega
 have q1 : (i : Int) < (ps.length : Int) := by omega
 have q2 : (i : Int) < (li.length : Int) := by omega
 obtain ⟨ad0, e0, hw0, -, -, -⟩ := at_T46 h4 (i : Int) p1 q0
 cases e0
 obtain ⟨ad1, e1, hx0, hx1⟩ := at_T57 h9 (i : Int) p1 q1
 cases e1
 obtain ⟨ad2, e2, hy0⟩ := Kd.at_int h7 (i : Int) p1 q2
 cases e2
 rw [Moor.rdE he1, he2] at hw0
 rw [Moor.rdS hp1, hp2] at hx0 hx1
 rw [rd_nat hv1, hv2] at hy0
 simp only [Int.toNat_natCast] at hw0 hx0 hx1 hy0
 have HW0 := zam hw0
 have HX0 := zam hx0
 have HX1 := zam hx1
 have HY0 := zam hy0
 clear he1 he2 hp1 hp2 hv1 hv2 hw0 hx0 hx1 hy0
 obtain ⟨r1, r2, r3, r4, _⟩ := Moor.sq_range hb
 have hb' := hb
 obtain ⟨b1, b2, b3, b4, b5⟩ := hb'
 have m0 := Moor.prod_range hl0 hl1 (x := v) (by omega) (by omega)
 have m1 := Moor.prod_range hl0 hl1 (x := v) (by omega) (by omega)
 have u0 := Moor.rootUp_is (n := Moor.sqH p v) (by omega) (by omega)
 have u2 := Moor.root_pos (n := Moor.sqH p v) (by omega) (by omega)
 have u1 := Moor.root_pos (n := Moor.sqL p v) (by omega) (by omega)
 have HQ0 : Aside0 (mooring_rounds_2.f (wrap64 (el.f0 * v)) (Moor.rootUp (Moor.sqH p v)) = some (Moor.rise el.f0 p v).f0) := ⟨by
  rw [wrap_id (n := el.f0 * v) (by omega) (by omega), Moor.lo_f (by omega) (by omega) (by omega)]
  rfl⟩
 obtain ⟨y, hy⟩ : ∃ y, y = (el.f0 * v + Moor.root (Moor.sqL p v) - 1) / Moor.root (Moor.sqL p v) := ⟨_, rfl⟩
 have HQ1 : Aside0 (mooring_rounds_3.f (wrap64 (el.f0 * v)) (Moor.root (Moor.sqL p v)) = some y) := ⟨by
  rw [wrap_id (n := el.f0 * v) (by omega) (by omega), Moor.hi_f (by omega) (by omega) (by omega) (by omega), hy]⟩
 have hT : (Moor.rise el.f0 p v).f1 = if y < el.f0 then y else el.f0 := by
  have e : (Moor.rise el.f0 p v).f1 = min el.f0 y := by rw [hy]; rfl
  rw [e]
  by_cases c : y < el.f0
  ·rw [if_pos c]; omega
  rw [if_neg c]; omega
 rw [hT]
 generalize (Moor.rise el.f0 p v).f0 = x at HQ0 ⊢
 generalize hl : el.f0 = l at *
 obtain ⟨z, hz⟩ : ∃ z, (if y < l then y else l) = z := ⟨_, rfl⟩
 rw [hz]
 have HZ := zam hz
 clear hz hy hT m0 m1 u0 u1 u2 b1 b2 b3 b4 b5 hl
 generalize Moor.sqL p v = a at *
 generalize Moor.sqH p v = b at *
 have RA := zam r1
 have RA2 := zam r2
 have RB := zam r3
 have RB2 := zam r4
 have BS := zam h1
 have BF := zam h2
 have BH := zam h3
 clear h1 h2 h3 h4 h5 h6 h7 h8 h9 h10 hp hv he hb hl0 hl1 r1 r2 r3 r4
 go_enter Try.func64, Try.ntmps64
 go_wp2_with (first | ((with_reducible refine zgd (N := 4) rfl ?_); refine box_event ?hg (N := 4) ?hd (cs := #[.int .i64 0, .int .i64 0]) (t := 57) ?hr ?_; (case hd => rfl); (case hg => rfl); (case hr => first | (go_simp; done) | (go_simp; rfl)); intro gt hgt w1 hbt hb0; have GE : Aside0 (w.heap.size ≤ gt) := ⟨Nat.le_of_eq hgt.symm⟩; have n1 := zam (zkb BS.out hb0); have n2 := zam (zkb BF.out hb0); have n3 := zam (zkb BH.out hb0); have HB := zam hb0; have BT := zam hbt; have NE1 : Aside0 (gs ≠ gt) := ⟨by rw [hgt]; exact Nat.ne_of_lt (blk_lt BS.out)⟩; have NE2 : Aside0 (g ≠ gt) := ⟨by rw [hgt]; exact Nat.ne_of_lt (blk_lt BF.out)⟩; clear BS BF BH hgt hbt hb0; have BS := n1; have BF := n2; have BH := n3; clear n1 n2 n3) | (go_at_call 90; (with_reducible refine (SQ.out _ HB.out).mono ?_); rintro e w2 ⟨rfl, hb1⟩; have n1 := zam (zkb BS.out hb1); have n2 := zam (zkb BF.out hb1); have n3 := zam (zkb BH.out hb1); have n4 := zam (zkb BT.out hb1); have n5 := zam (zbt HB.out hb1); clear BS BF BH BT HB hb1; have BS := n1; have BF := n2; have BH := n3; have BT := n4; have HB := n5; clear n1 n2 n3 n4 n5; skip))
 have n0 := zam (zkd BS.out)
 have n1 := zam (zkd BF.out)
 have n2 := zam (zkd BH.out)
 have n3 := zam (zkd BT.out)
 have n4 := zam (zb1 HB.out)
 clear BS BF BH BT HB
 have BS := n0
 have BF := n1
 have BH := n2
 have BT := n3
 have HB := n4
 clear n0 n1 n2 n3 n4
 refine start_ (n := 24) (S := fun w' => w'.cell? ⟨gs, 0, none⟩ = some (.pointer (some ⟨g, 0, none⟩)) ∧ w'.cell? ⟨g, 1, none⟩ = some (.slice (some ad0) els.length c) ∧ w'.cell? ⟨g, 9, none⟩ = some (.slice (some ad2) li.length c3) ∧ w'.cell? (ad0.add (i * 4)) = some (.int .i64 l) ∧ w'.cell? (ad2.add i) = some (.int .i64 v)) (ds := []) #[false, false, false, false, false, false, false, false, false, false, false, false, false, false, false, false, false, false, false, false, false, false, false, false] (by kernel_rfl) rfl rfl ⟨((zkc BS.out 0).trans rfl), ((zkc BF.out 1).trans rfl), ((zkc BF.out 9).trans rfl), ((HB.out.cell (zwb w _ HW0.out)).trans HW0.out), ((HB.out.cell (zwb w _ HY0.out)).trans HY0.out)⟩ (fun hHeld => ?_)
 refine with_tabW rise.tab2 rise.bits2 (fun HT_ HW_ => ?_)
 generalize World.drew _ = w3 at BS BF BH BT HB hHeld ⊢
 refine pure_ (i := 0) (N := some 15) (v := ?_) (a' := ?_) #[true, false, false, false, false, false, false, false, false, false, false, false, false, false, false, false, false, false, false, false, false, false, false, false] rfl rfl (any_of HT_.out (by kernel_rfl)) (fun _ _ _ h => h) (Or.inl ⟨by rfl, ?_⟩) ?_ ?_
 rotate_left
 ·intro w'
  go_simp
  with_reducible rfl
 rotate_left
 ·simp only [Act.put, zsa, zsz, zss, i64_w, i32_w]
  rfl
 refine pure_ (i := 1) (N := some 16) (v := ?_) (a' := ?_) #[true, true, false, false, false, false, false, false, false, false, false, false, false, false, false, false, false, false, false, false, false, false, false, false] rfl rfl (any_of HT_.out (by kernel_rfl)) (fun _ _ _ h => h) (Or.inl ⟨by rfl, ?_⟩) ?_ ?_
 rotate_left
 ·intro w'
  go_simp
  with_reducible rfl
 rotate_left
 ·simp only [Act.put, zsa, zsz, zss, i64_w, i32_w]
  rfl
 refine pure_ (i := 2) (N := some 17) (v := ?_) (a' := ?_) #[true, true, true, false, false, false, false, false, false, false, false, false, false, false, false, false, false, false, false, false, false, false, false, false] rfl rfl (any_of HT_.out (by kernel_rfl)) (fun _ _ _ h => h) (Or.inl ⟨by rfl, ?_⟩) ?_ ?_
 rotate_left
 ·intro w'
  go_simp
  with_reducible rfl
 rotate_left
 ·simp only [Act.put, zsa, zsz, zss, i64_w, i32_w]
  rfl
 refine pure_ (i := 8) (N := some 23) (v := ?_) (a' := ?_) #[true, true, true, false, false, false, false, false, true, false, false, false, false, false, false, false, false, false, false, false, false, false, false, false] rfl rfl (any_of HT_.out (by kernel_rfl)) (fun _ _ _ h => h) (Or.inl ⟨by rfl, ?_⟩) ?_ ?_
 rotate_left
 ·intro w'
  go_simp
  with_reducible rfl
 rotate_left
 ·simp only [Act.put, zsa, zsz, zss, i64_w, i32_w]
  rfl
 refine pure_ (i := 12) (N := some 27) (v := ?_) (a' := ?_) #[true, true, true, false, false, false, false, false, true, false, false, false, true, false, false, false, false, false, false, false, false, false, false, false] rfl rfl (any_of HT_.out (by kernel_rfl)) (fun _ _ _ h => h) (Or.inl ⟨by rfl, ?_⟩) ?_ ?_
 rotate_left
 ·intro w'
  go_simp
  with_reducible rfl
 rotate_left
 ·simp only [Act.put, zsa, zsz, zss, i64_w, i32_w]
  rfl
 refine pure_ (i := 13) (N := some 28) (v := ?_) (a' := ?_) #[true, true, true, false, false, false, false, false, true, false, false, false, true, true, false, false, false, false, false, false, false, false, false, false] rfl rfl (any_of HT_.out (by kernel_rfl)) (fun _ _ _ h => h) (Or.inl ⟨by rfl, ?_⟩) ?_ ?_
 rotate_left
 ·intro w'
  go_simp
  with_reducible rfl
 rotate_left
 ·simp only [Act.put, zsa, zsz, zss, i64_w, i32_w]
  rfl
 refine pure_ (i := 14) (N := some 29) (v := ?_) (a' := ?_) #[true, true, true, false, false, false, false, false, true, false, false, false, true, true, true, false, false, false, false, false, false, false, false, false] rfl rfl (any_of HT_.out (by kernel_rfl)) (fun _ _ _ h => h) (Or.inl ⟨by rfl, ?_⟩) ?_ ?_
 rotate_left
 ·intro w'
  go_simp
  with_reducible rfl
 rotate_left
 ·simp only [Act.put, zsa, zsz, zss, i64_w, i32_w]
  rfl
 refine pure_ (i := 19) (N := some 34) (v := ?_) (a' := ?_) #[true, true, true, false, false, false, false, false, true, false, false, false, true, true, true, false, false, false, false, true, false, false, false, false] rfl rfl (any_of HT_.out (by kernel_rfl)) (fun _ _ _ h => h) (Or.inl ⟨by rfl, ?_⟩) ?_ ?_
 rotate_left
 ·intro w'
  go_simp
  with_reducible rfl
 rotate_left
 ·simp only [Act.put, zsa, zsz, zss, i64_w, i32_w]
  rfl
 refine take_ (i := 3) (N := some 18) (v := ?_) (a' := ?_) #[true, true, true, true, false, false, false, false, true, false, false, false, true, true, true, false, false, false, false, true, false, false, false, false] rfl rfl (take_ofW HT_.out HW_.out (by kernel_rfl)) (fun _ _ _ h => h) (Or.inl ⟨by rfl, ?_⟩) hHeld ?_ ?_
 rotate_left
 ·rintro w' ⟨s0, s1, s2, s3, s4⟩
  go_simp
  with_reducible rfl
 rotate_left
 ·simp only [Act.put, zsa, zsz, zss, i64_w, i32_w]
  rfl
 refine pure_ (i := 4) (N := some 19) (v := ?_) (a' := ?_) #[true, true, true, true, true, false, false, false, true, false, false, false, true, true, true, false, false, false, false, true, false, false, false, false] rfl rfl (any_of HT_.out (by kernel_rfl)) (fun _ _ _ h => h) (Or.inl ⟨by rfl, ?_⟩) ?_ ?_
 rotate_left
 ·intro w'
  go_simp
  with_reducible rfl
 rotate_left
 ·simp only [Act.put, zsa, zsz, zss, i64_w, i32_w]
  rfl
 refine pure_ (i := 5) (N := some 20) (v := ?_) (a' := ?_) #[true, true, true, true, true, true, false, false, true, false, false, false, true, true, true, false, false, false, false, true, false, false, false, false] rfl rfl (any_of HT_.out (by kernel_rfl)) (fun _ _ _ h => h) (Or.inl ⟨by rfl, ?_⟩) ?_ ?_
 rotate_left
 ·intro w'
  go_simp
  with_reducible rfl
 rotate_left
 ·simp only [Act.put, zsa, zsz, zss, i64_w, i32_w]
  rfl
 refine pure_ (i := 6) (N := some 21) (v := ?_) (a' := ?_) #[true, true, true, true, true, true, true, false, true, false, false, false, true, true, true, false, false, false, false, true, false, false, false, false] rfl rfl (any_of HT_.out (by kernel_rfl)) (fun _ _ _ h => h) (Or.inl ⟨by rfl, ?_⟩) ?_ ?_
 rotate_left
 ·intro w'
  go_simp
  with_reducible rfl
 rotate_left
 ·simp only [Act.put, zsa, zsz, zss, i64_w, i32_w]
  rfl
 refine take_ (i := 7) (N := some 22) (v := ?_) (a' := ?_) #[true, true, true, true, true, true, true, true, true, false, false, false, true, true, true, false, false, false, false, true, false, false, false, false] rfl rfl (take_ofW HT_.out HW_.out (by kernel_rfl)) (fun _ _ _ h => h) (Or.inl ⟨by rfl, ?_⟩) hHeld ?_ ?_
 rotate_left
 ·rintro w' ⟨s0, s1, s2, s3, s4⟩
  go_simp
  with_reducible rfl
 rotate_left
 ·simp only [Act.put, zsa, zsz, zss, i64_w, i32_w]
  rfl
 refine pure_ (i := 9) (N := some 24) (v := ?_) (a' := ?_) #[true, true, true, true, true, true, true, true, true, true, false, false, true, true, true, false, false, false, false, true, false, false, false, false] rfl rfl (any_of HT_.out (by kernel_rfl)) (fun _ _ _ h => h) (Or.inl ⟨by rfl, ?_⟩) ?_ ?_
 rotate_left
 ·intro w'
  go_simp
  with_reducible rfl
 rotate_left
 ·simp only [Act.put, zsa, zsz, zss, i64_w, i32_w]
  rfl
 refine pure_ (i := 10) (N := some 25) (v := ?_) (a' := ?_) #[true, true, true, true, true, true, true, true, true, true, true, false, true, true, true, false, false, false, false, true, false, false, false, false] rfl rfl (any_of HT_.out (by kernel_rfl)) (fun _ _ _ h => h) (Or.inl ⟨by rfl, ?_⟩) ?_ ?_
 rotate_left
 ·intro w'
  go_simp
  with_reducible rfl
 rotate_left
 ·simp only [Act.put, zsa, zsz, zss, i64_w, i32_w]
  rfl
 refine take_ (i := 11) (N := some 26) (v := ?_) (a' := ?_) #[true, true, true, true, true, true, true, true, true, true, true, true, true, true, true, false, false, false, false, true, false, false, false, false] rfl rfl (take_ofW HT_.out HW_.out (by kernel_rfl)) (fun _ _ _ h => h) (Or.inl ⟨by rfl, ?_⟩) hHeld ?_ ?_
 rotate_left
 ·rintro w' ⟨s0, s1, s2, s3, s4⟩
  go_simp
  with_reducible rfl
 rotate_left
 ·simp only [Act.put, zsa, zsz, zss, i64_w, i32_w]
  rfl
 refine pure_ (i := 22) (N := some 7) (v := ?_) (a' := ?_) #[true, true, true, true, true, true, true, true, true, true, true, true, true, true, true, false, false, false, false, true, false, false, true, false] rfl rfl (any_of HT_.out (by kernel_rfl)) (fun _ _ _ h => h) (Or.inl ⟨by rfl, ?_⟩) ?_ ?_
 rotate_left
 ·intro w'
  go_simp
  with_reducible rfl
 rotate_left
 ·simp only [Act.put, zsa, zsz, zss, i64_w, i32_w]
  rfl
 refine take_ (i := 15) (N := some 30) (v := ?_) (a' := ?_) #[true, true, true, true, true, true, true, true, true, true, true, true, true, true, true, true, false, false, false, true, false, false, true, false] rfl rfl (take_ofW HT_.out HW_.out (by kernel_rfl)) (fun _ _ _ h => h) (Or.inl ⟨by rfl, ?_⟩) hHeld ?_ ?_
 rotate_left
 ·rintro w' ⟨s0, s1, s2, s3, s4⟩
  go_simp
  with_reducible rfl
 rotate_left
 ·simp only [Act.put, zsa, zsz, zss, i64_w, i32_w]
  rfl
 refine pure_ (i := 16) (N := some 31) (v := ?_) (a' := ?_) #[true, true, true, true, true, true, true, true, true, true, true, true, true, true, true, true, true, false, false, true, false, false, true, false] rfl rfl (any_of HT_.out (by kernel_rfl)) (fun _ _ _ h => h) (Or.inl ⟨by rfl, ?_⟩) ?_ ?_
 rotate_left
 ·intro w'
  go_simp
  with_reducible rfl
 rotate_left
 ·simp only [Act.put, zsa, zsz, zss, i64_w, i32_w]
  rfl
 refine pure_ (i := 17) (N := some 32) (v := ?_) (a' := ?_) #[true, true, true, true, true, true, true, true, true, true, true, true, true, true, true, true, true, true, false, true, false, false, true, false] rfl rfl (any_of HT_.out (by kernel_rfl)) (fun _ _ _ h => h) (Or.inl ⟨by rfl, ?_⟩) ?_ ?_
 rotate_left
 ·intro w'
  go_simp
  with_reducible rfl
 rotate_left
 ·simp only [Act.put, zsa, zsz, zss, i64_w, i32_w]
  rfl
 refine take_ (i := 18) (N := some 33) (v := ?_) (a' := ?_) #[true, true, true, true, true, true, true, true, true, true, true, true, true, true, true, true, true, true, true, true, false, false, true, false] rfl rfl (take_ofW HT_.out HW_.out (by kernel_rfl)) (fun _ _ _ h => h) (Or.inl ⟨by rfl, ?_⟩) hHeld ?_ ?_
 rotate_left
 ·rintro w' ⟨s0, s1, s2, s3, s4⟩
  go_simp
  with_reducible rfl
 rotate_left
 ·simp only [Act.put, zsa, zsz, zss, i64_w, i32_w]
  rfl
 refine pure_ (i := 20) (N := some 35) (v := ?_) (a' := ?_) #[true, true, true, true, true, true, true, true, true, true, true, true, true, true, true, true, true, true, true, true, true, false, true, false] rfl rfl (any_of HT_.out (by kernel_rfl)) (fun _ _ _ h => h) (Or.inl ⟨by rfl, ?_⟩) ?_ ?_
 rotate_left
 ·intro w'
  go_simp
  with_reducible rfl
 rotate_left
 ·simp only [Act.put, zsa, zsz, zss, i64_w, i32_w]
  rfl
 refine take_ (i := 21) (N := some 36) (v := ?_) (a' := ?_) #[true, true, true, true, true, true, true, true, true, true, true, true, true, true, true, true, true, true, true, true, true, true, true, false] rfl rfl (take_ofW HT_.out HW_.out (by kernel_rfl)) (fun _ _ _ h => h) (Or.inl ⟨by rfl, ?_⟩) hHeld ?_ ?_
 rotate_left
 ·rintro w' ⟨s0, s1, s2, s3, s4⟩
  go_simp
  with_reducible rfl
 rotate_left
 ·simp only [Act.put, zsa, zsz, zss, i64_w, i32_w]
  rfl
 refine pure_ (i := 23) (N := some 8) (v := ?_) (a' := ?_) #[true, true, true, true, true, true, true, true, true, true, true, true, true, true, true, true, true, true, true, true, true, true, true, true] rfl rfl (any_of HT_.out (by kernel_rfl)) (fun _ _ _ h => h) (Or.inl ⟨by rfl, ?_⟩) ?_ ?_
 rotate_left
 ·intro w'
  go_simp
  with_reducible rfl
 rotate_left
 ·simp only [Act.put, zsa, zsz, zss, i64_w, i32_w]
  rfl
 refine done_ (done_of HT_.out (by kernel_rfl)) ?_
 clear hHeld
 go_wp2
 have n0 := zam (zkd BS.out)
 have n1 := zam (zkd BF.out)
 have n2 := zam (zkd BH.out)
 have n3 := zam (zkd BT.out)
 have n4 := zam (zb1 HB.out)
 clear BS BF BH BT HB
 have BS := n0
 have BF := n1
 have BH := n2
 have BT := n3
 have HB := n4
 clear n0 n1 n2 n3 n4
 refine start_ (n := 48) (S := fun w' => w'.cell? ⟨gs, 0, none⟩ = some (.pointer (some ⟨g, 0, none⟩)) ∧ w'.cell? ⟨g, 4, none⟩ = some (.func (.func 98) #[] #[]) ∧ w'.cell? ⟨g, 5, none⟩ = some (.func (.func 99) #[] #[]) ∧ w'.cell? ⟨g, 6, none⟩ = some (.func (.func 97) #[] #[]) ∧ w'.cell? ⟨g, 7, none⟩ = some (.func (.func 100) #[] #[.pointer (some ⟨gh, 0, none⟩)])) (ds := []) #[false, false, false, false, false, false, false, false, false, false, false, false, false, false, false, false, false, false, false, false, false, false, false, false, false, false, false, false, false, false, false, false, false, false, false, false, false, false, false, false, false, false, false, false, false, false, false, false] (by kernel_rfl) rfl rfl ⟨((zkc BS.out 0).trans rfl), ((zkc BF.out 4).trans rfl), ((zkc BF.out 5).trans rfl), ((zkc BF.out 6).trans rfl), ((zkc BF.out 7).trans rfl)⟩ (fun hHeld => ?_)
 refine with_tabW rise.tab3 rise.bits3 (fun HT_ HW_ => ?_)
 generalize World.drew _ = w4 at BS BF BH BT HB hHeld ⊢
 refine pure_ (i := 0) (N := some 37) (v := ?_) (a' := ?_) #[true, false, false, false, false, false, false, false, false, false, false, false, false, false, false, false, false, false, false, false, false, false, false, false, false, false, false, false, false, false, false, false, false, false, false, false, false, false, false, false, false, false, false, false, false, false, false, false] rfl rfl (any_of HT_.out (by kernel_rfl)) (fun _ _ _ h => h) (Or.inl ⟨by rfl, ?_⟩) ?_ ?_
 rotate_left
 ·intro w'
  go_simp
  with_reducible rfl
 rotate_left
 ·simp only [Act.put, zsa, zsz, zss, i64_w, i32_w]
  rfl
 refine pure_ (i := 1) (N := some 38) (v := ?_) (a' := ?_) #[true, true, false, false, false, false, false, false, false, false, false, false, false, false, false, false, false, false, false, false, false, false, false, false, false, false, false, false, false, false, false, false, false, false, false, false, false, false, false, false, false, false, false, false, false, false, false, false] rfl rfl (any_of HT_.out (by kernel_rfl)) (fun _ _ _ h => h) (Or.inl ⟨by rfl, ?_⟩) ?_ ?_
 rotate_left
 ·intro w'
  go_simp
  with_reducible rfl
 rotate_left
 ·simp only [Act.put, zsa, zsz, zss, i64_w, i32_w]
  rfl
 refine pure_ (i := 2) (N := some 39) (v := ?_) (a' := ?_) #[true, true, true, false, false, false, false, false, false, false, false, false, false, false, false, false, false, false, false, false, false, false, false, false, false, false, false, false, false, false, false, false, false, false, false, false, false, false, false, false, false, false, false, false, false, false, false, false] rfl rfl (any_of HT_.out (by kernel_rfl)) (fun _ _ _ h => h) (Or.inl ⟨by rfl, ?_⟩) ?_ ?_
 rotate_left
 ·intro w'
  go_simp
  with_reducible rfl
 rotate_left
 ·simp only [Act.put, zsa, zsz, zss, i64_w, i32_w]
  rfl
 refine pure_ (i := 8) (N := some 45) (v := ?_) (a' := ?_) #[true, true, true, false, false, false, false, false, true, false, false, false, false, false, false, false, false, false, false, false, false, false, false, false, false, false, false, false, false, false, false, false, false, false, false, false, false, false, false, false, false, false, false, false, false, false, false, false] rfl rfl (any_of HT_.out (by kernel_rfl)) (fun _ _ _ h => h) (Or.inl ⟨by rfl, ?_⟩) ?_ ?_
 rotate_left
 ·intro w'
  go_simp
  with_reducible rfl
 rotate_left
 ·simp only [Act.put, zsa, zsz, zss, i64_w, i32_w]
  rfl
 refine pure_ (i := 9) (N := some 46) (v := ?_) (a' := ?_) #[true, true, true, false, false, false, false, false, true, true, false, false, false, false, false, false, false, false, false, false, false, false, false, false, false, false, false, false, false, false, false, false, false, false, false, false, false, false, false, false, false, false, false, false, false, false, false, false] rfl rfl (any_of HT_.out (by kernel_rfl)) (fun _ _ _ h => h) (Or.inl ⟨by rfl, ?_⟩) ?_ ?_
 rotate_left
 ·intro w'
  go_simp
  with_reducible rfl
 rotate_left
 ·simp only [Act.put, zsa, zsz, zss, i64_w, i32_w]
  rfl
 refine pure_ (i := 10) (N := some 47) (v := ?_) (a' := ?_) #[true, true, true, false, false, false, false, false, true, true, true, false, false, false, false, false, false, false, false, false, false, false, false, false, false, false, false, false, false, false, false, false, false, false, false, false, false, false, false, false, false, false, false, false, false, false, false, false] rfl rfl (any_of HT_.out (by kernel_rfl)) (fun _ _ _ h => h) (Or.inl ⟨by rfl, ?_⟩) ?_ ?_
 rotate_left
 ·intro w'
  go_simp
  with_reducible rfl
 rotate_left
 ·simp only [Act.put, zsa, zsz, zss, i64_w, i32_w]
  rfl
 refine pure_ (i := 11) (N := some 48) (v := ?_) (a' := ?_) #[true, true, true, false, false, false, false, false, true, true, true, true, false, false, false, false, false, false, false, false, false, false, false, false, false, false, false, false, false, false, false, false, false, false, false, false, false, false, false, false, false, false, false, false, false, false, false, false] rfl rfl (any_of HT_.out (by kernel_rfl)) (fun _ _ _ h => h) (Or.inl ⟨by rfl, ?_⟩) ?_ ?_
 rotate_left
 ·intro w'
  go_simp
  with_reducible rfl
 rotate_left
 ·simp only [Act.put, zsa, zsz, zss, i64_w, i32_w]
  rfl
 refine pure_ (i := 12) (N := some 49) (v := ?_) (a' := ?_) #[true, true, true, false, false, false, false, false, true, true, true, true, true, false, false, false, false, false, false, false, false, false, false, false, false, false, false, false, false, false, false, false, false, false, false, false, false, false, false, false, false, false, false, false, false, false, false, false] rfl rfl (any_of HT_.out (by kernel_rfl)) (fun _ _ _ h => h) (Or.inl ⟨by rfl, ?_⟩) ?_ ?_
 rotate_left
 ·intro w'
  go_simp
  with_reducible rfl
 rotate_left
 ·simp only [Act.put, zsa, zsz, zss, i64_w, i32_w]
  rfl
 refine pure_ (i := 13) (N := some 50) (v := ?_) (a' := ?_) #[true, true, true, false, false, false, false, false, true, true, true, true, true, true, false, false, false, false, false, false, false, false, false, false, false, false, false, false, false, false, false, false, false, false, false, false, false, false, false, false, false, false, false, false, false, false, false, false] rfl rfl (any_of HT_.out (by kernel_rfl)) (fun _ _ _ h => h) (Or.inl ⟨by rfl, ?_⟩) ?_ ?_
 rotate_left
 ·intro w'
  go_simp
  with_reducible rfl
 rotate_left
 ·simp only [Act.put, zsa, zsz, zss, i64_w, i32_w]
  rfl
 refine pure_ (i := 19) (N := some 56) (v := ?_) (a' := ?_) #[true, true, true, false, false, false, false, false, true, true, true, true, true, true, false, false, false, false, false, true, false, false, false, false, false, false, false, false, false, false, false, false, false, false, false, false, false, false, false, false, false, false, false, false, false, false, false, false] rfl rfl (any_of HT_.out (by kernel_rfl)) (fun _ _ _ h => h) (Or.inl ⟨by rfl, ?_⟩) ?_ ?_
 rotate_left
 ·intro w'
  go_simp
  with_reducible rfl
 rotate_left
 ·simp only [Act.put, zsa, zsz, zss, i64_w, i32_w]
  rfl
 refine pure_ (i := 22) (N := some 59) (v := ?_) (a' := ?_) #[true, true, true, false, false, false, false, false, true, true, true, true, true, true, false, false, false, false, false, true, false, false, true, false, false, false, false, false, false, false, false, false, false, false, false, false, false, false, false, false, false, false, false, false, false, false, false, false] rfl rfl (any_of HT_.out (by kernel_rfl)) (fun _ _ _ h => h) (Or.inl ⟨by rfl, ?_⟩) ?_ ?_
 rotate_left
 ·intro w'
  go_simp
  with_reducible rfl
 rotate_left
 ·simp only [Act.put, zsa, zsz, zss, i64_w, i32_w]
  rfl
 refine pure_ (i := 23) (N := some 60) (v := ?_) (a' := ?_) #[true, true, true, false, false, false, false, false, true, true, true, true, true, true, false, false, false, false, false, true, false, false, true, true, false, false, false, false, false, false, false, false, false, false, false, false, false, false, false, false, false, false, false, false, false, false, false, false] rfl rfl (any_of HT_.out (by kernel_rfl)) (fun _ _ _ h => h) (Or.inl ⟨by rfl, ?_⟩) ?_ ?_
 rotate_left
 ·intro w'
  go_simp
  with_reducible rfl
 rotate_left
 ·simp only [Act.put, zsa, zsz, zss, i64_w, i32_w]
  rfl
 refine pure_ (i := 24) (N := some 61) (v := ?_) (a' := ?_) #[true, true, true, false, false, false, false, false, true, true, true, true, true, true, false, false, false, false, false, true, false, false, true, true, true, false, false, false, false, false, false, false, false, false, false, false, false, false, false, false, false, false, false, false, false, false, false, false] rfl rfl (any_of HT_.out (by kernel_rfl)) (fun _ _ _ h => h) (Or.inl ⟨by rfl, ?_⟩) ?_ ?_
 rotate_left
 ·intro w'
  go_simp
  with_reducible rfl
 rotate_left
 ·simp only [Act.put, zsa, zsz, zss, i64_w, i32_w]
  rfl
 refine pure_ (i := 25) (N := some 62) (v := ?_) (a' := ?_) #[true, true, true, false, false, false, false, false, true, true, true, true, true, true, false, false, false, false, false, true, false, false, true, true, true, true, false, false, false, false, false, false, false, false, false, false, false, false, false, false, false, false, false, false, false, false, false, false] rfl rfl (any_of HT_.out (by kernel_rfl)) (fun _ _ _ h => h) (Or.inl ⟨by rfl, ?_⟩) ?_ ?_
 rotate_left
 ·intro w'
  go_simp
  with_reducible rfl
 rotate_left
 ·simp only [Act.put, zsa, zsz, zss, i64_w, i32_w]
  rfl
 refine pure_ (i := 31) (N := some 68) (v := ?_) (a' := ?_) #[true, true, true, false, false, false, false, false, true, true, true, true, true, true, false, false, false, false, false, true, false, false, true, true, true, true, false, false, false, false, false, true, false, false, false, false, false, false, false, false, false, false, false, false, false, false, false, false] rfl rfl (any_of HT_.out (by kernel_rfl)) (fun _ _ _ h => h) (Or.inl ⟨by rfl, ?_⟩) ?_ ?_
 rotate_left
 ·intro w'
  go_simp
  with_reducible rfl
 rotate_left
 ·simp only [Act.put, zsa, zsz, zss, i64_w, i32_w]
  rfl
 refine pure_ (i := 32) (N := some 69) (v := ?_) (a' := ?_) #[true, true, true, false, false, false, false, false, true, true, true, true, true, true, false, false, false, false, false, true, false, false, true, true, true, true, false, false, false, false, false, true, true, false, false, false, false, false, false, false, false, false, false, false, false, false, false, false] rfl rfl (any_of HT_.out (by kernel_rfl)) (fun _ _ _ h => h) (Or.inl ⟨by rfl, ?_⟩) ?_ ?_
 rotate_left
 ·intro w'
  go_simp
  with_reducible rfl
 rotate_left
 ·simp only [Act.put, zsa, zsz, zss, i64_w, i32_w]
  rfl
 refine pure_ (i := 33) (N := some 70) (v := ?_) (a' := ?_) #[true, true, true, false, false, false, false, false, true, true, true, true, true, true, false, false, false, false, false, true, false, false, true, true, true, true, false, false, false, false, false, true, true, true, false, false, false, false, false, false, false, false, false, false, false, false, false, false] rfl rfl (any_of HT_.out (by kernel_rfl)) (fun _ _ _ h => h) (Or.inl ⟨by rfl, ?_⟩) ?_ ?_
 rotate_left
 ·intro w'
  go_simp
  with_reducible rfl
 rotate_left
 ·simp only [Act.put, zsa, zsz, zss, i64_w, i32_w]
  rfl
 refine pure_ (i := 34) (N := some 71) (v := ?_) (a' := ?_) #[true, true, true, false, false, false, false, false, true, true, true, true, true, true, false, false, false, false, false, true, false, false, true, true, true, true, false, false, false, false, false, true, true, true, true, false, false, false, false, false, false, false, false, false, false, false, false, false] rfl rfl (any_of HT_.out (by kernel_rfl)) (fun _ _ _ h => h) (Or.inl ⟨by rfl, ?_⟩) ?_ ?_
 rotate_left
 ·intro w'
  go_simp
  with_reducible rfl
 rotate_left
 ·simp only [Act.put, zsa, zsz, zss, i64_w, i32_w]
  rfl
 refine pure_ (i := 35) (N := some 72) (v := ?_) (a' := ?_) #[true, true, true, false, false, false, false, false, true, true, true, true, true, true, false, false, false, false, false, true, false, false, true, true, true, true, false, false, false, false, false, true, true, true, true, true, false, false, false, false, false, false, false, false, false, false, false, false] rfl rfl (any_of HT_.out (by kernel_rfl)) (fun _ _ _ h => h) (Or.inl ⟨by rfl, ?_⟩) ?_ ?_
 rotate_left
 ·intro w'
  go_simp
  with_reducible rfl
 rotate_left
 ·simp only [Act.put, zsa, zsz, zss, i64_w, i32_w]
  rfl
 refine pure_ (i := 36) (N := some 73) (v := ?_) (a' := ?_) #[true, true, true, false, false, false, false, false, true, true, true, true, true, true, false, false, false, false, false, true, false, false, true, true, true, true, false, false, false, false, false, true, true, true, true, true, true, false, false, false, false, false, false, false, false, false, false, false] rfl rfl (any_of HT_.out (by kernel_rfl)) (fun _ _ _ h => h) (Or.inl ⟨by rfl, ?_⟩) ?_ ?_
 rotate_left
 ·intro w'
  go_simp
  with_reducible rfl
 rotate_left
 ·simp only [Act.put, zsa, zsz, zss, i64_w, i32_w]
  rfl
 refine pure_ (i := 42) (N := some 79) (v := ?_) (a' := ?_) #[true, true, true, false, false, false, false, false, true, true, true, true, true, true, false, false, false, false, false, true, false, false, true, true, true, true, false, false, false, false, false, true, true, true, true, true, true, false, false, false, false, false, true, false, false, false, false, false] rfl rfl (any_of HT_.out (by kernel_rfl)) (fun _ _ _ h => h) (Or.inl ⟨by rfl, ?_⟩) ?_ ?_
 rotate_left
 ·intro w'
  go_simp
  with_reducible rfl
 rotate_left
 ·simp only [Act.put, zsa, zsz, zss, i64_w, i32_w]
  rfl
 refine take_ (i := 3) (N := some 40) (v := ?_) (a' := ?_) #[true, true, true, true, false, false, false, false, true, true, true, true, true, true, false, false, false, false, false, true, false, false, true, true, true, true, false, false, false, false, false, true, true, true, true, true, true, false, false, false, false, false, true, false, false, false, false, false] rfl rfl (take_ofW HT_.out HW_.out (by kernel_rfl)) (fun _ _ _ h => h) (Or.inl ⟨by rfl, ?_⟩) hHeld ?_ ?_
 rotate_left
 ·rintro w' ⟨s0, s1, s2, s3, s4⟩
  go_simp
  with_reducible rfl
 rotate_left
 ·simp only [Act.put, zsa, zsz, zss, i64_w, i32_w]
  rfl
 refine pure_ (i := 4) (N := some 41) (v := ?_) (a' := ?_) #[true, true, true, true, true, false, false, false, true, true, true, true, true, true, false, false, false, false, false, true, false, false, true, true, true, true, false, false, false, false, false, true, true, true, true, true, true, false, false, false, false, false, true, false, false, false, false, false] rfl rfl (any_of HT_.out (by kernel_rfl)) (fun _ _ _ h => h) (Or.inl ⟨by rfl, ?_⟩) ?_ ?_
 rotate_left
 ·intro w'
  go_simp
  with_reducible rfl
 rotate_left
 ·simp only [Act.put, zsa, zsz, zss, i64_w, i32_w]
  rfl
 refine pure_ (i := 5) (N := some 42) (v := ?_) (a' := ?_) #[true, true, true, true, true, true, false, false, true, true, true, true, true, true, false, false, false, false, false, true, false, false, true, true, true, true, false, false, false, false, false, true, true, true, true, true, true, false, false, false, false, false, true, false, false, false, false, false] rfl rfl (any_of HT_.out (by kernel_rfl)) (fun _ _ _ h => h) (Or.inl ⟨by rfl, ?_⟩) ?_ ?_
 rotate_left
 ·intro w'
  go_simp
  with_reducible rfl
 rotate_left
 ·simp only [Act.put, zsa, zsz, zss, i64_w, i32_w]
  rfl
 refine pure_ (i := 6) (N := some 43) (v := ?_) (a' := ?_) #[true, true, true, true, true, true, true, false, true, true, true, true, true, true, false, false, false, false, false, true, false, false, true, true, true, true, false, false, false, false, false, true, true, true, true, true, true, false, false, false, false, false, true, false, false, false, false, false] rfl rfl (any_of HT_.out (by kernel_rfl)) (fun _ _ _ h => h) (Or.inl ⟨by rfl, ?_⟩) ?_ ?_
 rotate_left
 ·intro w'
  go_simp
  with_reducible rfl
 rotate_left
 ·simp only [Act.put, zsa, zsz, zss, i64_w, i32_w]
  rfl
 refine take_ (i := 7) (N := some 44) (v := ?_) (a' := ?_) #[true, true, true, true, true, true, true, true, true, true, true, true, true, true, false, false, false, false, false, true, false, false, true, true, true, true, false, false, false, false, false, true, true, true, true, true, true, false, false, false, false, false, true, false, false, false, false, false] rfl rfl (take_ofW HT_.out HW_.out (by kernel_rfl)) (fun _ _ _ h => h) (Or.inl ⟨by rfl, ?_⟩) hHeld ?_ ?_
 rotate_left
 ·rintro w' ⟨s0, s1, s2, s3, s4⟩
  go_simp
  with_reducible rfl
 rotate_left
 ·simp only [Act.put, zsa, zsz, zss, i64_w, i32_w]
  rfl
 refine take_ (i := 14) (N := some 51) (v := ?_) (a' := ?_) #[true, true, true, true, true, true, true, true, true, true, true, true, true, true, true, false, false, false, false, true, false, false, true, true, true, true, false, false, false, false, false, true, true, true, true, true, true, false, false, false, false, false, true, false, false, false, false, false] rfl rfl (take_ofW HT_.out HW_.out (by kernel_rfl)) (fun _ _ _ h => h) (Or.inl ⟨by rfl, ?_⟩) hHeld ?_ ?_
 rotate_left
 ·rintro w' ⟨s0, s1, s2, s3, s4⟩
  go_simp
  with_reducible rfl
 rotate_left
 ·simp only [Act.put, zsa, zsz, zss, i64_w, i32_w]
  rfl
 refine pure_ (i := 15) (N := some 52) (v := ?_) (a' := ?_) #[true, true, true, true, true, true, true, true, true, true, true, true, true, true, true, true, false, false, false, true, false, false, true, true, true, true, false, false, false, false, false, true, true, true, true, true, true, false, false, false, false, false, true, false, false, false, false, false] rfl rfl (any_of HT_.out (by kernel_rfl)) (fun _ _ _ h => h) (Or.inl ⟨by rfl, ?_⟩) ?_ ?_
 rotate_left
 ·intro w'
  go_simp
  with_reducible rfl
 rotate_left
 ·simp only [Act.put, zsa, zsz, zss, i64_w, i32_w]
  rfl
 refine pure_ (i := 16) (N := some 53) (v := ?_) (a' := ?_) #[true, true, true, true, true, true, true, true, true, true, true, true, true, true, true, true, true, false, false, true, false, false, true, true, true, true, false, false, false, false, false, true, true, true, true, true, true, false, false, false, false, false, true, false, false, false, false, false] rfl rfl (any_of HT_.out (by kernel_rfl)) (fun _ _ _ h => h) (Or.inl ⟨by rfl, ?_⟩) ?_ ?_
 rotate_left
 ·intro w'
  go_simp
  with_reducible rfl
 rotate_left
 ·simp only [Act.put, zsa, zsz, zss, i64_w, i32_w]
  rfl
 refine pure_ (i := 17) (N := some 54) (v := ?_) (a' := ?_) #[true, true, true, true, true, true, true, true, true, true, true, true, true, true, true, true, true, true, false, true, false, false, true, true, true, true, false, false, false, false, false, true, true, true, true, true, true, false, false, false, false, false, true, false, false, false, false, false] rfl rfl (any_of HT_.out (by kernel_rfl)) (fun _ _ _ h => h) (Or.inl ⟨by rfl, ?_⟩) ?_ ?_
 rotate_left
 ·intro w'
  go_simp
  with_reducible rfl
 rotate_left
 ·simp only [Act.put, zsa, zsz, zss, i64_w, i32_w]
  rfl
 refine take_ (i := 18) (N := some 55) (v := ?_) (a' := ?_) #[true, true, true, true, true, true, true, true, true, true, true, true, true, true, true, true, true, true, true, true, false, false, true, true, true, true, false, false, false, false, false, true, true, true, true, true, true, false, false, false, false, false, true, false, false, false, false, false] rfl rfl (take_ofW HT_.out HW_.out (by kernel_rfl)) (fun _ _ _ h => h) (Or.inl ⟨by rfl, ?_⟩) hHeld ?_ ?_
 rotate_left
 ·rintro w' ⟨s0, s1, s2, s3, s4⟩
  go_simp
  with_reducible rfl
 rotate_left
 ·simp only [Act.put, zsa, zsz, zss, i64_w, i32_w]
  rfl
 refine take_ (i := 26) (N := some 63) (v := ?_) (a' := ?_) #[true, true, true, true, true, true, true, true, true, true, true, true, true, true, true, true, true, true, true, true, false, false, true, true, true, true, true, false, false, false, false, true, true, true, true, true, true, false, false, false, false, false, true, false, false, false, false, false] rfl rfl (take_ofW HT_.out HW_.out (by kernel_rfl)) (fun _ _ _ h => h) (Or.inl ⟨by rfl, ?_⟩) hHeld ?_ ?_
 rotate_left
 ·rintro w' ⟨s0, s1, s2, s3, s4⟩
  go_simp
  with_reducible rfl
 rotate_left
 ·simp only [Act.put, zsa, zsz, zss, i64_w, i32_w]
  rfl
 refine pure_ (i := 27) (N := some 64) (v := ?_) (a' := ?_) #[true, true, true, true, true, true, true, true, true, true, true, true, true, true, true, true, true, true, true, true, false, false, true, true, true, true, true, true, false, false, false, true, true, true, true, true, true, false, false, false, false, false, true, false, false, false, false, false] rfl rfl (any_of HT_.out (by kernel_rfl)) (fun _ _ _ h => h) (Or.inl ⟨by rfl, ?_⟩) ?_ ?_
 rotate_left
 ·intro w'
  go_simp
  with_reducible rfl
 rotate_left
 ·simp only [Act.put, zsa, zsz, zss, i64_w, i32_w]
  rfl
 refine pure_ (i := 28) (N := some 65) (v := ?_) (a' := ?_) #[true, true, true, true, true, true, true, true, true, true, true, true, true, true, true, true, true, true, true, true, false, false, true, true, true, true, true, true, true, false, false, true, true, true, true, true, true, false, false, false, false, false, true, false, false, false, false, false] rfl rfl (any_of HT_.out (by kernel_rfl)) (fun _ _ _ h => h) (Or.inl ⟨by rfl, ?_⟩) ?_ ?_
 rotate_left
 ·intro w'
  go_simp
  with_reducible rfl
 rotate_left
 ·simp only [Act.put, zsa, zsz, zss, i64_w, i32_w]
  rfl
 refine pure_ (i := 29) (N := some 66) (v := ?_) (a' := ?_) #[true, true, true, true, true, true, true, true, true, true, true, true, true, true, true, true, true, true, true, true, false, false, true, true, true, true, true, true, true, true, false, true, true, true, true, true, true, false, false, false, false, false, true, false, false, false, false, false] rfl rfl (any_of HT_.out (by kernel_rfl)) (fun _ _ _ h => h) (Or.inl ⟨by rfl, ?_⟩) ?_ ?_
 rotate_left
 ·intro w'
  go_simp
  with_reducible rfl
 rotate_left
 ·simp only [Act.put, zsa, zsz, zss, i64_w, i32_w]
  rfl
 refine take_ (i := 30) (N := some 67) (v := ?_) (a' := ?_) #[true, true, true, true, true, true, true, true, true, true, true, true, true, true, true, true, true, true, true, true, false, false, true, true, true, true, true, true, true, true, true, true, true, true, true, true, true, false, false, false, false, false, true, false, false, false, false, false] rfl rfl (take_ofW HT_.out HW_.out (by kernel_rfl)) (fun _ _ _ h => h) (Or.inl ⟨by rfl, ?_⟩) hHeld ?_ ?_
 rotate_left
 ·rintro w' ⟨s0, s1, s2, s3, s4⟩
  go_simp
  with_reducible rfl
 rotate_left
 ·simp only [Act.put, zsa, zsz, zss, i64_w, i32_w]
  rfl
 refine take_ (i := 37) (N := some 74) (v := ?_) (a' := ?_) #[true, true, true, true, true, true, true, true, true, true, true, true, true, true, true, true, true, true, true, true, false, false, true, true, true, true, true, true, true, true, true, true, true, true, true, true, true, true, false, false, false, false, true, false, false, false, false, false] rfl rfl (take_ofW HT_.out HW_.out (by kernel_rfl)) (fun _ _ _ h => h) (Or.inl ⟨by rfl, ?_⟩) hHeld ?_ ?_
 rotate_left
 ·rintro w' ⟨s0, s1, s2, s3, s4⟩
  go_simp
  with_reducible rfl
 rotate_left
 ·simp only [Act.put, zsa, zsz, zss, i64_w, i32_w]
  rfl
 refine pure_ (i := 38) (N := some 75) (v := ?_) (a' := ?_) #[true, true, true, true, true, true, true, true, true, true, true, true, true, true, true, true, true, true, true, true, false, false, true, true, true, true, true, true, true, true, true, true, true, true, true, true, true, true, true, false, false, false, true, false, false, false, false, false] rfl rfl (any_of HT_.out (by kernel_rfl)) (fun _ _ _ h => h) (Or.inl ⟨by rfl, ?_⟩) ?_ ?_
 rotate_left
 ·intro w'
  go_simp
  with_reducible rfl
 rotate_left
 ·simp only [Act.put, zsa, zsz, zss, i64_w, i32_w]
  rfl
 refine pure_ (i := 39) (N := some 76) (v := ?_) (a' := ?_) #[true, true, true, true, true, true, true, true, true, true, true, true, true, true, true, true, true, true, true, true, false, false, true, true, true, true, true, true, true, true, true, true, true, true, true, true, true, true, true, true, false, false, true, false, false, false, false, false] rfl rfl (any_of HT_.out (by kernel_rfl)) (fun _ _ _ h => h) (Or.inl ⟨by rfl, ?_⟩) ?_ ?_
 rotate_left
 ·intro w'
  go_simp
  with_reducible rfl
 rotate_left
 ·simp only [Act.put, zsa, zsz, zss, i64_w, i32_w]
  rfl
 refine pure_ (i := 40) (N := some 77) (v := ?_) (a' := ?_) #[true, true, true, true, true, true, true, true, true, true, true, true, true, true, true, true, true, true, true, true, false, false, true, true, true, true, true, true, true, true, true, true, true, true, true, true, true, true, true, true, true, false, true, false, false, false, false, false] rfl rfl (any_of HT_.out (by kernel_rfl)) (fun _ _ _ h => h) (Or.inl ⟨by rfl, ?_⟩) ?_ ?_
 rotate_left
 ·intro w'
  go_simp
  with_reducible rfl
 rotate_left
 ·simp only [Act.put, zsa, zsz, zss, i64_w, i32_w]
  rfl
 refine take_ (i := 41) (N := some 78) (v := ?_) (a' := ?_) #[true, true, true, true, true, true, true, true, true, true, true, true, true, true, true, true, true, true, true, true, false, false, true, true, true, true, true, true, true, true, true, true, true, true, true, true, true, true, true, true, true, true, true, false, false, false, false, false] rfl rfl (take_ofW HT_.out HW_.out (by kernel_rfl)) (fun _ _ _ h => h) (Or.inl ⟨by rfl, ?_⟩) hHeld ?_ ?_
 rotate_left
 ·rintro w' ⟨s0, s1, s2, s3, s4⟩
  go_simp
  with_reducible rfl
 rotate_left
 ·simp only [Act.put, zsa, zsz, zss, i64_w, i32_w]
  rfl
 refine one_ (i := 20) (N := some 57) #[true, true, true, true, true, true, true, true, true, true, true, true, true, true, true, true, true, true, true, true, true, false, true, true, true, true, true, true, true, true, true, true, true, true, true, true, true, true, true, true, true, true, true, false, false, false, false, false] rfl rfl (one_of HT_.out (by kernel_rfl)) (by decide) (fun K hK => ?_)
 refine goesT_ Try.func100 (by kernel_rfl) rfl #[.int .i64 b, .pointer (some ⟨gh, 0, none⟩)] (by rfl) rfl rfl rfl (by simp only [zmt, List.map_cons, List.map_nil]; rfl) ?_
 with_reducible refine (mooring_high.calls b (Int.le_trans (by decide) RB.out) RB2.out gh _ BH.out).mono ?_
 rintro e w' ⟨rfl, ⟨nd, rfl⟩⟩
 refine ⟨_, rfl, ?_⟩
 refine hK.out _ _ ⟨((zkc BS.out 0).trans rfl), ((zkc BF.out 4).trans rfl), ((zkc BF.out 5).trans rfl), ((zkc BF.out 6).trans rfl), ((zkc BF.out 7).trans rfl)⟩ (fun hHeld => ?_)
 clear hK K
 refine norm_ (a' := ?_) ?_ ?_
 rotate_left
 ·show Act.put _ (some 57) _ = _
  simp only [Act.put, zsa, zsz, zss, i64_w, i32_w]
  rfl
 refine one_ (i := 21) (N := some 58) #[true, true, true, true, true, true, true, true, true, true, true, true, true, true, true, true, true, true, true, true, true, true, true, true, true, true, true, true, true, true, true, true, true, true, true, true, true, true, true, true, true, true, true, false, false, false, false, false] rfl rfl (one_of HT_.out (by kernel_rfl)) (by decide) (fun K hK => ?_)
 refine goesT_ Try.func98 (by kernel_rfl) rfl #[.int .i64 (wrap64 (l * v)), .int .i64 (Moor.rootUp b)] (by rfl) rfl rfl rfl (by simp only [zmt, List.map_cons, List.map_nil]; rfl) ?_
 with_reducible refine (mooring_rounds_2.calls _ _ x _ HQ0.out).mono ?_
 rintro e w' ⟨rfl, ⟨nd2, rfl⟩⟩
 refine ⟨_, rfl, ?_⟩
 refine hK.out _ _ ⟨((zkc BS.out 0).trans rfl), ((zkc BF.out 4).trans rfl), ((zkc BF.out 5).trans rfl), ((zkc BF.out 6).trans rfl), ((zkc BF.out 7).trans rfl)⟩ (fun hHeld => ?_)
 clear hK K
 refine norm_ (a' := ?_) ?_ ?_
 rotate_left
 ·show Act.put _ (some 58) _ = _
  simp only [Act.put, zsa, zsz, zss, i64_w, i32_w]
  rfl
 refine one_ (i := 43) (N := some 80) #[true, true, true, true, true, true, true, true, true, true, true, true, true, true, true, true, true, true, true, true, true, true, true, true, true, true, true, true, true, true, true, true, true, true, true, true, true, true, true, true, true, true, true, true, false, false, false, false] rfl rfl (one_of HT_.out (by kernel_rfl)) (by decide) (fun K hK => ?_)
 refine goesT_ Try.func97 (by kernel_rfl) rfl #[.int .i64 a] (by rfl) rfl rfl rfl (by simp only [zmt, List.map_cons, List.map_nil]; rfl) ?_
 with_reducible refine (mooring_low.calls a (Int.le_trans (by decide) RA.out) RA2.out _).mono ?_
 rintro e w' ⟨rfl, ⟨nd3, rfl⟩⟩
 refine ⟨_, rfl, ?_⟩
 refine hK.out _ _ ⟨((zkc BS.out 0).trans rfl), ((zkc BF.out 4).trans rfl), ((zkc BF.out 5).trans rfl), ((zkc BF.out 6).trans rfl), ((zkc BF.out 7).trans rfl)⟩ (fun hHeld => ?_)
 clear hK K
 refine norm_ (a' := ?_) ?_ ?_
 rotate_left
 ·show Act.put _ (some 80) _ = _
  simp only [Act.put, zsa, zsz, zss, i64_w, i32_w]
  rfl
 refine one_ (i := 44) (N := some 81) #[true, true, true, true, true, true, true, true, true, true, true, true, true, true, true, true, true, true, true, true, true, true, true, true, true, true, true, true, true, true, true, true, true, true, true, true, true, true, true, true, true, true, true, true, true, false, false, false] rfl rfl (one_of HT_.out (by kernel_rfl)) (by decide) (fun K hK => ?_)
 refine goesT_ Try.func99 (by kernel_rfl) rfl #[.int .i64 (wrap64 (l * v)), .int .i64 (Moor.root a)] (by rfl) rfl rfl rfl (by simp only [zmt, List.map_cons, List.map_nil]; rfl) ?_
 with_reducible refine (mooring_rounds_3.calls _ _ y _ HQ1.out).mono ?_
 rintro e w' ⟨rfl, ⟨nd4, rfl⟩⟩
 refine ⟨_, rfl, ?_⟩
 refine hK.out _ _ ⟨((zkc BS.out 0).trans rfl), ((zkc BF.out 4).trans rfl), ((zkc BF.out 5).trans rfl), ((zkc BF.out 6).trans rfl), ((zkc BF.out 7).trans rfl)⟩ (fun hHeld => ?_)
 clear hK K
 refine norm_ (a' := ?_) ?_ ?_
 rotate_left
 ·show Act.put _ (some 81) _ = _
  simp only [Act.put, zsa, zsz, zss, i64_w, i32_w]
  rfl
 refine pure_ (i := 45) (N := some 82) (v := ?_) (a' := ?_) #[true, true, true, true, true, true, true, true, true, true, true, true, true, true, true, true, true, true, true, true, true, true, true, true, true, true, true, true, true, true, true, true, true, true, true, true, true, true, true, true, true, true, true, true, true, true, false, false] rfl rfl (any_of HT_.out (by kernel_rfl)) (fun _ _ _ h => h) (Or.inl ⟨by rfl, ?_⟩) ?_ ?_
 rotate_left
 ·intro w'
  go_simp
  with_reducible rfl
 rotate_left
 ·simp only [Act.put, zsa, zsz, zss, i64_w, i32_w]
  rfl
 refine pure_ (i := 46) (N := some 83) (v := ?_) (a' := ?_) #[true, true, true, true, true, true, true, true, true, true, true, true, true, true, true, true, true, true, true, true, true, true, true, true, true, true, true, true, true, true, true, true, true, true, true, true, true, true, true, true, true, true, true, true, true, true, true, false] rfl rfl (any_of HT_.out (by kernel_rfl)) (fun _ _ _ h => h) (Or.inl ⟨by rfl, ?_⟩) ?_ ?_
 rotate_left
 ·intro w'
  go_simp
  with_reducible rfl
 rotate_left
 ·simp only [Act.put, zsa, zsz, zss, i64_w, i32_w]
  rfl
 refine one_ (i := 47) (N := none) #[true, true, true, true, true, true, true, true, true, true, true, true, true, true, true, true, true, true, true, true, true, true, true, true, true, true, true, true, true, true, true, true, true, true, true, true, true, true, true, true, true, true, true, true, true, true, true, true] rfl rfl (one_of HT_.out (by kernel_rfl)) (by decide) (fun K hK => ?_)
 clear hHeld
 have hz0 := (zkc BT.out 0).trans rfl
 have hz1 := (zkc BT.out 1).trans rfl
 have hf0 := zkz BT.out 0
 have hf1 := zkz BT.out 1
 refine skip_ (w1 := ?_) (by rfl) rfl ?_ ?_
 rotate_left
 ·go_simp
  rfl
 clear hz0 hz1 hf0 hf1
 have n1 := zam (zkf (p := ⟨gt, 1, none⟩) (zkf (p := ⟨gt, 0, none⟩) (zkn BS.out (nd + nd2 + nd3 + nd4)) NE1.out (.int .i64 x)) NE1.out (.int .i64 (if y < l then y else l)))
 have n2 := zam (zkf (p := ⟨gt, 1, none⟩) (zkf (p := ⟨gt, 0, none⟩) (zkn BF.out (nd + nd2 + nd3 + nd4)) NE2.out (.int .i64 x)) NE2.out (.int .i64 (if y < l then y else l)))
 have n3 := zam (zbs (j := 1) (v := .int .i64 (if y < l then y else l)) (zbs (j := 0) (v := .int .i64 x) (zbn HB.out (nd + nd2 + nd3 + nd4)) GE.out) GE.out)
 have n4 := zam (blk_put (cs' := #[.int .i64 x, .int .i64 (if y < l then y else l)]) (blk_put (cs' := #[.int .i64 x, .int .i64 0]) (zkn BT.out (nd + nd2 + nd3 + nd4)) 0 (.int .i64 x) rfl) 1 (.int .i64 (if y < l then y else l)) rfl)
 clear BS BF HB BT
 have BS := n1
 have BF := n2
 have HB := n3
 have BT := n4
 clear n1 n2 n3 n4
 refine hK.out _ _ ⟨((zkc BS.out 0).trans rfl), ((zkc BF.out 4).trans rfl), ((zkc BF.out 5).trans rfl), ((zkc BF.out 6).trans rfl), ((zkc BF.out 7).trans rfl)⟩ (fun hHeld => ?_)
 clear hK K
 refine done_ (done_of HT_.out (by kernel_rfl)) ?_
 clear hHeld
 rw [HZ.out] at BT HB ⊢
 go_wp2
 refine bodyPost_ret (results_cell_row rfl _ _ gt 57 _ (0, 0) _ rfl BT.out hu57 rfl (by kernel_rfl)) rfl ?_
 exact ⟨rfl, HB.out⟩
theorem mooring_gives_rise {d an fr : Int} {els : List S46} {cs : List S57} {A : Option Addr} {c gs : Nat} {free : Bool} {w : World} (h : IsShape w gs A c d an fr els (Moor.on els cs) (Moor.lifts els) (Moor.pulls free (Moor.on els cs))) (hk : Moor.Ok d els an fr cs) (hs : Moor.stands els = true) : Gives w 64 gs els.length (Moor.riseAt els (Moor.pulls free (Moor.on els cs)) (Moor.lifts els)) := by
 refine ⟨⟨_, Try.func64, by kernel_rfl, rfl⟩, fun i hi w1 hb => ?_⟩
 obtain ⟨h1, h2, h3, h4, h5, h6⟩ := hk.at hs free hi
 exact mooring_rise.calls A c gs i _ _ _ w1 (h.below hb) h1 h2 h3 h4 h5 h6
def PullRel (w : World) (gm : Nat) (free : Bool) (on : List S57) (kq : Nat) (v5 v7 v16 : Value) (w' : World) : Prop :=
 ∃ j : Nat, kq + j = on.length ∧ v7 = .int .i64 (Moor.most 0 (on.take j)) ∧ v16 = .int .i64 (j : Int) ∧
  w'.heap[gm]? = some (.cells #[.int .i64 (Moor.slo (on.take j)), .int .i64 (Moor.shi (on.take j))] 57 (0, 0)) ∧
  Kd.R k57 57 w' w.heap.size (fun k => k ≠ gm) v5 (Moor.pulls free (on.take j)) ∧ Below w.heap.size w w'
theorem PullRel.next {w w' : World} {gm : Nat} {free : Bool} {on : List S57} {kq j : Nat} {v5 : Value} {mo s0 s1 : Int} {p : S57} {i : Int}
  (hj : kq + (j + 1) = on.length) (hm : mo = Moor.most 0 (on.take (j + 1))) (hi : ((j + 1 : Nat) : Int) = i) (h0 : s0 = Moor.slo (on.take (j + 1))) (h1 : s1 = Moor.shi (on.take (j + 1)))
  (hb : w'.heap[gm]? = some (.cells #[.int .i64 s0, .int .i64 s1] 57 (0, 0)))
  (hp : Moor.pulls free (on.take (j + 1)) = Moor.pulls free (on.take j) ++ [p])
  (hr : Kd.R k57 57 w' w.heap.size (fun k => k ≠ gm) v5 (Moor.pulls free (on.take j) ++ [p])) (hB : Below w.heap.size w w') : PullRel w gm free on kq v5 (.int .i64 mo) (.int .i64 i) w' := by
 subst hm; subst hi; subst h0; subst h1
 rw [← hp] at hr
 exact ⟨j + 1, hj, rfl, rfl, hb, hr, hB⟩
theorem Moor.pulls_small {on : List S57} {free : Bool} {i : Nat} (h : on.length ≤ 40) : ((Moor.pulls free (on.take i)).length + 1) * 16 ≤ 140737488355328 := by
 rw [Moor.pulls_length, zlt]
 omega
set_option maxHeartbeats 16000000 in
set_option maxRecDepth 100000 in
theorem mooring_pulls.calls {d an fr : Int} {els : List S46} {on : List S57} {li : List Int} (A : Option Addr) (c : Nat) (g : Nat) (free : Bool) (w : World) (h : IsForces w g A c d an fr els on li) (h40 : on.length ≤ 40) (hon : ∀ x ∈ on, Moor.onB x) :
  Calls Try.prog 60 #[.pointer (some ⟨g, 0, none⟩), .bool free] w fun e w' => ∃ v, e = .returned v ∧ Kd.R k57 57 w' w.heap.size (fun _ => True) v (Moor.pulls free on) ∧ Below w.heap.size w w' := by
 have hu57 := Try.underlying57
 have hu98 := Try.underlying98
 obtain ⟨gh, A2, c2, A3, c3, h2, h3, h4, h5, h6, h7, h8⟩ := h
 have BF := zam h2
 have HO := zam h5
 have HON := zam hon
 have hz8 := (zkc h2 8).trans rfl
 clear h2 h3 h4 h5 h6 h7 h8 hon
 go_enter Try.func60, Try.ntmps60
 go_wp2_with ((with_reducible refine zgd (N := 6) rfl ?_); refine box_event ?hg (N := 6) ?hd (cs := #[.int .i64 0, .int .i64 0]) (t := 57) ?hr ?_; (case hd => rfl); (case hg => rfl); (case hr => first | (go_simp; done) | (go_simp; rfl)); intro gm hgm w1 hbm hb0; have GE1 : Aside0 (w.heap.size ≤ gm) := ⟨Nat.le_of_eq hgm.symm⟩; have BM := zam hbm; have HB := zam hb0; have n1 := zam (zkb BF.out hb0); clear BF hgm hbm hb0 hz8; have BF := n1; clear n1; have hz8 := (zkc BF.out 8).trans rfl)
 go_loopg [5, 7, 16] on.length (fun kq v5 v7 v16 w' => PullRel w gm free on kq v5 v7 v16 w')
 case atStart => exact ⟨0, rfl, rfl, rfl, BM.out, Kd.R_nil _ _ _ _ _, HB.out⟩
 case round =>
  clear BM BF HB hz8
  obtain ⟨j, hj, rfl, rfl, BM0, RO0, HB0⟩ := hrel
  have BM := zam BM0
  have RO := zam RO0
  have HB := zam HB0
  have HJ := zam hj
  clear BM0 RO0 HB0 hj
  by_cases hlt : j < on.length
  ·have HLT := zam hlt
   have c3 : decide ((j : Int) < (on.length : Int)) = true := zdt (by omega)
   have c3n : decide (j < on.length) = true := zdt hlt
   have p1 : (0 : Int) ≤ (j : Int) := by omega
   have q1 : (j : Int) < (on.length : Int) := by omega
   obtain ⟨ad1, e1, hx0, hx1⟩ := at_T57 HO.out (j : Int) p1 q1
   cases e1
   replace hx0 := (HB.out.cell (zwb w _ hx0)).trans hx0
   replace hx1 := (HB.out.cell (zwb w _ hx1)).trans hx1
   rw [Moor.rdS hlt] at hx0 hx1
   obtain ⟨x, hx⟩ : ∃ x, on[j]? = some x := ⟨_, List.getElem?_eq_getElem hlt⟩
   have hx2 : on[j] = x := by rw [List.getElem?_eq_getElem hlt] at hx; exact zsi hx
   rw [hx2] at hx0 hx1
   simp only [Int.toNat_natCast] at hx0 hx1
   have hxb := HON.out x (by rw [← hx2]; exact List.getElem_mem hlt)
   have HX := zam hx
   have b1 := Moor.slo_bound (on := on.take j) (fun y hy => HON.out y (List.mem_of_mem_take hy))
   have b2 := Moor.most_bound (on := on.take j) (fun y hy => HON.out y (List.mem_of_mem_take hy)) 0 (by omega) (by omega)
   have b3 : (on.take j).length ≤ 40 := by rw [zlt]; omega
   obtain ⟨b4, b5, b6⟩ := hxb
   have T0 := Moor.slo_take HX.out
   have T1 := Moor.shi_take HX.out
   have T2 := Moor.most_take HX.out
   have T3 := Moor.pulls_take free HX.out
   generalize hsl : Moor.slo (on.take j) = sl at *
   generalize hsh : Moor.shi (on.take j) = sh at *
   generalize hmm : Moor.most 0 (on.take j) = m at *
   obtain ⟨s0, hs0⟩ : ∃ s0, s0 = sl + x.f0 := ⟨_, rfl⟩
   obtain ⟨s1, hs1⟩ : ∃ s1, s1 = sh + x.f1 := ⟨_, rfl⟩
   obtain ⟨t, ht⟩ : ∃ t, t = x.f0 + x.f1 := ⟨_, rfl⟩
   obtain ⟨mo, hmo⟩ : ∃ mo, mo = max m t := ⟨_, rfl⟩
   obtain ⟨u, hu⟩ : ∃ u, u = mo - s1 := ⟨_, rfl⟩
   obtain ⟨z, hz⟩ : ∃ z, z = max 0 u := ⟨_, rfl⟩
   have d0 : IntKind.i64.wrap (sl + x.f0) = s0 := by rw [i64_w, wrap_id (by omega) (by omega), hs0]
   have d1 : IntKind.i64.wrap (sh + x.f1) = s1 := by rw [i64_w, wrap_id (by omega) (by omega), hs1]
   have d2 : IntKind.i64.wrap (x.f0 + x.f1) = t := by rw [i64_w, wrap_id (by omega) (by omega), ht]
   have d3 : (if m < t then t else m) = mo := by
    by_cases c : m < t
    ·rw [if_pos c]; omega
    rw [if_neg c]; omega
   have d4 : IntKind.i64.wrap (mo - s1) = u := by rw [i64_w, wrap_id (by omega) (by omega), hu]
   have d5 : (if 0 < u then u else 0) = z := by
    by_cases c : 0 < u
    ·rw [if_pos c]; omega
    rw [if_neg c]; omega
   have T0 := zam T0
   have T1 := zam T1
   have T2 := zam T2
   have T3 := zam T3
   have HS0 := zam hs0
   have HS1 := zam hs1
   have HT := zam ht
   have HMO := zam hmo
   have HU := zam hu
   have HZ := zam hz
   clear hlt hx hx2 b1 b2 b3 b4 b5 b6 hsl hsh hmm hs0 hs1 ht hmo hu hz
   cases free with
   | true =>
    go_wp2_with (first | ((with_reducible refine zgd (N := 9) rfl ?_); refine box_event ?hg (N := 9) ?hd (cs := #[.int .i64 0, .int .i64 0]) (t := 57) ?hr ?_; (case hd => rfl); (case hg => rfl); (case hr => first | (go_simp; done) | (go_simp; rfl)); intro gx hgx w2 hbx hb2; have n1 := zam (zkb BM.out hb2); have n2 := zam (zbt HB.out hb2); have n3 := zam (Kd.R_below (Kd.R_mono (ok' := fun k => k ≠ gm ∧ k ≠ gx) (Kd.R_bound RO.out) (fun k hk => ⟨hk.1, by have := hk.2.2.1; omega⟩)) hb2); have BX := zam hbx; have GE2 : Aside0 (w.heap.size ≤ gx) := ⟨by rw [hgx]; exact zbz HB.out⟩; have NE1 : Aside0 (gm ≠ gx) := ⟨by rw [hgx]; exact Nat.ne_of_lt (blk_lt BM.out)⟩; have NE2 : Aside0 (gx ≠ gm) := ⟨Ne.symm NE1.out⟩; clear BM HB RO hgx hbx hb2 hx0 hx1; have BM := n1; have HB := n2; have RO := n3; clear n1 n2 n3; have hn1 := NE1.out; have hn2 := NE2.out; have hz0 := (zkc BM.out 0).trans rfl; have hz1 := (zkc BM.out 1).trans rfl; have hz2 := (zkc BX.out 0).trans rfl; have hz3 := (zkc BX.out 1).trans rfl; have hf0 := zkz BM.out 0; have hf1 := zkz BM.out 1; have hf2 := zkz BX.out 0; have hf3 := zkz BX.out 1) | ((with_reducible refine zgd (N := 10) rfl ?_); refine box_event ?hg (N := 10) ?hd (cs := #[.int .i64 0, .int .i64 0]) (t := 57) ?hr ?_; (case hd => rfl); (case hg => rfl); (case hr => first | (go_simp; done) | (go_simp; rfl)); intro gp hgp w3 hbp hb3; have m1 := (blk_put (cs' := #[.int .i64 s0, .int .i64 s1]) (blk_put (cs' := #[.int .i64 s0, .int .i64 sh]) (zkf (p := ⟨gx, 1, none⟩) (zkf (p := ⟨gx, 0, none⟩) BM.out NE1.out (.int .i64 x.f0)) NE1.out (.int .i64 x.f1)) 0 (.int .i64 s0) rfl) 1 (.int .i64 s1) rfl); have m2 := (zbs (j := 1) (v := .int .i64 s1) (zbs (j := 0) (v := .int .i64 s0) (zbs (j := 1) (v := .int .i64 x.f1) (zbs (j := 0) (v := .int .i64 x.f0) HB.out GE2.out) GE2.out) GE1.out) GE1.out); have m3 := (Kd.R_far (p := ⟨gm, 1, none⟩) (Kd.R_far (p := ⟨gm, 0, none⟩) (Kd.R_far (p := ⟨gx, 1, none⟩) (Kd.R_far (p := ⟨gx, 0, none⟩) RO.out (fun _ hk => hk.2) (.int .i64 x.f0)) (fun _ hk => hk.2) (.int .i64 x.f1)) (fun _ hk => hk.1) (.int .i64 s0)) (fun _ hk => hk.1) (.int .i64 s1)); have n1 := zam (zkb m1 hb3); have n2 := zam (zbt m2 hb3); have n3 := zam (Kd.R_below (Kd.R_mono (ok' := fun k => k ≠ gm ∧ k ≠ gp) (Kd.R_bound m3) (fun k hk => ⟨hk.1.1, by have := hk.2.2.1; omega⟩)) hb3); have BP := zam hbp; have GE3 : Aside0 (w.heap.size ≤ gp) := ⟨by rw [hgp]; exact zbz m2⟩; have NE3 : Aside0 (gm ≠ gp) := ⟨by rw [hgp]; exact Nat.ne_of_lt (blk_lt m1)⟩; have NE4 : Aside0 (gp ≠ gm) := ⟨Ne.symm NE3.out⟩; clear m1 m2 m3 BM HB RO BX hgp hbp hb3 hz0 hz1 hz2 hz3 hf0 hf1 hf2 hf3 hn1 hn2; have BM := n1; have HB := n2; have RO := n3; clear n1 n2 n3; have hn3 := NE3.out; have hn4 := NE4.out; have hz0 := (zkc BM.out 0).trans rfl; have hz1 := (zkc BM.out 1).trans rfl; have hz2 := (zkc BP.out 0).trans rfl; have hz3 := (zkc BP.out 1).trans rfl; have hf2 := zkz BP.out 0; have hf3 := zkz BP.out 1) | ((with_reducible refine gate_builtin (b := .append) (xs := #[.tmp 47, .tmp 49]) rfl ?_); at_builtin; have n1 := zam (zkf (p := ⟨gp, 0, none⟩) (zkf (p := ⟨gp, 1, none⟩) (zkf (p := ⟨gp, 0, none⟩) BM.out NE3.out (.int .i64 s0)) NE3.out (.int .i64 s1)) NE3.out (.int .i64 z)); have n2 := zam (zbs (j := 0) (v := .int .i64 z) (zbs (j := 1) (v := .int .i64 s1) (zbs (j := 0) (v := .int .i64 s0) HB.out GE3.out) GE3.out) GE3.out); have n3 := zam (Kd.R_mono (ok' := fun k => k ≠ gm) (Kd.R_far (p := ⟨gp, 0, none⟩) (Kd.R_far (p := ⟨gp, 1, none⟩) (Kd.R_far (p := ⟨gp, 0, none⟩) RO.out (fun _ hk => hk.2) (.int .i64 s0)) (fun _ hk => hk.2) (.int .i64 s1)) (fun _ hk => hk.2) (.int .i64 z)) (fun k hk => hk.1)); clear BM HB RO BP hz0 hz1 hz2 hz3 hf2 hf3 hn3 hn4; have BM := n1; have HB := n2; have RO := n3; clear n1 n2 n3; refine Kd.R_append k57 (w0 := w) w.heap.size rfl (.tmp 47) (.tmp 49) 48 57 (.agg #[(.int .i64 0), (.int .i64 0)]) 16 rfl Try.underlying48 info57 rfl (by decide) (by omega) u5 (Moor.pulls true (on.take j)) ⟨z, s1⟩ [.int .i64 z, .int .i64 s1] (fun k => k ≠ gm) (fun _ => False) rfl (by first | rfl | (go_simp; done) | (go_simp; rfl)) ?aP (fun _ hk => hk.elim) ?aF ?aO ?aB ?aS ?aL ?_; (case aP => exact k57_mkM _ _ _ ⟨z, s1⟩); (case aF => exact fun k hk => Ne.symm (Nat.ne_of_lt (Nat.lt_of_lt_of_le (blk_lt BM.out) hk))); (case aO => exact RO.out); (case aB => exact HB.out); (case aS => exact zbz HB.out); (case aL => exact Moor.pulls_small h40); intro v2 w10 ho hb hg hat; have n1 := zam (blk_grown BM.out hg (fun e => RO.out.1 gm e.symm rfl)); have n2 := zam hb; have n3 := zam ho; clear BM HB RO ho hb hg hat; have BM := n1; have HB := n2; have RO := n3; clear n1 n2 n3))
    obtain ⟨k1, rfl⟩ : ∃ k1, gk = k1 + 1 := ⟨gk - 1, by have := HJ.out; have := HLT.out; omega⟩
    go_roundg k1
    case measure => omega
    case rel => exact PullRel.next (by have := HJ.out; omega) (HMO.out.trans (by rw [T2.out, HT.out])) rfl (HS0.out.trans T0.out.symm) (HS1.out.trans T1.out.symm) BM.out (by rw [T3.out]; simp only [if_true, Bool.false_eq_true, if_false]; rw [HZ.out, HU.out, HMO.out, HT.out, HS1.out]) RO.out HB.out
   | false =>
    go_wp2_with (first | ((with_reducible refine zgd (N := 9) rfl ?_); refine box_event ?hg (N := 9) ?hd (cs := #[.int .i64 0, .int .i64 0]) (t := 57) ?hr ?_; (case hd => rfl); (case hg => rfl); (case hr => first | (go_simp; done) | (go_simp; rfl)); intro gx hgx w2 hbx hb2; have n1 := zam (zkb BM.out hb2); have n2 := zam (zbt HB.out hb2); have n3 := zam (Kd.R_below (Kd.R_mono (ok' := fun k => k ≠ gm ∧ k ≠ gx) (Kd.R_bound RO.out) (fun k hk => ⟨hk.1, by have := hk.2.2.1; omega⟩)) hb2); have BX := zam hbx; have GE2 : Aside0 (w.heap.size ≤ gx) := ⟨by rw [hgx]; exact zbz HB.out⟩; have NE1 : Aside0 (gm ≠ gx) := ⟨by rw [hgx]; exact Nat.ne_of_lt (blk_lt BM.out)⟩; have NE2 : Aside0 (gx ≠ gm) := ⟨Ne.symm NE1.out⟩; clear BM HB RO hgx hbx hb2 hx0 hx1; have BM := n1; have HB := n2; have RO := n3; clear n1 n2 n3; have hn1 := NE1.out; have hn2 := NE2.out; have hz0 := (zkc BM.out 0).trans rfl; have hz1 := (zkc BM.out 1).trans rfl; have hz2 := (zkc BX.out 0).trans rfl; have hz3 := (zkc BX.out 1).trans rfl; have hf0 := zkz BM.out 0; have hf1 := zkz BM.out 1; have hf2 := zkz BX.out 0; have hf3 := zkz BX.out 1) | ((with_reducible refine zgd (N := 10) rfl ?_); refine box_event ?hg (N := 10) ?hd (cs := #[.int .i64 0, .int .i64 0]) (t := 57) ?hr ?_; (case hd => rfl); (case hg => rfl); (case hr => first | (go_simp; done) | (go_simp; rfl)); intro gp hgp w3 hbp hb3; have m1 := (blk_put (cs' := #[.int .i64 s0, .int .i64 s1]) (blk_put (cs' := #[.int .i64 s0, .int .i64 sh]) (zkf (p := ⟨gx, 1, none⟩) (zkf (p := ⟨gx, 0, none⟩) BM.out NE1.out (.int .i64 x.f0)) NE1.out (.int .i64 x.f1)) 0 (.int .i64 s0) rfl) 1 (.int .i64 s1) rfl); have m2 := (zbs (j := 1) (v := .int .i64 s1) (zbs (j := 0) (v := .int .i64 s0) (zbs (j := 1) (v := .int .i64 x.f1) (zbs (j := 0) (v := .int .i64 x.f0) HB.out GE2.out) GE2.out) GE1.out) GE1.out); have m3 := (Kd.R_far (p := ⟨gm, 1, none⟩) (Kd.R_far (p := ⟨gm, 0, none⟩) (Kd.R_far (p := ⟨gx, 1, none⟩) (Kd.R_far (p := ⟨gx, 0, none⟩) RO.out (fun _ hk => hk.2) (.int .i64 x.f0)) (fun _ hk => hk.2) (.int .i64 x.f1)) (fun _ hk => hk.1) (.int .i64 s0)) (fun _ hk => hk.1) (.int .i64 s1)); have n1 := zam (zkb m1 hb3); have n2 := zam (zbt m2 hb3); have n3 := zam (Kd.R_below (Kd.R_mono (ok' := fun k => k ≠ gm ∧ k ≠ gp) (Kd.R_bound m3) (fun k hk => ⟨hk.1.1, by have := hk.2.2.1; omega⟩)) hb3); have BP := zam hbp; have GE3 : Aside0 (w.heap.size ≤ gp) := ⟨by rw [hgp]; exact zbz m2⟩; have NE3 : Aside0 (gm ≠ gp) := ⟨by rw [hgp]; exact Nat.ne_of_lt (blk_lt m1)⟩; have NE4 : Aside0 (gp ≠ gm) := ⟨Ne.symm NE3.out⟩; clear m1 m2 m3 BM HB RO BX hgp hbp hb3 hz0 hz1 hz2 hz3 hf0 hf1 hf2 hf3 hn1 hn2; have BM := n1; have HB := n2; have RO := n3; clear n1 n2 n3; have hn3 := NE3.out; have hn4 := NE4.out; have hz0 := (zkc BM.out 0).trans rfl; have hz1 := (zkc BM.out 1).trans rfl; have hz2 := (zkc BP.out 0).trans rfl; have hz3 := (zkc BP.out 1).trans rfl; have hf2 := zkz BP.out 0; have hf3 := zkz BP.out 1) | ((with_reducible refine gate_builtin (b := .append) (xs := #[.tmp 47, .tmp 49]) rfl ?_); at_builtin; have n1 := zam (zkf (p := ⟨gp, 1, none⟩) (zkf (p := ⟨gp, 0, none⟩) BM.out NE3.out (.int .i64 s0)) NE3.out (.int .i64 s1)); have n2 := zam (zbs (j := 1) (v := .int .i64 s1) (zbs (j := 0) (v := .int .i64 s0) HB.out GE3.out) GE3.out); have n3 := zam (Kd.R_mono (ok' := fun k => k ≠ gm) (Kd.R_far (p := ⟨gp, 1, none⟩) (Kd.R_far (p := ⟨gp, 0, none⟩) RO.out (fun _ hk => hk.2) (.int .i64 s0)) (fun _ hk => hk.2) (.int .i64 s1)) (fun k hk => hk.1)); clear BM HB RO BP hz0 hz1 hz2 hz3 hf2 hf3 hn3 hn4; have BM := n1; have HB := n2; have RO := n3; clear n1 n2 n3; refine Kd.R_append k57 (w0 := w) w.heap.size rfl (.tmp 47) (.tmp 49) 48 57 (.agg #[(.int .i64 0), (.int .i64 0)]) 16 rfl Try.underlying48 info57 rfl (by decide) (by omega) u5 (Moor.pulls false (on.take j)) ⟨s0, s1⟩ [.int .i64 s0, .int .i64 s1] (fun k => k ≠ gm) (fun _ => False) rfl (by first | rfl | (go_simp; done) | (go_simp; rfl)) ?aP (fun _ hk => hk.elim) ?aF ?aO ?aB ?aS ?aL ?_; (case aP => exact k57_mkM _ _ _ ⟨s0, s1⟩); (case aF => exact fun k hk => Ne.symm (Nat.ne_of_lt (Nat.lt_of_lt_of_le (blk_lt BM.out) hk))); (case aO => exact RO.out); (case aB => exact HB.out); (case aS => exact zbz HB.out); (case aL => exact Moor.pulls_small h40); intro v2 w10 ho hb hg hat; have n1 := zam (blk_grown BM.out hg (fun e => RO.out.1 gm e.symm rfl)); have n2 := zam hb; have n3 := zam ho; clear BM HB RO ho hb hg hat; have BM := n1; have HB := n2; have RO := n3; clear n1 n2 n3))
    obtain ⟨k1, rfl⟩ : ∃ k1, gk = k1 + 1 := ⟨gk - 1, by have := HJ.out; have := HLT.out; omega⟩
    go_roundg k1
    case measure => omega
    case rel => exact PullRel.next (by have := HJ.out; omega) (HMO.out.trans (by rw [T2.out, HT.out])) rfl (HS0.out.trans T0.out.symm) (HS1.out.trans T1.out.symm) BM.out (by rw [T3.out]; simp only [if_true, Bool.false_eq_true, if_false]; rw [HS0.out, HS1.out]) RO.out HB.out
  have hje : j = on.length := by have := HJ.out; omega
  have c3 : decide ((j : Int) < (on.length : Int)) = false := zdf (by omega)
  have c3n : decide (j < on.length) = false := zdf hlt
  have HJE := zam hje
  clear hlt hje
  obtain ⟨A5, n5, c5, rfl⟩ : ∃ A n c, u5 = .slice A n c := by
   obtain ⟨A, c, h⟩ := Kd.R_slice RO.out
   exact ⟨A, _, c, h⟩
  go_wp2
  go_ret
  refine ⟨_, rfl, ?_, HB.out⟩
  have h := Kd.R_mono (ok' := fun _ => True) RO.out (fun _ _ => trivial)
  rw [HJE.out, List.take_length] at h
  exact h
def NewShape (w : World) (A : Option Addr) (c : Nat) (d an fr : Int) (els : List S46) (cs : List S57) (free : Bool) (r : Int) (e : Ending) (w' : World) : Prop :=
 (r ≠ 0 ∧ e = .returned (.tuple #[.pointer none, .int .i64 r]) ∧ Below w.heap.size w w') ∨
 (r = 0 ∧ ∃ gs, e = .returned (.tuple #[.pointer (some ⟨gs, 0, none⟩), .int .i64 0]) ∧ IsShape w' gs A c d an fr els (Moor.on els cs) (Moor.lifts els) (Moor.pulls free (Moor.on els cs)) ∧ Below w.heap.size w w')
theorem NewForces.of_ne {w w' : World} {A : Option Addr} {c : Nat} {d an fr : Int} {els : List S46} {cs : List S57} {r : Int} {e : Ending} (h : NewForces w A c d an fr els cs r e w') (hr : r ≠ 0) : e = .returned (.tuple #[.pointer none, .int .i64 r]) ∧ Below w.heap.size w w' := by
 rcases h with ⟨_, h1, h2⟩ | ⟨h0, _⟩
 ·exact ⟨h1, h2⟩
 exact absurd h0 hr
theorem NewForces.of_zero {w w' : World} {A : Option Addr} {c : Nat} {d an fr : Int} {els : List S46} {cs : List S57} {e : Ending} (h : NewForces w A c d an fr els cs 0 e w') : ∃ g, e = .returned (.tuple #[.pointer (some ⟨g, 0, none⟩), .int .i64 0]) ∧ IsForces w' g A c d an fr els (Moor.on els cs) (Moor.lifts els) ∧ OwnForces w w' g (Moor.on els cs) (Moor.lifts els) ∧ Below w.heap.size w w' := by
 rcases h with ⟨h0, _⟩ | ⟨_, h1⟩
 ·exact absurd rfl h0
 exact h1
theorem NewShape.of_ne {w w' : World} {A : Option Addr} {c : Nat} {d an fr : Int} {els : List S46} {cs : List S57} {free : Bool} {r : Int} {e : Ending} (h : NewShape w A c d an fr els cs free r e w') (hr : r ≠ 0) : e = .returned (.tuple #[.pointer none, .int .i64 r]) ∧ Below w.heap.size w w' := by
 rcases h with ⟨_, h1, h2⟩ | ⟨h0, _⟩
 ·exact ⟨h1, h2⟩
 exact absurd h0 hr
theorem NewShape.of_zero {w w' : World} {A : Option Addr} {c : Nat} {d an fr : Int} {els : List S46} {cs : List S57} {free : Bool} {e : Ending} (h : NewShape w A c d an fr els cs free 0 e w') : ∃ gs, e = .returned (.tuple #[.pointer (some ⟨gs, 0, none⟩), .int .i64 0]) ∧ IsShape w' gs A c d an fr els (Moor.on els cs) (Moor.lifts els) (Moor.pulls free (Moor.on els cs)) ∧ Below w.heap.size w w' := by
 rcases h with ⟨h0, _⟩ | ⟨_, h1⟩
 ·exact absurd rfl h0
 exact h1
theorem NewShape.bad {w w' : World} {A : Option Addr} {c : Nat} {d an fr : Int} {els : List S46} {cs : List S57} {free : Bool} {r : Int} (h0 : r ≠ 0) (hb : Below w.heap.size w w') : NewShape w A c d an fr els cs free r (.returned (.tuple #[.pointer none, .int .i64 r])) w' := .inl ⟨h0, rfl, hb⟩
theorem NewShape.good {w w' : World} {A : Option Addr} {c : Nat} {d an fr : Int} {els : List S46} {cs : List S57} {free : Bool} {gs : Nat} (hs : IsShape w' gs A c d an fr els (Moor.on els cs) (Moor.lifts els) (Moor.pulls free (Moor.on els cs))) (hb : Below w.heap.size w w') : NewShape w A c d an fr els cs free 0 (.returned (.tuple #[.pointer (some ⟨gs, 0, none⟩), .int .i64 0])) w' := .inr ⟨rfl, gs, rfl, hs, hb⟩
set_option maxHeartbeats 8000000 in
set_option maxRecDepth 100000 in
theorem mooring_newShape.calls {d an fr : Int} {els : List S46} (A : Option Addr) (c : Nat) (A1 : Option Addr) (c1 : Nat) (cs : List S57) (free : Bool) (r : Int) (w : World) (hr0 : Kd.C k46 w A els.length els) (hc0 : els.length ≤ c) (hr1 : Kd.C k57 w A1 cs.length cs) (hc1 : cs.length ≤ c1) (hr : Moor.err d els an fr cs true = r) :
  Calls Try.prog 61 #[.agg #[.int .i64 d, .slice A els.length c, .int .i64 an, .int .i64 fr], .slice A1 cs.length c1, .bool free] w (NewShape w A c d an fr els cs free r) := by
 have hu37 := Try.underlying37
 have hu129 := Try.underlying129
 have NF := zam (fun (w1 : World) (hb1 : Below w.heap.size w w1) => mooring_newForces.calls A c A1 c1 cs true r w1 (Kd.C_below hr0 hb1) hc0 (Kd.C_below hr1 hb1) hc1 hr)
 have HR := zam hr
 clear hr0 hc0 hr1 hc1 hr
 by_cases c0 : r = 0
 ·subst c0
  have OKM := zam (Moor.err_ok HR.out).1
  go_enter Try.func61, Try.ntmps61
  go_wp2_with (first | ((with_reducible refine zgd (N := 3) rfl ?_); refine box_event ?hg (N := 3) ?hd (cs := #[.int .i64 d, .slice A els.length c, .int .i64 an, .int .i64 fr]) (t := 37) ?hr ?_; (case hd => rfl); (case hg => rfl); (case hr => first | (go_simp; done) | (go_simp; rfl)); intro gm hgm w1 hbk hb0; have BM := zam hbk; have HB := zam hb0; have hz0 := (zkc hbk 0).trans rfl; have hz1 := (zkc hbk 1).trans rfl; have hz2 := (zkc hbk 2).trans rfl; have hz3 := (zkc hbk 3).trans rfl; clear hgm hbk hb0) | (go_at_call 58; (with_reducible refine (NF.out _ HB.out).mono ?_); (intro e w2 hnf); (obtain ⟨g, he, hf, -, hb1⟩ := NewForces.of_zero hnf); subst he; clear hnf; have n1 := zam (zbt HB.out hb1); have FO := zam hf; clear HB BM hz0 hz1 hz2 hz3 hf hb1; have HB := n1; clear n1) | (go_at_call 60; (with_reducible refine (mooring_pulls.calls A c g free _ FO.out ?p1 ?p2).mono ?_); (case p1 => exact (by rw [Moor.on_length OKM.out.len]; exact OKM.out.n40)); (case p2 => exact Moor.on_onB OKM.out.elok OKM.out.cur); rintro e w3 ⟨v, rfl, hp, hb1⟩; have n1 := zam (zbt HB.out hb1); have n2 := zam (FO.out.below hb1); obtain ⟨A5, c5, rfl, hl5, hC5⟩ := Kd.R_reads hp; have HP := zam hC5; have HL := zam hl5; clear HB FO hp hb1 hl5 hC5; have HB := n1; have FO := n2; clear n1 n2) | ((with_reducible refine zgd (N := 24) rfl ?_); refine box_event ?hg (N := 24) ?hd (cs := #[.pointer (some ⟨g, 0, none⟩), .slice A5 (Moor.pulls free (Moor.on els cs)).length c5]) (t := 129) ?hr ?_; (case hd => rfl); (case hg => rfl); (case hr => first | (go_simp; done) | (go_simp; rfl)); intro gs hgs w4 hbk hb0; have BS := zam hbk; have n1 := zam (zbt HB.out hb0); have n2 := zam (FO.out.below hb0); have n3 := zam (Kd.C_below HP.out hb0); clear HB FO HP hgs hbk hb0; have HB := n1; have FO := n2; have HP := n3; clear n1 n2 n3))
  go_ret2
  exact NewShape.good ⟨g, A5, c5, BS.out, FO.out, HP.out, HL.out⟩ HB.out
 have d1 : (r != 0) = true := bne_iff_ne.mpr c0
 have C0 := zam c0
 clear c0
 go_enter Try.func61, Try.ntmps61
 go_wp2_with (first | ((with_reducible refine zgd (N := 3) rfl ?_); refine box_event ?hg (N := 3) ?hd (cs := #[.int .i64 d, .slice A els.length c, .int .i64 an, .int .i64 fr]) (t := 37) ?hr ?_; (case hd => rfl); (case hg => rfl); (case hr => first | (go_simp; done) | (go_simp; rfl)); intro gm hgm w1 hbk hb0; have BM := zam hbk; have HB := zam hb0; have hz0 := (zkc hbk 0).trans rfl; have hz1 := (zkc hbk 1).trans rfl; have hz2 := (zkc hbk 2).trans rfl; have hz3 := (zkc hbk 3).trans rfl; clear hgm hbk hb0) | (go_at_call 58; (with_reducible refine (NF.out _ HB.out).mono ?_); (intro e w2 hnf); (obtain ⟨he, hb1⟩ := NewForces.of_ne hnf C0.out); subst he; clear hnf; have n1 := zam (zbt HB.out hb1); clear HB BM hz0 hz1 hz2 hz3 hb1; have HB := n1; clear n1))
 go_ret2
 exact NewShape.bad C0.out HB.out
set_option maxHeartbeats 8000000 in
set_option maxRecDepth 100000 in
theorem mooring_total.calls {d an fr : Int} {els : List S46} {on : List S57} {li : List Int} {ps : List S57} (A : Option Addr) (c : Nat) (gs : Nat) (F : FuncId) (val : Nat → S57) (w : World) (h : IsShape w gs A c d an fr els on li ps) (h40 : els.length ≤ 40) (hg : Gives w F gs els.length val) (hval : ∀ x ∈ Moor.list val els.length, Moor.midB x) :
  Calls Try.prog 65 #[.pointer (some ⟨gs, 0, none⟩), .func (.func F) #[.pointer (some ⟨gs, 0, none⟩)] #[]] w fun e w' => e = .returned (.agg #[.int .i64 (Moor.slo (Moor.list val els.length)), .int .i64 (Moor.shi (Moor.list val els.length))]) ∧ Below w.heap.size w w' := by
 have hu57 := Try.underlying57
 have EC := zam (fun (w1 : World) (hb1 : Below w.heap.size w w1) => mooring_each.calls A c gs F val w1 (h.below hb1) h40 (hg.below hb1))
 clear h hg
 have hxl := Moor.list_length val els.length
 generalize Moor.list val els.length = xs at *
 have HVAL := zam hval
 have h40x : xs.length ≤ 40 := by omega
 clear hval hxl
 go_enter Try.func65, Try.ntmps65
 go_wp2_with (first | ((with_reducible refine zgd (N := 4) rfl ?_); refine box_event ?hg (N := 4) ?hd (cs := #[.int .i64 0, .int .i64 0]) (t := 57) ?hr ?_; (case hd => rfl); (case hg => rfl); (case hr => first | (go_simp; done) | (go_simp; rfl)); intro gt hgt w1 hbt hb0; have GE0 : Aside0 (w.heap.size ≤ gt) := ⟨Nat.le_of_eq hgt.symm⟩; have BT := zam hbt; have HB := zam hb0; clear hgt hbt hb0) | ((with_reducible refine zgd (N := 5) rfl ?_); refine box_event ?hg (N := 5) ?hd (cs := #[.int .i64 0, .int .i64 0]) (t := 57) ?hr ?_; (case hd => rfl); (case hg => rfl); (case hr => first | (go_simp; done) | (go_simp; rfl)); intro gm hgm w2 hbm hb0; have GE1 : Aside0 (w.heap.size ≤ gm) := ⟨by rw [hgm]; exact zbz HB.out⟩; have NEM : Aside0 (gt ≠ gm) := ⟨by rw [hgm]; exact Nat.ne_of_lt (blk_lt BT.out)⟩; have BM := zam hbm; have n1 := zam (zbt HB.out hb0); have n2 := zam (zkb BT.out hb0); clear HB BT hgm hbm hb0; have HB := n1; have BT := n2; clear n1 n2) | (go_at_call 62; (with_reducible refine (EC.out _ HB.out).mono ?_); rintro e w3 ⟨v, rfl, hp, hb1⟩; have n1 := zam (zbt HB.out hb1); have n2 := zam (zkb BM.out hb1); have n3 := zam (zkb BT.out hb1); have hp2 := (Kd.R_mono (ok' := fun k => k ≠ gm) (Kd.R_bound hp) (fun k hk => Ne.symm (Nat.ne_of_lt (Nat.lt_of_lt_of_le (blk_lt BM.out) hk.2.1)))); have hp3 := (Kd.R_lower hp2 (zbz HB.out)); obtain ⟨A5, c5, rfl⟩ := Kd.R_slice hp3; have HP := zam hp3; clear HB BM BT hp hb1 hp2 hp3; have HB := n1; have BM := n2; have BT := n3; clear n1 n2 n3))
 go_loopg [12] xs.length (fun kq v12 w' => TotRel w gm gt xs (.slice A5 xs.length c5) kq v12 w')
 case atStart => exact ⟨0, rfl, rfl, BM.out, BT.out, HP.out, HB.out⟩
 case round =>
  clear BM BT HP HB
  obtain ⟨j, hj, rfl, BM0, BT0, HP0, HB0⟩ := hrel
  have BM := zam BM0
  have BT := zam BT0
  have HP := zam HP0
  have HB := zam HB0
  have HJ := zam hj
  clear BM0 BT0 HP0 HB0 hj
  by_cases hlt : j < xs.length
  ·have HLT := zam hlt
   have c3 : decide ((j : Int) < (xs.length : Int)) = true := zdt (by omega)
   have c3n : decide (j < xs.length) = true := zdt hlt
   have p1 : (0 : Int) ≤ (j : Int) := by omega
   have q1 : (j : Int) < (xs.length : Int) := by omega
   obtain ⟨ad1, e1, hx0, hx1⟩ := at_T57 (R_C HP.out) (j : Int) p1 q1
   cases e1
   rw [Moor.rdS hlt] at hx0 hx1
   obtain ⟨x, hx⟩ : ∃ x, xs[j]? = some x := ⟨_, List.getElem?_eq_getElem hlt⟩
   have hx2 : xs[j] = x := by rw [List.getElem?_eq_getElem hlt] at hx; exact zsi hx
   rw [hx2] at hx0 hx1
   simp only [Int.toNat_natCast] at hx0 hx1
   have hxb := HVAL.out x (by rw [← hx2]; exact List.getElem_mem hlt)
   have b1 := Moor.mid_bound (on := xs.take j) (fun y hy => HVAL.out y (List.mem_of_mem_take hy))
   have b3 : (xs.take j).length ≤ 40 := by rw [zlt]; omega
   obtain ⟨b4, b5, b6, b7⟩ := hxb
   have T0 := Moor.slo_take hx
   have T1 := Moor.shi_take hx
   generalize hsl : Moor.slo (xs.take j) = sl at *
   generalize hsh : Moor.shi (xs.take j) = sh at *
   obtain ⟨s0, hs0⟩ : ∃ s0, s0 = sl + x.f0 := ⟨_, rfl⟩
   obtain ⟨s1, hs1⟩ : ∃ s1, s1 = sh + x.f1 := ⟨_, rfl⟩
   have d0 : IntKind.i64.wrap (sl + x.f0) = s0 := by rw [i64_w, wrap_id (by omega) (by omega), hs0]
   have d1 : IntKind.i64.wrap (sh + x.f1) = s1 := by rw [i64_w, wrap_id (by omega) (by omega), hs1]
   have T0 := zam T0
   have T1 := zam T1
   have HS0 := zam hs0
   have HS1 := zam hs1
   clear hlt hx hx2 b1 b3 b4 b5 b6 b7 hsl hsh hs0 hs1
   go_wp2_with ((with_reducible refine zgd (N := 7) rfl ?_); refine box_event ?hg (N := 7) ?hd (cs := #[.int .i64 0, .int .i64 0]) (t := 57) ?hr ?_; (case hd => rfl); (case hg => rfl); (case hr => first | (go_simp; done) | (go_simp; rfl)); intro gx hgx w2 hbx hb2; have n1 := zam (zkb BM.out hb2); have n2 := zam (zkb BT.out hb2); have n3 := zam (zbt HB.out hb2); have n4 := zam (Kd.R_below (Kd.R_mono (ok' := fun k => k ≠ gm ∧ k ≠ gx) (Kd.R_bound HP.out) (fun k hk => ⟨hk.1, by have := hk.2.2.1; omega⟩)) hb2); have BX := zam hbx; have GE2 : Aside0 (w.heap.size ≤ gx) := ⟨by rw [hgx]; exact zbz HB.out⟩; have NE1 : Aside0 (gm ≠ gx) := ⟨by rw [hgx]; exact Nat.ne_of_lt (blk_lt BM.out)⟩; have NE2 : Aside0 (gx ≠ gm) := ⟨Ne.symm NE1.out⟩; have NE3 : Aside0 (gt ≠ gx) := ⟨by rw [hgx]; exact Nat.ne_of_lt (blk_lt BT.out)⟩; clear BM BT HB HP hgx hbx hb2 hx0 hx1; have BM := n1; have BT := n2; have HB := n3; have HP := n4; clear n1 n2 n3 n4; have hn1 := NE1.out; have hn2 := NE2.out; have hz0 := (zkc BM.out 0).trans rfl; have hz1 := (zkc BM.out 1).trans rfl; have hz2 := (zkc BX.out 0).trans rfl; have hz3 := (zkc BX.out 1).trans rfl; have hf0 := zkz BM.out 0; have hf1 := zkz BM.out 1; have hf2 := zkz BX.out 0; have hf3 := zkz BX.out 1)
   obtain ⟨k1, rfl⟩ : ∃ k1, gk = k1 + 1 := ⟨gk - 1, by have := HJ.out; have := HLT.out; omega⟩
   go_roundg k1
   case measure => omega
   case rel => exact TotRel.next (by have := HJ.out; omega) rfl (HS0.out.trans T0.out.symm) (HS1.out.trans T1.out.symm) (blk_put (cs' := #[.int .i64 s0, .int .i64 s1]) (blk_put (cs' := #[.int .i64 s0, .int .i64 sh]) (zkf (p := ⟨gx, 1, none⟩) (zkf (p := ⟨gx, 0, none⟩) BM.out NE1.out (.int .i64 x.f0)) NE1.out (.int .i64 x.f1)) 0 (.int .i64 s0) rfl) 1 (.int .i64 s1) rfl) (zkf (p := ⟨gm, 1, none⟩) (zkf (p := ⟨gm, 0, none⟩) (zkf (p := ⟨gx, 1, none⟩) (zkf (p := ⟨gx, 0, none⟩) BT.out NE3.out (.int .i64 x.f0)) NE3.out (.int .i64 x.f1)) NEM.out (.int .i64 s0)) NEM.out (.int .i64 s1)) (Kd.R_mono (ok' := fun k => k ≠ gm) (Kd.R_far (p := ⟨gm, 1, none⟩) (Kd.R_far (p := ⟨gm, 0, none⟩) (Kd.R_far (p := ⟨gx, 1, none⟩) (Kd.R_far (p := ⟨gx, 0, none⟩) HP.out (fun _ hk => hk.2) (.int .i64 x.f0)) (fun _ hk => hk.2) (.int .i64 x.f1)) (fun _ hk => hk.1) (.int .i64 s0)) (fun _ hk => hk.1) (.int .i64 s1)) (fun k hk => hk.1)) (zbs (j := 1) (v := .int .i64 s1) (zbs (j := 0) (v := .int .i64 s0) (zbs (j := 1) (v := .int .i64 x.f1) (zbs (j := 0) (v := .int .i64 x.f0) HB.out GE2.out) GE2.out) GE1.out) GE1.out)
  have hje : j = xs.length := by have := HJ.out; omega
  have c3 : decide ((j : Int) < (xs.length : Int)) = false := zdf (by omega)
  have c3n : decide (j < xs.length) = false := zdf hlt
  have HJE := zam hje
  clear hlt hje
  have bm := BM.out
  rw [HJE.out, List.take_length] at bm
  have BMM := zam bm
  have hz0 := (zkc bm 0).trans rfl
  have hz1 := (zkc bm 1).trans rfl
  have hz2 := (zkc BT.out 0).trans rfl
  have hz3 := (zkc BT.out 1).trans rfl
  have hf2 := zkz BT.out 0
  have hf3 := zkz BT.out 1
  clear BM bm HP
  go_wp2
  refine bodyPost_ret (results_cell_row rfl _ _ gt 57 _ (0, 0) _ rfl (blk_put (cs' := #[.int .i64 (Moor.slo xs), .int .i64 (Moor.shi xs)]) (blk_put (cs' := #[.int .i64 (Moor.slo xs), .int .i64 0]) BT.out 0 (.int .i64 (Moor.slo xs)) rfl) 1 (.int .i64 (Moor.shi xs)) rfl) hu57 rfl (by kernel_rfl)) rfl ?_
  exact ⟨rfl, zbs (zbs HB.out GE0.out) GE0.out⟩
def mooring_Top.f (d : Int) (els : List S46) (an fr : Int) (cs : List S57) (free : Bool) : Option (Int × Int × Int) := if Moor.err d els an fr cs true = 0 then some (wrap64 (d - Moor.shi (Moor.list (Moor.riseAt els (Moor.pulls free (Moor.on els cs)) (Moor.lifts els)) els.length)), wrap64 (d - Moor.slo (Moor.list (Moor.riseAt els (Moor.pulls free (Moor.on els cs)) (Moor.lifts els)) els.length)), 0) else some (0, 0, Moor.err d els an fr cs true)
def Top.T4 : Bool × List (List Nat × List Nat) := (true, [([], []), ([0], [0]), ([], []), ([], []), ([3], [3]), ([2, 4], [2, 4]), ([1, 5, 5], [1, 5]), ([6, 6, 0, 1, 2, 3, 4, 5, 6], [6]), ([7, 0, 1, 2, 3, 4, 5, 6, 7], [])])
def Top.B4 : List Nat := [0, 1, 0, 0, 8, 28, 63, 127, 255]
theorem Top.tab4 : rtab .any (opsOf Try.f32 4) = Top.T4 := by kernel_rfl
theorem Top.bits4 : waitsOk Top.T4.2 Top.B4 = true := by kernel_rfl
set_option maxHeartbeats 8000000 in
set_option maxRecDepth 100000 in
theorem mooring_Top.calls (d : Int) (A : Option Addr) (c : Nat) (els : List S46) (an fr : Int) (A1 : Option Addr) (c1 : Nat) (cs : List S57) (free : Bool) (r1 : Int) (r2 : Int) (r3 : Int) (w : World) (hr0 : Kd.C k46 w A els.length els) (hc0 : els.length ≤ c) (hr1 : Kd.C k57 w A1 cs.length cs) (hc1 : cs.length ≤ c1) (h : mooring_Top.f d els an fr cs free = some (r1, r2, r3)) :
  Calls Try.prog 32 #[.agg #[.int .i64 d, .slice A els.length c, .int .i64 an, .int .i64 fr], .slice A1 cs.length c1, .bool free] w fun e w' => e = .returned (.tuple #[.agg #[.int .i64 r1, .int .i64 r2], .int .i64 r3]) ∧ Below w.heap.size w w' := by
 have hu37 := Try.underlying37
 have hu57 := Try.underlying57
 have hu98 := Try.underlying98
 have hu129 := Try.underlying129
 obtain ⟨r, hr⟩ : ∃ r, Moor.err d els an fr cs true = r := ⟨_, rfl⟩
 have NS := zam (fun (w1 : World) (hb1 : Below w.heap.size w w1) => mooring_newShape.calls A c A1 c1 cs free r w1 (Kd.C_below hr0 hb1) hc0 (Kd.C_below hr1 hb1) hc1 hr)
 have HR := zam hr
 unfold mooring_Top.f at h
 rw [hr] at h
 have HR0 := zam hr0
 clear hr0 hc0 hr1 hc1 hr
 by_cases c0 : r = 0
 ·subst c0
  rw [if_pos rfl] at h
  have h := zsi h
  simp only [Prod.mk.injEq] at h
  obtain ⟨rfl, rfl, rfl⟩ := h
  have OKM := zam (Moor.err_ok HR.out).1
  have STA := zam ((Moor.err_ok HR.out).2 rfl)
  go_enter Try.func32, Try.ntmps32
  go_wp2_with (first | ((with_reducible refine zgd (N := 3) rfl ?_); refine box_event ?hg (N := 3) ?hd (cs := #[.int .i64 d, .slice A els.length c, .int .i64 an, .int .i64 fr]) (t := 37) ?hr ?_; (case hd => rfl); (case hg => rfl); (case hr => first | (go_simp; done) | (go_simp; rfl)); intro gm hgm w1 hbk hb0; have BM := zam hbk; have HB := zam hb0; have hz0 := (zkc hbk 0).trans rfl; have hz1 := (zkc hbk 1).trans rfl; have hz2 := (zkc hbk 2).trans rfl; have hz3 := (zkc hbk 3).trans rfl; clear hgm hbk hb0) | ((with_reducible refine zgd (N := 6) rfl ?_); refine box_event ?hg (N := 6) ?hd (cs := #[.int .i64 0, .int .i64 0]) (t := 57) ?hr ?_; (case hd => rfl); (case hg => rfl); (case hr => first | (go_simp; done) | (go_simp; rfl)); intro gt hgt w2 hbt hb0; have n1 := zam (zbt HB.out hb0); have n2 := zam (zkb BM.out hb0); have BT := zam hbt; have GE : Aside0 (w.heap.size ≤ gt) := ⟨by rw [hgt]; exact zbz HB.out⟩; have NEM : Aside0 (gm ≠ gt) := ⟨by rw [hgt]; exact Nat.ne_of_lt (blk_lt BM.out)⟩; clear HB BM hgt hbt hb0 hz0 hz1 hz2 hz3; have HB := n1; have BM := n2; clear n1 n2; have hz0 := (zkc BM.out 0).trans rfl; have hz1 := (zkc BM.out 1).trans rfl; have hz2 := (zkc BM.out 2).trans rfl; have hz3 := (zkc BM.out 3).trans rfl) | (go_at_call 61; (with_reducible refine (NS.out _ HB.out).mono ?_); intro e w3 hnf; obtain ⟨gs, he, hf, hb1⟩ := NewShape.of_zero hnf; subst he; have FO := zam hf; have n1 := zam (zbt HB.out hb1); have n3 := zam (zkb BM.out hb1); have n4 := zam (zkb BT.out hb1); clear HB BM BT hz0 hz1 hz2 hz3 hnf hb1 hf; have HB := n1; clear n1; have BM := n3; have BT := n4; clear n3 n4; ))
  have n1 := zam (zkd BM.out)
  have n2 := zam (zkd BT.out)
  have n3 := zam (zb1 HB.out)
  have n4 := zam (FO.out.below (zb1 (Below.refl _ _)))
  clear BM BT HB FO
  have BM := n1
  have BT := n2
  have HB := n3
  have FO := n4
  clear n1 n2 n3 n4
  have OFM := zam (OKM.out.rises_mid STA.out free)
  generalize hs0 : Moor.slo (Moor.list (Moor.riseAt els (Moor.pulls free (Moor.on els cs)) (Moor.lifts els)) els.length) = s0 at *
  generalize hs1 : Moor.shi (Moor.list (Moor.riseAt els (Moor.pulls free (Moor.on els cs)) (Moor.lifts els)) els.length) = s1 at *
  have HS0 := zam hs0
  have HS1 := zam hs1
  clear hs0 hs1
  refine start_ (n := 9) (S := fun w' => w'.cell? ⟨gm, 0, none⟩ = some (.int .i64 d)) (ds := []) #[false, false, false, false, false, false, false, false, false] (by kernel_rfl) rfl rfl (((zkc BM.out 0).trans rfl)) (fun hHeld => ?_)
  refine with_tabW Top.tab4 Top.bits4 (fun HT_ HW_ => ?_)
  generalize World.drew _ = w4 at BM BT HB FO hHeld ⊢
  refine pure_ (i := 0) (N := some 21) (v := ?_) (a' := ?_) #[true, false, false, false, false, false, false, false, false] rfl rfl (any_of HT_.out (by kernel_rfl)) (fun _ _ _ h => h) (Or.inl ⟨by rfl, ?_⟩) ?_ ?_
  rotate_left
  ·intro w'
   go_simp
   with_reducible rfl
  rotate_left
  ·simp only [Act.put, zsa, zsz, zss, i64_w, i32_w]
   rfl
  refine pure_ (i := 2) (N := some 23) (v := ?_) (a' := ?_) #[true, false, true, false, false, false, false, false, false] rfl rfl (any_of HT_.out (by kernel_rfl)) (fun _ _ _ h => h) (Or.inl ⟨by rfl, ?_⟩) ?_ ?_
  rotate_left
  ·intro w'
   go_simp
   with_reducible rfl
  rotate_left
  ·simp only [Act.put, zsa, zsz, zss, i64_w, i32_w]
   rfl
  refine pure_ (i := 3) (N := some 24) (v := ?_) (a' := ?_) #[true, false, true, true, false, false, false, false, false] rfl rfl (any_of HT_.out (by kernel_rfl)) (fun _ _ _ h => h) (Or.inl ⟨by rfl, ?_⟩) ?_ ?_
  rotate_left
  ·intro w'
   go_simp
   with_reducible rfl
  rotate_left
  ·simp only [Act.put, zsa, zsz, zss, i64_w, i32_w]
   rfl
  refine pure_ (i := 4) (N := some 25) (v := ?_) (a' := ?_) #[true, false, true, true, true, false, false, false, false] rfl rfl (any_of HT_.out (by kernel_rfl)) (fun _ _ _ h => h) (Or.inl ⟨by rfl, ?_⟩) ?_ ?_
  rotate_left
  ·intro w'
   go_simp
   with_reducible rfl
  rotate_left
  ·simp only [Act.put, zsa, zsz, zss, i64_w, i32_w]
   rfl
  refine take_ (i := 1) (N := some 22) (v := ?_) (a' := ?_) #[true, true, true, true, true, false, false, false, false] rfl rfl (take_ofW HT_.out HW_.out (by kernel_rfl)) (fun _ _ _ h => h) (Or.inl ⟨by rfl, ?_⟩) hHeld ?_ ?_
  rotate_left
  ·intro w' s0
   go_simp
   with_reducible rfl
  rotate_left
  ·simp only [Act.put, zsa, zsz, zss, i64_w, i32_w]
   rfl
  refine one_ (i := 5) (N := some 26) #[true, true, true, true, true, true, false, false, false] rfl rfl (one_of HT_.out (by kernel_rfl)) (by decide) (fun K hK => ?_)
  refine goes_ Try.func65 (by kernel_rfl) rfl #[.pointer (some ⟨gs, 0, none⟩), .func (.func 64) #[.pointer (some ⟨gs, 0, none⟩)] #[]] (by rfl) rfl rfl (by simp only [zmt, List.map_cons, List.map_nil]; rfl) ?_
  with_reducible refine (mooring_total.calls A c gs 64 (Moor.riseAt els (Moor.pulls free (Moor.on els cs)) (Moor.lifts els)) _ FO.out OKM.out.n40 (mooring_gives_rise FO.out OKM.out STA.out) OFM.out).mono ?_
  rintro e w5 ⟨rfl, hb1⟩
  refine ⟨_, rfl, ?_⟩
  rw [HS0.out, HS1.out]
  have n1 := zam (zbt HB.out hb1)
  have n2 := zam (zkb BM.out hb1)
  have n3 := zam (zkb BT.out hb1)
  clear HB BM BT FO hb1
  have HB := n1
  have BM := n2
  have BT := n3
  clear n1 n2 n3
  refine hK.out _ _ (((zkc BM.out 0).trans rfl)) (fun hHeld => ?_)
  clear hK K
  refine norm_ (a' := ?_) ?_ ?_
  rotate_left
  ·show Act.put _ (some 26) _ = _
   simp only [Act.put, zsa, zsz, zss, i64_w, i32_w]
   rfl
  refine one_ (i := 6) (N := some 27) #[true, true, true, true, true, true, true, false, false] rfl rfl (one_of HT_.out (by kernel_rfl)) (by decide) (fun K hK => ?_)
  refine goes_ Try.func73 (by kernel_rfl) rfl #[.int .i64 d, .agg #[.int .i64 s0, .int .i64 s1]] (by rfl) rfl rfl (by simp only [zmt, List.map_cons, List.map_nil]; rfl) ?_
  with_reducible refine (mooring_from.calls d s0 s1 (wrap64 (d - s1)) (wrap64 (d - s0)) _ rfl).mono ?_
  rintro e w6 ⟨rfl, hb1⟩
  refine ⟨_, rfl, ?_⟩
  have n1 := zam (zbt HB.out hb1)
  have n2 := zam (zkb BM.out hb1)
  have n3 := zam (zkb BT.out hb1)
  clear HB BM BT hb1
  have HB := n1
  have BM := n2
  have BT := n3
  clear n1 n2 n3
  refine hK.out _ _ (((zkc BM.out 0).trans rfl)) (fun hHeld => ?_)
  clear hK K
  refine norm_ (a' := ?_) ?_ ?_
  rotate_left
  ·show Act.put _ (some 27) _ = _
   simp only [Act.put, zsa, zsz, zss, i64_w, i32_w]
   rfl
  refine one_ (i := 7) (N := none) #[true, true, true, true, true, true, true, true, false] rfl rfl (one_of HT_.out (by kernel_rfl)) (by decide) (fun K hK => ?_)
  clear hHeld
  have hz0 := (zkc BT.out 0).trans rfl
  have hz1 := (zkc BT.out 1).trans rfl
  have hf0 := zkz BT.out 0
  have hf1 := zkz BT.out 1
  refine skip_ (w1 := ?_) (by rfl) rfl ?_ ?_
  rotate_left
  ·go_simp
   rfl
  clear hz0 hz1 hf0 hf1
  have n1 := zam (zkf (p := ⟨gt, 1, none⟩) (zkf (p := ⟨gt, 0, none⟩) BM.out NEM.out (.int .i64 (wrap64 (d - s1)))) NEM.out (.int .i64 (wrap64 (d - s0))))
  have n2 := zam (blk_put (cs' := #[.int .i64 (wrap64 (d - s1)), .int .i64 (wrap64 (d - s0))]) (blk_put (cs' := #[.int .i64 (wrap64 (d - s1)), .int .i64 0]) BT.out 0 (.int .i64 (wrap64 (d - s1))) rfl) 1 (.int .i64 (wrap64 (d - s0))) rfl)
  have n3 := zam (zbs (j := 1) (v := .int .i64 (wrap64 (d - s0))) (zbs (j := 0) (v := .int .i64 (wrap64 (d - s1))) HB.out GE.out) GE.out)
  clear HB BM BT
  have BM := n1
  have BT := n2
  have HB := n3
  clear n1 n2 n3
  refine hK.out _ _ (((zkc BM.out 0).trans rfl)) (fun hHeld => ?_)
  clear hK K
  refine pure_ (i := 8) (N := some 7) (v := ?_) (a' := ?_) #[true, true, true, true, true, true, true, true, true] rfl rfl (any_of HT_.out (by kernel_rfl)) (fun _ _ _ h => h) (Or.inl ⟨by rfl, ?_⟩) ?_ ?_
  rotate_left
  ·intro w'
   go_simp
   with_reducible rfl
  rotate_left
  ·simp only [Act.put, zsa, zsz, zss, i64_w, i32_w]
   rfl
  refine done_ (done_of HT_.out (by kernel_rfl)) ?_
  clear hHeld BM
  go_wp2
  refine bodyPost_ret (results_ct rfl _ _ gt 57 #[.int .i64 (wrap64 (d - s1)), .int .i64 (wrap64 (d - s0))] (0, 0) _ rfl BT.out hu57 rfl (by kernel_rfl)) rfl ?_
  refine ⟨?_, HB.out⟩
  first | rfl | (rw [HS0.out, HS1.out]; rfl)
 rw [if_neg c0] at h
 have h := zsi h
 simp only [Prod.mk.injEq] at h
 obtain ⟨rfl, rfl, rfl⟩ := h
 have d1 : (r != 0) = true := bne_iff_ne.mpr c0
 have C0 := zam c0
 clear c0
 go_enter Try.func32, Try.ntmps32
 go_wp2_with (first | ((with_reducible refine zgd (N := 3) rfl ?_); refine box_event ?hg (N := 3) ?hd (cs := #[.int .i64 d, .slice A els.length c, .int .i64 an, .int .i64 fr]) (t := 37) ?hr ?_; (case hd => rfl); (case hg => rfl); (case hr => first | (go_simp; done) | (go_simp; rfl)); intro gm hgm w1 hbk hb0; have BM := zam hbk; have HB := zam hb0; have hz0 := (zkc hbk 0).trans rfl; have hz1 := (zkc hbk 1).trans rfl; have hz2 := (zkc hbk 2).trans rfl; have hz3 := (zkc hbk 3).trans rfl; clear hgm hbk hb0) | ((with_reducible refine zgd (N := 6) rfl ?_); refine box_event ?hg (N := 6) ?hd (cs := #[.int .i64 0, .int .i64 0]) (t := 57) ?hr ?_; (case hd => rfl); (case hg => rfl); (case hr => first | (go_simp; done) | (go_simp; rfl)); intro gt hgt w2 hbt hb0; have n1 := zam (zbt HB.out hb0); have n2 := zam (zkb BM.out hb0); have BT := zam hbt; have GE : Aside0 (w.heap.size ≤ gt) := ⟨by rw [hgt]; exact zbz HB.out⟩; have NEM : Aside0 (gm ≠ gt) := ⟨by rw [hgt]; exact Nat.ne_of_lt (blk_lt BM.out)⟩; clear HB BM hgt hbt hb0 hz0 hz1 hz2 hz3; have HB := n1; have BM := n2; clear n1 n2; have hz0 := (zkc BM.out 0).trans rfl; have hz1 := (zkc BM.out 1).trans rfl; have hz2 := (zkc BM.out 2).trans rfl; have hz3 := (zkc BM.out 3).trans rfl) | (go_at_call 61; (with_reducible refine (NS.out _ HB.out).mono ?_); intro e w3 hnf; obtain ⟨he, hb1⟩ := NewShape.of_ne hnf C0.out; subst he; have n1 := zam (zbt HB.out hb1); have n3 := zam (zkb BM.out hb1); have n4 := zam (zkb BT.out hb1); clear HB BM BT hz0 hz1 hz2 hz3 hnf hb1; have HB := n1; clear n1; have BM := n3; have BT := n4; clear n3 n4; have hz2 := (zkc BT.out 0).trans rfl; have hz3 := (zkc BT.out 1).trans rfl; have hf2 := zkz BT.out 0; have hf3 := zkz BT.out 1; ))
 refine bodyPost_ret (results_ct rfl _ _ gt 57 #[.int .i64 0, .int .i64 0] (0, 0) _ rfl (blk_put (cs' := #[.int .i64 0, .int .i64 0]) (blk_put (cs' := #[.int .i64 0, .int .i64 0]) BT.out 0 (.int .i64 0) rfl) 1 (.int .i64 0) rfl) hu57 rfl (by kernel_rfl)) rfl ?_
 exact ⟨rfl, zbs (zbs HB.out GE.out) GE.out⟩
end Go.Proofs.Ytebcmhajbjkojaa.P
