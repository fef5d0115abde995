/- wherever an object drifts without being found, the cell where it is after each hour is one of Where, or it has left the area, which is told. (as MooringSearches) Part 7 of 7. -/
-- Put together by wip/tools/shake.py, a program of this work: out of the words that the kit's print tool (print.sh) writes for a claim and what wip/tools/xprint.py prints, those that this claim reaches, and this work's own texts.
import Derived.Test.YtebcmhajbjkojaaKMooringWays5
namespace Go.Proofs.Ytebcmhajbjkojaa.P
open Go.RowKit Go.Proofs.YtebcmhajbjkojaaW.PrintWords Go.Proofs.YtebcmhajbjkojaaW.PrintLast Go.Proofs.YtebcmhajbjkojaaW.PrintMore
attribute [local go_sem] max2_int min2_int max_two min_two max_three min_three max_four min_four   -- for this text's walks alone
set_option linter.unusedVariables false
set_option linter.unusedSimpArgs false
def Srch.okL (m : Int) : Int → List Int → Bool
 | _, [] => true
 | p, x :: l => decide (0 ≤ x) && decide (x < m) && decide (p < x) && Srch.okL m x l
theorem Srch.okL_spec {m : Int} : ∀ (l : List Int) (p : Int), Srch.okL m p l = true → (∀ x ∈ l, 0 ≤ x ∧ x < m ∧ p < x) ∧ l.Pairwise (· < ·)
 | [], _, _ => ⟨fun _ h => (by cases h), List.Pairwise.nil⟩
 | x :: l, p, h => by
  simp only [Srch.okL, Bool.and_eq_true, decide_eq_true_eq] at h
  obtain ⟨h1, h2⟩ := Srch.okL_spec l x h.2
  refine ⟨fun y hy => ?_, List.pairwise_cons.2 ⟨fun y hy => (h1 y hy).2.2, h2⟩⟩
  rcases List.mem_cons.1 hy with rfl | hy
  ·exact ⟨h.1.1.1, h.1.1.2, h.1.2⟩
  have := h1 y hy
  omega
def Srch.prev (l : List Int) (i : Nat) : Int := if i = 0 then -1 else l.getD (i - 1) 0
theorem Srch.prev_succ {l : List Int} {i : Nat} (h : i < l.length) : Srch.prev l (i + 1) = l[i] := by
 unfold Srch.prev
 rw [if_neg (by omega)]
 simp [List.getD, h]
theorem Srch.rd_prev {l : List Int} {i : Nat} (h0 : 0 < i) (hi : i ≤ 9223372036854775807) : wrap64 ((i : Int) - 1) = ((i - 1 : Nat) : Int) ∧ rd l ((i - 1 : Nat) : Int) = Srch.prev l i := by
 refine ⟨by rw [wrap_id (by omega) (by omega)]; omega, ?_⟩
 unfold Srch.prev rd
 rw [if_neg (by omega), Int.toNat_natCast]
section
variable {wd hg : Int}
theorem Srch.has_l0 (hw0 : 1 ≤ wd) (hw1 : wd ≤ 24) (hh0 : 1 ≤ hg) (hh1 : hg ≤ 24) {l : List Int} (hn : l.length ≤ 1000000) : ∀ (r i k : Nat), i + r = l.length → mooring_area_has.l0 (k + r + 1) l l (l.length : Int) (i : Int) wd hg = some (Srch.okL (wd * hg) (Srch.prev l i) (l.drop i))
 | 0, i, k, hi => by
  rw [mooring_area_has.l0, if_neg (by omega), List.drop_eq_nil_of_le (by omega)]
  rfl
 | r + 1, i, k, hi => by
  have hA := Srch.area_le hw0 hw1 hh0 hh1
  have h0 : 0 ≤ wd * hg := Int.mul_nonneg (by omega) (by omega)
  have hw : wrap64 (wd * hg) = wd * hg := wrap_id (by omega) (by omega)
  have hlt : i < l.length := by omega
  have ih := Srch.has_l0 hw0 hw1 hh0 hh1 hn r (i + 1) k (by omega)
  rw [Srch.prev_succ hlt] at ih
  rw [show k + (r + 1) + 1 = (k + r + 1) + 1 by omega, mooring_area_has.l0, if_pos (by omega), if_pos (by omega), if_pos (by omega), rd_nat hlt, hw, wrap_succ hlt (by omega), ih, drop_cons hlt, Srch.okL]
  by_cases q1 : l[i] < 0
  ·rw [if_pos q1, zdf (by omega)]
   rfl
  rw [if_neg q1, zdt (show 0 ≤ l[i] by omega), Bool.true_and]
  by_cases q2 : l[i] ≥ wd * hg
  ·rw [if_pos q2, zdf (by omega)]
   rfl
  rw [if_neg q2, zdt (show l[i] < wd * hg by omega), Bool.true_and]
  by_cases q3 : (i : Int) > 0
  ·obtain ⟨e1, e2⟩ := Srch.rd_prev (l := l) (i := i) (by omega) (by omega)
   rw [if_pos q3, e1, if_pos (by omega), if_pos (by omega), e2]
   by_cases q4 : l[i] ≤ Srch.prev l i
   ·rw [if_pos q4, zdf (by omega)]
    rfl
   rw [if_neg q4, zdt (show Srch.prev l i < l[i] by omega), Bool.true_and]
  have e : Srch.prev l i = -1 := by
   unfold Srch.prev
   rw [if_pos (by omega)]
  rw [if_neg q3, e, zdt (show -1 < l[i] by omega), Bool.true_and]
theorem Srch.has_f (hw0 : 1 ≤ wd) (hw1 : wd ≤ 24) (hh0 : 1 ≤ hg) (hh1 : hg ≤ 24) {l : List Int} (hn : l.length ≤ 1000000) {k : Nat} (hk : l.length < k) : mooring_area_has.f k wd hg l = some (Srch.okL (wd * hg) (-1) l) := by
 obtain ⟨k, rfl⟩ : ∃ k', k = k' + l.length + 1 := ⟨k - l.length - 1, by omega⟩
 exact Srch.has_l0 hw0 hw1 hh0 hh1 hn l.length 0 k (by omega)
theorem Srch.cells_l0 (hw0 : 1 ≤ wd) (hw1 : wd ≤ 24) (hh0 : 1 ≤ hg) (hh1 : hg ≤ 24) {l : List Int} (hn : l.length ≤ 1000000) : ∀ (r i k : Nat), i + r = l.length → isobathref02_cells.l0 (k + r + 1) l (i : Int) wd hg = some (Srch.okL (wd * hg) (Srch.prev l i) (l.drop i))
 | 0, i, k, hi => by
  rw [isobathref02_cells.l0, if_neg (by omega), List.drop_eq_nil_of_le (by omega)]
  rfl
 | r + 1, i, k, hi => by
  have hA := Srch.area_le hw0 hw1 hh0 hh1
  have h0 : 0 ≤ wd * hg := Int.mul_nonneg (by omega) (by omega)
  have hw : wrap64 (wd * hg) = wd * hg := wrap_id (by omega) (by omega)
  have hlt : i < l.length := by omega
  have ih := Srch.cells_l0 hw0 hw1 hh0 hh1 hn r (i + 1) k (by omega)
  rw [Srch.prev_succ hlt] at ih
  rw [show k + (r + 1) + 1 = (k + r + 1) + 1 by omega, isobathref02_cells.l0, if_pos (by omega), if_pos (by omega), rd_nat hlt, hw, wrap_succ hlt (by omega), ih, drop_cons hlt, Srch.okL]
  by_cases q1 : l[i] < 0
  ·rw [if_pos q1, zdf (by omega)]
   rfl
  rw [if_neg q1, zdt (show 0 ≤ l[i] by omega), Bool.true_and]
  by_cases q2 : l[i] ≥ wd * hg
  ·rw [if_pos q2, zdf (by omega)]
   rfl
  rw [if_neg q2, zdt (show l[i] < wd * hg by omega), Bool.true_and]
  by_cases q3 : (i : Int) > 0
  ·obtain ⟨e1, e2⟩ := Srch.rd_prev (l := l) (i := i) (by omega) (by omega)
   rw [if_pos q3, e1, if_pos (by omega), if_pos (by omega), e2]
   by_cases q4 : l[i] ≤ Srch.prev l i
   ·rw [if_pos q4, zdf (by omega)]
    rfl
   rw [if_neg q4, zdt (show Srch.prev l i < l[i] by omega), Bool.true_and]
  have e : Srch.prev l i = -1 := by
   unfold Srch.prev
   rw [if_pos (by omega)]
  rw [if_neg q3, e, zdt (show -1 < l[i] by omega), Bool.true_and]
theorem Srch.cells_f (hw0 : 1 ≤ wd) (hw1 : wd ≤ 24) (hh0 : 1 ≤ hg) (hh1 : hg ≤ 24) {l : List Int} (hn : l.length ≤ 1000000) {k : Nat} (hk : l.length < k) : isobathref02_cells.f k wd hg l = some (Srch.okL (wd * hg) (-1) l) := by
 obtain ⟨k, rfl⟩ : ∃ k', k = k' + l.length + 1 := ⟨k - l.length - 1, by omega⟩
 exact Srch.cells_l0 hw0 hw1 hh0 hh1 hn l.length 0 k (by omega)
end
def Srch.okS (a b : Int) : Bool := decide (a ≤ b) && decide (-4 ≤ a) && decide (b ≤ 4)
theorem Srch.check1 (a b : Int) : mooring_area_check_1.f a b = some (!Srch.okS a b) := by
 unfold mooring_area_check_1.f Srch.okS
 by_cases q1 : a > b
 ·rw [if_pos q1, zdf (by omega)]
  rfl
 rw [if_neg q1, zdt (show a ≤ b by omega), Bool.true_and]
 by_cases q2 : a < -4
 ·rw [if_pos q2, zdf (by omega)]
  rfl
 rw [if_neg q2, zdt (show -4 ≤ a by omega), Bool.true_and]
 by_cases q3 : b > 4
 ·rw [zdt q3, zdf (by omega)]
  rfl
 rw [zdf q3, zdt (show b ≤ 4 by omega)]
 rfl
theorem Srch.shift (a b : Int) : isobathref02_shift.f a b = some (Srch.okS a b) := by
 unfold isobathref02_shift.f Srch.okS
 by_cases q1 : a ≤ b
 ·rw [if_pos q1, zdt q1, Bool.true_and]
  by_cases q2 : a ≥ -4
  ·rw [if_pos q2, zdt (show -4 ≤ a by omega), Bool.true_and]
  rw [if_neg q2, zdf (show ¬ -4 ≤ a by omega)]
  rfl
 rw [if_neg q1, zdf q1]
 rfl
def Srch.okH (m : Int) (h : S79) : Bool := Srch.okS h.f0.f0 h.f0.f1 && Srch.okS h.f1.f0 h.f1.f1 && Srch.okL m (-1) h.f2
def Srch.Few (l : List S79) : Prop := l.length ≤ 60 ∧ ∀ h ∈ l, h.f2.length ≤ 700
theorem Srch.hour_at {l : List S79} {i : Nat} (h : i < l.length) : rd_T79 l (i : Int) = l[i] := by
 unfold rd_T79
 rw [Int.toNat_natCast]
 simp [List.getD, h]
def Srch.err (wd hg : Int) (st : List Int) (l : List S79) : Int := if 48 < l.length then 6 else if 1 ≤ wd ∧ wd ≤ 24 ∧ 1 ≤ hg ∧ hg ≤ 24 ∧ Srch.okL (wd * hg) (-1) st = true ∧ l.all (Srch.okH (wd * hg)) = true then 0 else 2
section
variable {wd hg : Int} {st : List Int} {l : List S79}
theorem Srch.check_l0 (hl : Srch.Few l) (hw0 : 1 ≤ wd) (hw1 : wd ≤ 24) (hh0 : 1 ≤ hg) (hh1 : hg ≤ 24) : ∀ (r i k : Nat), i + r = l.length → r + 1100 ≤ k → mooring_area_check.l0 k l (l.length : Int) (i : Int) wd hg = some (if (l.drop i).all (Srch.okH (wd * hg)) = true then 0 else 2)
 | 0, i, k, hi, hk => by
  obtain ⟨k, rfl⟩ : ∃ k', k = k' + 1 := ⟨k - 1, by omega⟩
  rw [mooring_area_check.l0, if_neg (by omega), List.drop_eq_nil_of_le (by omega)]
  rfl
 | r + 1, i, k, hi, hk => by
  obtain ⟨k, rfl⟩ : ∃ k', k = k' + 1 := ⟨k - 1, by omega⟩
  have hlt : i < l.length := by omega
  have h60 := hl.1
  have hs := hl.2 _ (List.getElem_mem hlt)
  rw [mooring_area_check.l0, if_pos (by omega), if_pos (by omega), if_pos (by omega), Srch.hour_at hlt, Srch.check1, Srch.check1, Srch.has_f hw0 hw1 hh0 hh1 (by omega) (by omega), wrap_succ hlt (by omega), Srch.check_l0 hl hw0 hw1 hh0 hh1 r (i + 1) k (by omega) (by omega), drop_cons hlt, List.all_cons]
  simp only [Option.bind_some, Srch.okH]
  by_cases u1 : Srch.okS l[i].f0.f0 l[i].f0.f1 = true <;> by_cases u2 : Srch.okS l[i].f1.f0 l[i].f1.f1 = true <;> by_cases u3 : Srch.okL (wd * hg) (-1) l[i].f2 = true <;> simp [u1, u2, u3]
theorem Srch.search_l0 (hl : Srch.Few l) (hst : st.length ≤ 700) (hw0 : 1 ≤ wd) (hw1 : wd ≤ 24) (hh0 : 1 ≤ hg) (hh1 : hg ≤ 24) : ∀ (r i k : Nat), i + r = l.length → r + 1100 ≤ k → isobathref02_search.l0 k st l (i : Int) wd hg = some (if Srch.okL (wd * hg) (-1) st = true ∧ (l.drop i).all (Srch.okH (wd * hg)) = true then 0 else 2)
 | 0, i, k, hi, hk => by
  obtain ⟨k, rfl⟩ : ∃ k', k = k' + 1 := ⟨k - 1, by omega⟩
  rw [isobathref02_search.l0, if_neg (by omega), List.drop_eq_nil_of_le (by omega), Srch.cells_f hw0 hw1 hh0 hh1 (by omega) (by omega), Option.bind_some]
  by_cases u : Srch.okL (wd * hg) (-1) st = true <;> simp [u]
 | r + 1, i, k, hi, hk => by
  obtain ⟨k, rfl⟩ : ∃ k', k = k' + 1 := ⟨k - 1, by omega⟩
  have hlt : i < l.length := by omega
  have h60 := hl.1
  have hs := hl.2 _ (List.getElem_mem hlt)
  rw [isobathref02_search.l0, if_pos (by omega), if_pos (by omega), Srch.hour_at hlt, Srch.shift, Srch.shift, Srch.cells_f hw0 hw1 hh0 hh1 (by omega) (by omega), wrap_succ hlt (by omega), Srch.search_l0 hl hst hw0 hw1 hh0 hh1 r (i + 1) k (by omega) (by omega), drop_cons hlt, List.all_cons]
  simp only [Option.bind_some, Srch.okH]
  by_cases u1 : Srch.okS l[i].f0.f0 l[i].f0.f1 = true <;> by_cases u2 : Srch.okS l[i].f1.f0 l[i].f1.f1 = true <;> by_cases u3 : Srch.okL (wd * hg) (-1) l[i].f2 = true <;> simp [u1, u2, u3]
theorem Srch.check_f (hl : Srch.Few l) (hst : st.length ≤ 700) {k : Nat} (hk : 1200 ≤ k) : mooring_area_check.f k wd hg st l = some (Srch.err wd hg st l) := by
 have h60 := hl.1
 unfold mooring_area_check.f Srch.err
 by_cases q0 : 48 < l.length
 ·rw [if_pos (by omega), if_pos q0]
 rw [if_neg (by omega), if_neg q0]
 obtain ⟨k, rfl⟩ : ∃ k', k = k' + 1 := ⟨k - 1, by omega⟩
 have e1 : mn wd hg < 1 ↔ wd < 1 ∨ hg < 1 := by unfold mn; split <;> omega
 have e2 : mx wd hg > 24 ↔ wd > 24 ∨ hg > 24 := by unfold mx; split <;> omega
 by_cases q1 : mn wd hg < 1
 ·rw [if_pos q1, mooring_area_check.j0, if_pos rfl, if_neg (by rw [e1] at q1; omega)]
 rw [if_neg q1]
 by_cases q2 : mx wd hg > 24
 ·rw [if_pos q2, mooring_area_check.j0, if_pos rfl, if_neg (by rw [e2] at q2; omega)]
 rw [if_neg q2]
 rw [e1] at q1
 rw [e2] at q2
 have hw0 : 1 ≤ wd := by omega
 have hw1 : wd ≤ 24 := by omega
 have hh0 : 1 ≤ hg := by omega
 have hh1 : hg ≤ 24 := by omega
 rw [Srch.has_f hw0 hw1 hh0 hh1 (by omega) (by omega), Option.bind_some, mooring_area_check.j0]
 by_cases q3 : Srch.okL (wd * hg) (-1) st = true
 ·have h := Srch.check_l0 hl hw0 hw1 hh0 hh1 l.length 0 k (by omega) (by omega)
  rw [show ((0 : Nat) : Int) = 0 from rfl, List.drop_zero] at h
  rw [q3, if_neg (by decide), h]
  simp [hw0, hw1, hh0, hh1]
 rw [if_pos (by simpa using q3), if_neg (by simp [q3])]
theorem Srch.search_f (hl : Srch.Few l) (hst : st.length ≤ 700) {k : Nat} (hk : 1200 ≤ k) : isobathref02_search.f k wd hg st l = some (Srch.err wd hg st l) := by
 have h60 := hl.1
 unfold isobathref02_search.f Srch.err
 by_cases q0 : 48 < l.length
 ·rw [if_pos (by omega), if_pos q0]
 rw [if_neg (by omega), if_neg q0]
 obtain ⟨k, rfl⟩ : ∃ k', k = k' + 1 := ⟨k - 1, by omega⟩
 by_cases q1 : wd < 1
 ·rw [if_pos q1, isobathref02_search.j0, if_pos rfl, if_neg (by omega)]
 rw [if_neg q1]
 by_cases q2 : wd > 24
 ·rw [if_pos q2, isobathref02_search.j0, if_pos rfl, if_neg (by omega)]
 rw [if_neg q2]
 by_cases q3 : hg < 1
 ·rw [if_pos q3, isobathref02_search.j0, if_pos rfl, if_neg (by omega)]
 rw [if_neg q3, isobathref02_search.j0]
 by_cases q4 : hg > 24
 ·rw [zdt q4, if_pos rfl, if_neg (by omega)]
 rw [zdf q4, if_neg (by decide)]
 have hw0 : 1 ≤ wd := by omega
 have hw1 : wd ≤ 24 := by omega
 have hh0 : 1 ≤ hg := by omega
 have hh1 : hg ≤ 24 := by omega
 have h := Srch.search_l0 hl hst hw0 hw1 hh0 hh1 l.length 0 k (by omega) (by omega)
 rw [show ((0 : Nat) : Int) = 0 from rfl, List.drop_zero] at h
 rw [h]
 simp [hw0, hw1, hh0, hh1]
end
theorem Srch.err_ok {wd hg : Int} {st : List Int} {l : List S79} (h : Srch.err wd hg st l = 0) : l.length ≤ 48 ∧ 1 ≤ wd ∧ wd ≤ 24 ∧ 1 ≤ hg ∧ hg ≤ 24 ∧ Srch.okL (wd * hg) (-1) st = true ∧ ∀ x ∈ l, Srch.okH (wd * hg) x = true := by
 unfold Srch.err at h
 by_cases q0 : 48 < l.length
 ·rw [if_pos q0] at h
  cases h
 rw [if_neg q0] at h
 by_cases q1 : 1 ≤ wd ∧ wd ≤ 24 ∧ 1 ≤ hg ∧ hg ≤ 24 ∧ Srch.okL (wd * hg) (-1) st = true ∧ l.all (Srch.okH (wd * hg)) = true
 ·obtain ⟨a, b, c, d, e, f⟩ := q1
  exact ⟨by omega, a, b, c, d, e, fun x hx => List.all_eq_true.1 f x hx⟩
 rw [if_neg q1] at h
 cases h
theorem Srch.err_of {wd hg : Int} {st : List Int} {l : List S79} (h0 : l.length ≤ 48) (hw0 : 1 ≤ wd) (hw1 : wd ≤ 24) (hh0 : 1 ≤ hg) (hh1 : hg ≤ 24) (h1 : Srch.okL (wd * hg) (-1) st = true) (h2 : ∀ x ∈ l, Srch.okH (wd * hg) x = true) : Srch.err wd hg st l = 0 := by
 unfold Srch.err
 rw [if_neg (by omega), if_pos ⟨hw0, hw1, hh0, hh1, h1, List.all_eq_true.2 h2⟩]
def Srch.next (wd hg : Int) (mk : List Bool) (h : S79) : List Bool := Srch.unmark (Srch.hourMk wd hg h.f0.f0 h.f0.f1 h.f1.f0 h.f1.f1 (List.replicate (wd * hg).toNat false) (Srch.list mk (wd * hg).toNat)) h.f2
def Srch.lost (wd hg : Int) (mk : List Bool) (h : S79) : Bool := Srch.hourLf wd hg h.f0.f0 h.f0.f1 h.f1.f0 h.f1.f1 (Srch.list mk (wd * hg).toNat)
def Srch.go (wd hg : Int) : List S79 → List Bool × Bool → List Bool × Bool
 | [], p => p
 | h :: l, p => Srch.go wd hg l (Srch.next wd hg p.1 h, p.2 || Srch.lost wd hg p.1 h)
theorem Srch.go_append (wd hg : Int) : ∀ (l l' : List S79) (p : List Bool × Bool), Srch.go wd hg (l ++ l') p = Srch.go wd hg l' (Srch.go wd hg l p)
 | [], _, _ => rfl
 | h :: l, l', p => Srch.go_append wd hg l l' _
theorem Srch.next_length (wd hg : Int) (mk : List Bool) (h : S79) : (Srch.next wd hg mk h).length = (wd * hg).toNat := by
 unfold Srch.next
 rw [Srch.unmark_length, Srch.hourMk_length, List.length_replicate]
theorem Srch.list_mem {mk : List Bool} {m : Nat} {x : Int} (h : x ∈ Srch.list mk m) : 0 ≤ x ∧ x < (m : Int) := by
 rw [Srch.list_from] at h
 have := Srch.from_range mk m 0 x h
 omega
section
variable {wd hg : Int} {st : List Int} {l : List S79}
theorem Srch.hour_f (hw0 : 1 ≤ wd) (hw1 : wd ≤ 24) (hh0 : 1 ≤ hg) (hh1 : hg ≤ 24) {h : S79} (hH : Srch.okH (wd * hg) h = true) (h7 : h.f2.length ≤ 700) (mk : List Bool) : mooring_area_hour.f wd hg (Srch.list mk (wd * hg).toNat) h.f0.f0 h.f0.f1 h.f1.f0 h.f1.f1 h.f2 = some (Srch.list (Srch.next wd hg mk h) (wd * hg).toNat, Srch.lost wd hg mk h) := by
 have hA := Srch.area_le hw0 hw1 hh0 hh1
 have h0 : 0 ≤ wd * hg := Int.mul_nonneg (by omega) (by omega)
 have hl := Srch.list_le mk (wd * hg).toNat
 simp only [Srch.okH, Srch.okS, Bool.and_eq_true, decide_eq_true_eq] at hH
 obtain ⟨⟨⟨⟨a1, a2⟩, a3⟩, ⟨b1, b2⟩, b3⟩, c⟩ := hH
 have hs := (Srch.okL_spec _ _ c).1
 have fit : Srch.fits wd hg h.f0.f0 h.f0.f1 h.f1.f0 h.f1.f1 (Srch.list mk (wd * hg).toNat) h.f2 = true := by
  unfold Srch.fits
  simp only [Bool.and_eq_true, decide_eq_true_eq, List.all_eq_true]
  refine ⟨⟨⟨⟨⟨⟨⟨⟨⟨⟨⟨⟨⟨hw0, hw1⟩, hh0⟩, hh1⟩, a2⟩, a1⟩, a3⟩, b2⟩, b1⟩, b3⟩, by omega⟩, by omega⟩, fun x hx => ?_⟩, fun x hx => ⟨(hs x hx).1, (hs x hx).2.1⟩⟩
  have := Srch.list_mem hx
  exact ⟨this.1, by omega⟩
 unfold mooring_area_hour.f
 rw [if_pos fit]
 rfl
theorem Srch.drift_f (hw0 : 1 ≤ wd) (hw1 : wd ≤ 24) (hh0 : 1 ≤ hg) (hh1 : hg ≤ 24) {h : S79} (hH : Srch.okH (wd * hg) h = true) (h7 : h.f2.length ≤ 700) {mk : List Bool} (hm : mk.length = (wd * hg).toNat) {k : Nat} (hk : 71000 ≤ k) : isobathref02_Drift.f k wd hg mk h.f0.f0 h.f0.f1 h.f1.f0 h.f1.f1 h.f2 = some (Srch.next wd hg mk h, Srch.lost wd hg mk h) := by
 have h0 : 0 ≤ wd * hg := Int.mul_nonneg (by omega) (by omega)
 simp only [Srch.okH, Srch.okS, Bool.and_eq_true, decide_eq_true_eq] at hH
 obtain ⟨⟨⟨⟨a1, a2⟩, a3⟩, ⟨b1, b2⟩, b3⟩, c⟩ := hH
 have hs := (Srch.okL_spec _ _ c).1
 rw [Srch.ref_drift hw0 hw1 hh0 hh1 (by omega) a2 a1 a3 b2 b1 b3 (fun x hx => ⟨(hs x hx).1, (hs x hx).2.1⟩) (by omega) hk]
 rfl
theorem Srch.where_l0 (hw0 : 1 ≤ wd) (hw1 : wd ≤ 24) (hh0 : 1 ≤ hg) (hh1 : hg ≤ 24) (hl : Srch.Few l) (hH : ∀ x ∈ l, Srch.okH (wd * hg) x = true) : ∀ (r i : Nat) (mk : List Bool) (lf : Bool) (k : Nat), i + r = l.length → r < k → mooring_Where.l0 k (Srch.list mk (wd * hg).toNat) lf l (l.length : Int) (i : Int) wd hg = some (Srch.list (Srch.go wd hg (l.drop i) (mk, lf)).1 (wd * hg).toNat, (Srch.go wd hg (l.drop i) (mk, lf)).2, 0)
 | 0, i, mk, lf, k, hi, hk => by
  obtain ⟨k, rfl⟩ : ∃ k', k = k' + 1 := ⟨k - 1, by omega⟩
  rw [mooring_Where.l0, if_neg (by omega), List.drop_eq_nil_of_le (by omega)]
  rfl
 | r + 1, i, mk, lf, k, hi, hk => by
  obtain ⟨k, rfl⟩ : ∃ k', k = k' + 1 := ⟨k - 1, by omega⟩
  have hlt : i < l.length := by omega
  have h60 := hl.1
  rw [mooring_Where.l0, if_pos (by omega), if_pos (by omega), if_pos (by omega), Srch.hour_at hlt, Srch.hour_f hw0 hw1 hh0 hh1 (hH _ (List.getElem_mem hlt)) (hl.2 _ (List.getElem_mem hlt)) mk, Option.bind_some, wrap_succ hlt (by omega), drop_cons hlt, Srch.go]
  cases lf with
  | true => rw [if_pos rfl]; exact Srch.where_l0 hw0 hw1 hh0 hh1 hl hH r (i + 1) _ _ k (by omega) (by omega)
  | false => rw [if_neg (by decide), Bool.false_or]; exact Srch.where_l0 hw0 hw1 hh0 hh1 hl hH r (i + 1) _ _ k (by omega) (by omega)
theorem Srch.refWhere_l0 (hw0 : 1 ≤ wd) (hw1 : wd ≤ 24) (hh0 : 1 ≤ hg) (hh1 : hg ≤ 24) (hl : Srch.Few l) (hH : ∀ x ∈ l, Srch.okH (wd * hg) x = true) : ∀ (r i : Nat) (mk : List Bool) (lf : Bool) (k : Nat), i + r = l.length → mk.length = (wd * hg).toNat → r + 72000 ≤ k → isobathref02_Where.l0 k l mk lf (i : Int) wd hg = some (Srch.list (Srch.go wd hg (l.drop i) (mk, lf)).1 (wd * hg).toNat, (Srch.go wd hg (l.drop i) (mk, lf)).2, 0)
 | 0, i, mk, lf, k, hi, hm, hk => by
  have hA := Srch.area_le hw0 hw1 hh0 hh1
  obtain ⟨k, rfl⟩ : ∃ k', k = k' + 1 := ⟨k - 1, by omega⟩
  rw [isobathref02_Where.l0, if_neg (by omega), List.drop_eq_nil_of_le (by omega), Srch.ref_numbers (by omega) (by omega), hm, Option.bind_some]
  rfl
 | r + 1, i, mk, lf, k, hi, hm, hk => by
  obtain ⟨k, rfl⟩ : ∃ k', k = k' + 1 := ⟨k - 1, by omega⟩
  have hlt : i < l.length := by omega
  have h60 := hl.1
  rw [isobathref02_Where.l0, if_pos (by omega), if_pos (by omega), Srch.hour_at hlt, Srch.drift_f hw0 hw1 hh0 hh1 (hH _ (List.getElem_mem hlt)) (hl.2 _ (List.getElem_mem hlt)) hm (by omega), Option.bind_some, wrap_succ hlt (by omega), drop_cons hlt, Srch.go]
  cases lf with
  | true => rw [if_pos rfl]; exact Srch.refWhere_l0 hw0 hw1 hh0 hh1 hl hH r (i + 1) _ _ k (by omega) (Srch.next_length _ _ _ _) (by omega)
  | false => rw [if_neg (by decide), Bool.false_or]; exact Srch.refWhere_l0 hw0 hw1 hh0 hh1 hl hH r (i + 1) _ _ k (by omega) (Srch.next_length _ _ _ _) (by omega)
end
def Srch.start (wd hg : Int) (st : List Int) : List Bool := Srch.marks (List.replicate (wd * hg).toNat false) st
theorem Srch.start_length (wd hg : Int) (st : List Int) : (Srch.start wd hg st).length = (wd * hg).toNat := by
 unfold Srch.start
 rw [Srch.marks_length, List.length_replicate]
theorem Srch.start_list {wd hg : Int} (hw0 : 1 ≤ wd) (hh0 : 1 ≤ hg) {st : List Int} (h : Srch.okL (wd * hg) (-1) st = true) : Srch.list (Srch.start wd hg st) (wd * hg).toNat = st := by
 have h0 : 0 ≤ wd * hg := Int.mul_nonneg (by omega) (by omega)
 obtain ⟨h1, h2⟩ := Srch.okL_spec _ _ h
 exact Srch.list_marks h2 fun x hx => ⟨(h1 x hx).1, by have := (h1 x hx).2.1; omega⟩
def Srch.whr (wd hg : Int) (st : List Int) (l : List S79) : List Int × Bool × Int :=
 if Srch.err wd hg st l = 0 then (Srch.list (Srch.go wd hg l (Srch.start wd hg st, false)).1 (wd * hg).toNat, (Srch.go wd hg l (Srch.start wd hg st, false)).2, 0) else ([], false, Srch.err wd hg st l)
section
variable {wd hg : Int} {st : List Int} {l : List S79}
theorem Srch.where_f (hl : Srch.Few l) (hst : st.length ≤ 700) {k : Nat} (hk : 1200 ≤ k) : mooring_Where.f k wd hg st l = some (Srch.whr wd hg st l) := by
 unfold mooring_Where.f Srch.whr
 rw [Srch.check_f hl hst hk, Option.bind_some]
 by_cases q : Srch.err wd hg st l = 0
 ·obtain ⟨h48, hw0, hw1, hh0, hh1, hS, hH⟩ := Srch.err_ok q
  rw [if_pos q, if_pos q]
  unfold slices_Clone_int_int.f
  rw [if_pos (by omega), Option.bind_some]
  have h := Srch.where_l0 hw0 hw1 hh0 hh1 hl hH l.length 0 (Srch.start wd hg st) false k (by omega) (by omega)
  rw [show ((0 : Nat) : Int) = 0 from rfl, List.drop_zero, Srch.start_list hw0 hh0 hS] at h
  exact h
 rw [if_neg q, if_neg q]
theorem Srch.refWhere_f (hl : Srch.Few l) (hst : st.length ≤ 700) {k : Nat} (hk : 73000 ≤ k) : isobathref02_Where.f k wd hg st l = some (Srch.whr wd hg st l) := by
 unfold isobathref02_Where.f Srch.whr
 rw [Srch.search_f hl hst (by omega), Option.bind_some]
 by_cases q : Srch.err wd hg st l = 0
 ·obtain ⟨h48, hw0, hw1, hh0, hh1, hS, hH⟩ := Srch.err_ok q
  obtain ⟨h1, h2⟩ := Srch.okL_spec _ _ hS
  rw [if_pos q, if_pos q, Srch.ref_marked hw0 hw1 hh0 hh1 (fun x hx => ⟨(h1 x hx).1, (h1 x hx).2.1⟩) (by omega) (by omega), Option.bind_some]
  have h := Srch.refWhere_l0 hw0 hw1 hh0 hh1 hl hH l.length 0 (Srch.start wd hg st) false k (by omega) (Srch.start_length _ _ _) (by omega)
  rw [show ((0 : Nat) : Int) = 0 from rfl, List.drop_zero] at h
  exact h
 rw [if_neg q, if_neg q]
end
section
variable {wd hg : Int} {st : List Int} {l : List S79}
theorem Srch.whr_take (hl : Srch.Few l) (hst : st.length ≤ 700) (q : Srch.err wd hg st l = 0) (i : Nat) : Srch.Few (l.take i) ∧ Srch.whr wd hg st (l.take i) = (Srch.list (Srch.go wd hg (l.take i) (Srch.start wd hg st, false)).1 (wd * hg).toNat, (Srch.go wd hg (l.take i) (Srch.start wd hg st, false)).2, 0) := by
 obtain ⟨h48, hw0, hw1, hh0, hh1, hS, hH⟩ := Srch.err_ok q
 refine ⟨⟨?_, fun h hh => hl.2 h (List.mem_of_mem_take hh)⟩, ?_⟩
 ·rw [zlt]
  have := hl.1
  omega
 unfold Srch.whr
 rw [if_pos (Srch.err_of (by rw [zlt]; omega) hw0 hw1 hh0 hh1 hS fun x hx => hH x (List.mem_of_mem_take hx))]
end
theorem Law2.wide_l0 {l : List S79} (hn : l.length ≤ 60) : ∀ (r i k : Nat), i + r = l.length → r < k → isobathlaw02_wide.l0 k l (i : Int) = some ((l.drop i).any fun h => decide (700 < h.f2.length))
 | 0, i, k, hi, hk => by
  obtain ⟨k, rfl⟩ : ∃ k', k = k' + 1 := ⟨k - 1, by omega⟩
  rw [isobathlaw02_wide.l0, if_neg (by omega), List.drop_eq_nil_of_le (by omega)]
  rfl
 | r + 1, i, k, hi, hk => by
  obtain ⟨k, rfl⟩ : ∃ k', k = k' + 1 := ⟨k - 1, by omega⟩
  have hlt : i < l.length := by omega
  rw [isobathlaw02_wide.l0, if_pos (by omega), if_pos (by omega), Srch.hour_at hlt, wrap_succ hlt (by omega), Law2.wide_l0 hn r (i + 1) k (by omega) (by omega), drop_cons hlt, List.any_cons]
  by_cases q : 700 < l[i].f2.length
  ·rw [if_pos (by omega), zdt q, Bool.true_or]
  rw [if_neg (by omega), zdf q, Bool.false_or]
theorem Law2.wide (st : List Int) (l : List S79) {k : Nat} (hk : 70 ≤ k) : ∃ b, isobathlaw02_wide.f k st l = some b ∧ (b = false → st.length ≤ 700 ∧ Srch.Few l) := by
 unfold isobathlaw02_wide.f
 obtain ⟨k, rfl⟩ : ∃ k', k = k' + 1 := ⟨k - 1, by omega⟩
 have big : isobathlaw02_wide.j0 (k + 1) l true = some true := by
  rw [isobathlaw02_wide.j0, if_pos rfl]
 have small : ∃ b, isobathlaw02_wide.j0 (k + 1) l (decide ((l.length : Int) > 60)) = some b ∧ (b = false → Srch.Few l) := by
  rw [isobathlaw02_wide.j0]
  by_cases q : (l.length : Int) > 60
  ·rw [zdt q, if_pos rfl]
   exact ⟨true, rfl, fun h => by cases h⟩
  rw [zdf q, if_neg (by decide)]
  refine ⟨_, Law2.wide_l0 (by omega) l.length 0 k (by omega) (by omega), fun h => ⟨by omega, fun x hx => ?_⟩⟩
  rw [List.drop_zero, List.any_eq_false] at h
  have := h x hx
  simpa using this
 by_cases q1 : (st.length : Int) > 700
 ·rw [if_pos q1, big]
  exact ⟨true, rfl, fun h => by cases h⟩
 rw [if_neg q1]
 obtain ⟨b, hb, hF⟩ := small
 by_cases q2 : (l.length : Int) > 8
 ·rw [if_pos q2]
  by_cases q3 : (l.length : Int) ≤ 48
  ·rw [if_pos q3, big]
   exact ⟨true, rfl, fun h => by cases h⟩
  rw [if_neg q3]
  exact ⟨b, hb, fun h => ⟨by omega, hF h⟩⟩
 rw [if_neg q2]
 exact ⟨b, hb, fun h => ⟨by omega, hF h⟩⟩
theorem Srch.mark_at' (mk : List Bool) (x : Int) {i : Nat} (hi : i < mk.length) : (Srch.mark mk x)[i]?.getD false = (mk[i]?.getD false || decide (x = (i : Int))) := by
 by_cases h : 0 ≤ x
 ·exact Srch.mark_at mk h hi
 unfold Srch.mark
 rw [if_pos (by omega), zdf (by omega), Bool.or_false]
theorem Srch.marks_at' : ∀ (l : List Int) (mk : List Bool) {i : Nat} (_ : i < mk.length), (Srch.marks mk l)[i]?.getD false = (mk[i]?.getD false || decide ((i : Int) ∈ l))
 | [], mk, i, hi => by
  show mk[i]?.getD false = _
  simp
 | x :: l, mk, i, hi => by
  rw [Srch.marks_cons, Srch.marks_at' l _ (by rw [Srch.mark_length]; exact hi), Srch.mark_at' mk x hi, Bool.or_assoc]
  congr 1
  by_cases q : x = (i : Int)
  ·rw [zdt q, Bool.true_or, zdt (q ▸ List.mem_cons_self)]
  rw [zdf q, Bool.false_or]
  congr 1
  simp [List.mem_cons, Ne.symm q]
theorem Srch.hourMk_at {wd hg e0 e1 n0 n1 : Int} : ∀ (l : List Int) (mk : List Bool) {i : Nat} (_ : i < mk.length), (Srch.hourMk wd hg e0 e1 n0 n1 mk l)[i]?.getD false = (mk[i]?.getD false || l.any fun c => decide ((i : Int) ∈ Srch.reach wd hg c e0 e1 n0 n1))
 | [], mk, i, hi => by
  show mk[i]?.getD false = _
  simp
 | c :: l, mk, i, hi => by
  rw [Srch.hourMk_cons, Srch.hourMk_at l _ (by rw [Srch.marks_length]; exact hi), Srch.marks_at' _ _ hi, Bool.or_assoc, List.any_cons]
theorem Srch.unmark_at : ∀ (l : List Int) (mk : List Bool) (_ : ∀ x ∈ l, 0 ≤ x) {i : Nat} (_ : i < mk.length), (Srch.unmark mk l)[i]?.getD false = (mk[i]?.getD false && !decide ((i : Int) ∈ l))
 | [], mk, _, i, hi => by
  show mk[i]?.getD false = _
  simp
 | x :: l, mk, h, i, hi => by
  have hx := h x List.mem_cons_self
  rw [Srch.unmark_cons, Srch.unmark_at l _ (fun y hy => h y (List.mem_cons_of_mem _ hy)) (by rw [List.length_set]; exact hi)]
  by_cases q : x = (i : Int)
  ·have e : x.toNat = i := by omega
   rw [zdt (show (i : Int) ∈ x :: l from q ▸ List.mem_cons_self), e]
   simp [hi]
  have e : x.toNat ≠ i := by omega
  have e2 : ((i : Int) ∈ x :: l) = ((i : Int) ∈ l) := by simp [List.mem_cons, Ne.symm q]
  simp only [e2]
  simp [e]
theorem Srch.mem_list {mk : List Bool} {m : Nat} {x : Int} : x ∈ Srch.list mk m ↔ ∃ j : Nat, j < m ∧ x = (j : Int) ∧ mk[j]?.getD false = true := by
 unfold Srch.list
 simp only [List.mem_map, List.mem_filter, List.mem_range]
 constructor
 ·rintro ⟨j, ⟨h1, h2⟩, rfl⟩
  exact ⟨j, h1, rfl, h2⟩
 rintro ⟨j, h1, rfl, h2⟩
 exact ⟨j, ⟨h1, h2⟩, rfl⟩
def Srch.le (m : Nat) (a b : List Bool) : Prop := ∀ j : Nat, j < m → a[j]?.getD false = true → b[j]?.getD false = true
theorem Srch.le.list {m : Nat} {a b : List Bool} (h : Srch.le m a b) {x : Int} (hx : x ∈ Srch.list a m) : x ∈ Srch.list b m := by
 obtain ⟨j, h1, h2, h3⟩ := Srch.mem_list.1 hx
 exact Srch.mem_list.2 ⟨j, h1, h2, h j h1 h3⟩
def Srch.More (h h' : S79) : Prop := h'.f0 = h.f0 ∧ h'.f1 = h.f1 ∧ (∀ x ∈ h.f2, x ∈ h'.f2) ∧ (∀ x ∈ h'.f2, 0 ≤ x) ∧ ∀ x ∈ h.f2, 0 ≤ x
theorem Srch.next_at {wd hg : Int} {h : S79} (h0 : ∀ x ∈ h.f2, 0 ≤ x) (mk : List Bool) {j : Nat} (hj : j < (wd * hg).toNat) : (Srch.next wd hg mk h)[j]?.getD false = (((Srch.list mk (wd * hg).toNat).any fun c => decide ((j : Int) ∈ Srch.reach wd hg c h.f0.f0 h.f0.f1 h.f1.f0 h.f1.f1)) && !decide ((j : Int) ∈ h.f2)) := by
 unfold Srch.next
 have e : (List.replicate (wd * hg).toNat false)[j]?.getD false = false := by
  rw [List.getElem?_replicate]
  split <;> rfl
 rw [Srch.unmark_at _ _ h0 (by rw [Srch.hourMk_length, List.length_replicate]; exact hj), Srch.hourMk_at _ _ (by rw [List.length_replicate]; exact hj), e, Bool.false_or]
theorem Srch.More.next {wd hg : Int} {h h' : S79} (hh : Srch.More h h') {a b : List Bool} (hab : Srch.le (wd * hg).toNat a b) : Srch.le (wd * hg).toNat (Srch.next wd hg a h') (Srch.next wd hg b h) := by
 obtain ⟨e0, e1, hs, p1, p0⟩ := hh
 intro j hj hx
 rw [Srch.next_at p1 a hj, e0, e1] at hx
 rw [Srch.next_at p0 b hj]
 simp only [Bool.and_eq_true, List.any_eq_true, Bool.not_eq_true', decide_eq_false_iff_not, decide_eq_true_eq] at hx ⊢
 obtain ⟨⟨c, hc, hr⟩, hn⟩ := hx
 exact ⟨⟨c, hab.list hc, hr⟩, fun hm => hn (hs _ hm)⟩
theorem Srch.More.lost {wd hg : Int} {h h' : S79} (hh : Srch.More h h') {a b : List Bool} (hab : Srch.le (wd * hg).toNat a b) (hx : Srch.lost wd hg a h' = true) : Srch.lost wd hg b h = true := by
 obtain ⟨e0, e1, _⟩ := hh
 unfold Srch.lost Srch.hourLf at hx ⊢
 rw [e0, e1] at hx
 rw [List.any_eq_true] at hx ⊢
 obtain ⟨c, hc, hr⟩ := hx
 exact ⟨c, hab.list hc, hr⟩
theorem Srch.More.refl {h : S79} (h0 : ∀ x ∈ h.f2, 0 ≤ x) : Srch.More h h := ⟨rfl, rfl, fun _ hx => hx, h0, h0⟩
inductive Srch.Mores : List S79 → List S79 → Prop where
 | nil : Srch.Mores [] []
 | cons {h h' : S79} {l l' : List S79} : Srch.More h h' → Srch.Mores l l' → Srch.Mores (h :: l) (h' :: l')
theorem Srch.Mores.go {wd hg : Int} {l l' : List S79} (hl : Srch.Mores l l') : ∀ {p q : List Bool × Bool}, Srch.le (wd * hg).toNat p.1 q.1 → Srch.le (wd * hg).toNat (Srch.go wd hg l' p).1 (Srch.go wd hg l q).1 := by
 induction hl with
 | nil => exact fun h => h
 | cons hh _ ih => exact fun h => ih (hh.next h)
theorem Srch.Mores.self : ∀ {l : List S79}, (∀ h ∈ l, ∀ x ∈ h.f2, 0 ≤ x) → Srch.Mores l l
 | [], _ => .nil
 | h :: l, H => .cons (Srch.More.refl (H h List.mem_cons_self)) (Srch.Mores.self fun h' hh => H h' (List.mem_cons_of_mem _ hh))
theorem Srch.Mores.set : ∀ {l : List S79} {i : Nat} (_ : i < l.length) {h' : S79}, (∀ h ∈ l, ∀ x ∈ h.f2, 0 ≤ x) → Srch.More l[i] h' → Srch.Mores l (l.set i h')
 | h :: l, 0, _, h', H, hh => .cons hh (Srch.Mores.self fun h' hh => H h' (List.mem_cons_of_mem _ hh))
 | h :: l, i + 1, hi, h', H, hh => .cons (Srch.More.refl (H h List.mem_cons_self)) (Srch.Mores.set (Nat.lt_of_succ_lt_succ hi) (fun h' hh => H h' (List.mem_cons_of_mem _ hh)) hh)
theorem Srch.mem_colR {wd hg c x : Int} : ∀ (r : Nat) (y0 y : Int), y0 ≤ y → y < y0 + (r : Int) → Srch.to wd hg c x y ∈ Srch.colR wd hg c x r y0
 | 0, y0, y, h1, h2 => by omega
 | r + 1, y0, y, h1, h2 => by
  rw [Srch.colR, List.mem_cons]
  by_cases q : y = y0
  ·exact .inl (by rw [q])
  exact .inr (Srch.mem_colR r (y0 + 1) y (by omega) (by omega))
theorem Srch.mem_colsR {wd hg c n0 x y : Int} {m : Nat} (h3 : n0 ≤ y) (h4 : y < n0 + (m : Int)) : ∀ (r : Nat) (x0 : Int), x0 ≤ x → x < x0 + (r : Int) → Srch.to wd hg c x y ∈ Srch.colsR wd hg c n0 m r x0
 | 0, x0, h1, h2 => by omega
 | r + 1, x0, h1, h2 => by
  rw [Srch.colsR, List.mem_append]
  by_cases q : x = x0
  ·subst q
   exact .inl (Srch.mem_colR m n0 y h3 h4)
  exact .inr (Srch.mem_colsR h3 h4 r (x0 + 1) (by omega) (by omega))
theorem Srch.mem_reach {wd hg c e0 e1 n0 n1 x y : Int} (h1 : e0 ≤ x) (h2 : x ≤ e1) (h3 : n0 ≤ y) (h4 : y ≤ n1) : Srch.to wd hg c x y ∈ Srch.reach wd hg c e0 e1 n0 n1 := by
 rw [Srch.reach_colsR]
 exact Srch.mem_colsR h3 (by unfold Srch.many; omega) _ e0 h1 (by unfold Srch.many; omega)
section
variable {wd hg : Int} {st : List Int} {l : List S79} {sp : List S80}
def Law2.waysFin (wd hg : Int) (st : List Int) (l : List S79) (sp : List S80) (c n : Int) (k : Nat) : Option Bool :=
 if n = (l.length : Int) then ((isobathlaw02_fine.f k).bind fun t122 => (some t122)) else (if 0 ≤ n then (if n < (l.length : Int) then (if n < (sp.length : Int) then (isobathlaw02_MooringWays.j3 k st l sp c n wd hg ((rd_T79 l n).f0.f0) ((rd_T79 l n).f0.f1) ((rd_T79 l n).f1.f0) ((rd_T79 l n).f1.f1) ((rd_T79 l n).f2) ((rd_T80 sp n).f0) ((rd_T80 sp n).f1)) else (isobathlaw02_MooringWays.j3 k st l sp c n wd hg ((rd_T79 l n).f0.f0) ((rd_T79 l n).f0.f1) ((rd_T79 l n).f1.f0) ((rd_T79 l n).f1.f1) ((rd_T79 l n).f2) 0 0)) else (none)) else (none))
theorem Law2.waysL1 {c n : Int} {xs : List Int} (hx : xs.length ≤ 1000) {N : Nat} (J : ∀ k, N ≤ k → Law2.waysFin wd hg st l sp c n k = some true) : ∀ (r i : Nat) (found : Bool) (k : Nat), i + r = xs.length → (found = true ∨ c ∈ xs.drop i) → N ≤ k →
  isobathlaw02_MooringWays.l1 (k + r + 1) st l sp c n xs found (i : Int) wd hg = some true
 | 0, i, found, k, hi, hf, hk => by
  have hf2 : found = true := by
   rcases hf with h | h
   ·exact h
   rw [List.drop_eq_nil_of_le (by omega)] at h
   cases h
  rw [isobathlaw02_MooringWays.l1, if_neg (by omega), if_pos hf2]
  exact J k hk
 | r + 1, i, found, k, hi, hf, hk => by
  have hlt : i < xs.length := by omega
  rw [show k + (r + 1) + 1 = (k + r + 1) + 1 by omega, isobathlaw02_MooringWays.l1, if_pos (by omega), wrap_succ hlt (by omega)]
  by_cases q : found = true
  ·rw [if_pos q]
   exact Law2.waysL1 hx J r (i + 1) true k (by omega) (.inl rfl) hk
  rw [if_neg q, if_pos (Int.natCast_nonneg _), rd_nat hlt]
  refine Law2.waysL1 hx J r (i + 1) _ k (by omega) ?_ hk
  rcases hf with h | h
  ·exact absurd h q
  rw [drop_cons hlt, List.mem_cons] at h
  rcases h with h | h
  ·exact .inl (beq_iff_eq.mpr h.symm)
  exact .inr h
theorem Law2.waysL2 {c n d0 d1 d2 d3 : Int} {se : List Int} (hs : se.length ≤ 1000) {N : Nat} (hN : 100 ≤ N) (J : ∀ k, N ≤ k → c ∉ se → isobathlaw02_MooringWays.l0 k st l sp c (wrap64 (n + 1)) wd hg = some true) : ∀ (r j : Nat) (k : Nat), j + r = se.length → (∀ i, i < j → ∀ h : i < se.length, se[i] ≠ c) → N ≤ k →
  isobathlaw02_MooringWays.l2 (k + r + 1) st l sp c n (j : Int) wd hg d0 d1 d2 d3 se = some true
 | 0, j, k, hj, hb, hk => by
  rw [isobathlaw02_MooringWays.l2, if_neg (by omega)]
  refine J k hk fun hm => ?_
  obtain ⟨i, hi, he⟩ := List.getElem_of_mem hm
  exact hb i (by omega) hi he
 | r + 1, j, k, hj, hb, hk => by
  have hlt : j < se.length := by omega
  rw [show k + (r + 1) + 1 = (k + r + 1) + 1 by omega, isobathlaw02_MooringWays.l2, if_pos (by omega), if_pos (Int.natCast_nonneg _), rd_nat hlt, wrap_succ hlt (by omega)]
  by_cases q : se[j] = c
  ·rw [if_pos q, Law2.fine (by omega), Option.bind_some]
  rw [if_neg q]
  refine Law2.waysL2 hs hN J r (j + 1) k (by omega) (fun i hi h => ?_) hk
  rcases Nat.lt_or_ge i j with h1 | h1
  ·exact hb i h1 h
  have : i = j := by omega
  subst this
  exact q
theorem Law2.waysJ3 {c s0 s1 : Int} {n : Nat} (hl : Srch.Few l) (hst : st.length ≤ 700) (q : Srch.err wd hg st l = 0) (hn : n < l.length) {mk : List Bool} {lf : Bool} (hgo : Srch.go wd hg (l.take n) (Srch.start wd hg st, false) = (mk, lf)) (hc : c ∈ Srch.list mk (wd * hg).toNat) (h0 : 0 ≤ s0 ∧ s0 < 256) (h1 : 0 ≤ s1 ∧ s1 < 256) {N : Nat} (hN : 2000 ≤ N)
  (J : ∀ (k : Nat) (c' : Int), N ≤ k → c' ∈ Srch.list (Srch.next wd hg mk l[n]) (wd * hg).toNat → isobathlaw02_MooringWays.l0 k st l sp c' ((n + 1 : Nat) : Int) wd hg = some true) (k : Nat) (hk : N + 1000 ≤ k) :
  isobathlaw02_MooringWays.j3 k st l sp c (n : Int) wd hg l[n].f0.f0 l[n].f0.f1 l[n].f1.f0 l[n].f1.f1 l[n].f2 s0 s1 = some true := by
 obtain ⟨k, rfl⟩ : ∃ k', k = k' + 1 + 1 := ⟨k - 2, by omega⟩
 obtain ⟨h48, hw0, hw1, hh0, hh1, hS, hH⟩ := Srch.err_ok q
 have hA := Srch.area_le hw0 hw1 hh0 hh1
 have hpos : 0 < wd * hg := Int.mul_pos (by omega) (by omega)
 have hHn := hH _ (List.getElem_mem hn)
 have hs7 := hl.2 _ (List.getElem_mem hn)
 simp only [Srch.okH, Srch.okS, Bool.and_eq_true, decide_eq_true_eq] at hHn
 obtain ⟨⟨⟨⟨a1, a2⟩, a3⟩, ⟨b1, b2⟩, b3⟩, hse⟩ := hHn
 have hcr := Srch.list_mem hc
 have hc0 : 0 ≤ c := hcr.1
 have hc1 : c < wd * hg := by omega
 obtain ⟨E0, hE0⟩ : ∃ E, l[n].f0.f0 = E := ⟨_, rfl⟩
 obtain ⟨E1, hE1⟩ : ∃ E, l[n].f0.f1 = E := ⟨_, rfl⟩
 obtain ⟨N0, hN0⟩ : ∃ E, l[n].f1.f0 = E := ⟨_, rfl⟩
 obtain ⟨N1, hN1⟩ : ∃ E, l[n].f1.f1 = E := ⟨_, rfl⟩
 rw [hE0] at a1 a2
 rw [hE1] at a1 a3
 rw [hN0] at b1 b2
 rw [hN1] at b1 b3
 rw [hE0, hE1, hN0, hN1]
 have g1 := Int.emod_nonneg c (show wd ≠ 0 by omega)
 have g2 := Int.emod_lt_of_pos c (show 0 < wd by omega)
 have g3 : 0 ≤ c / wd := Int.ediv_nonneg hc0 (by omega)
 have g4 : c / wd ≤ c := Int.ediv_le_self _ hc0
 have w1 : wrap64 (E1 - E0) = E1 - E0 := wrap_id (by omega) (by omega)
 have w2 : wrap64 (E1 - E0 + 1) = E1 - E0 + 1 := wrap_id (by omega) (by omega)
 have w3 : wrap64 (N1 - N0) = N1 - N0 := wrap_id (by omega) (by omega)
 have w4 : wrap64 (N1 - N0 + 1) = N1 - N0 + 1 := wrap_id (by omega) (by omega)
 have w5 : wrap64 s0 = s0 := wrap_id (by omega) (by omega)
 have w6 : wrap64 s1 = s1 := wrap_id (by omega) (by omega)
 have m1 := Int.emod_nonneg s0 (show E1 - E0 + 1 ≠ 0 by omega)
 have m2 := Int.emod_lt_of_pos s0 (show 0 < E1 - E0 + 1 by omega)
 have m3 := Int.emod_nonneg s1 (show N1 - N0 + 1 ≠ 0 by omega)
 have m4 := Int.emod_lt_of_pos s1 (show 0 < N1 - N0 + 1 by omega)
 obtain ⟨P, hP⟩ : ∃ P, s0 % (E1 - E0 + 1) = P := ⟨_, rfl⟩
 obtain ⟨R, hR⟩ : ∃ R, s1 % (N1 - N0 + 1) = R := ⟨_, rfl⟩
 rw [hP] at m1 m2
 rw [hR] at m3 m4
 have w7 : wrap64 (c % wd + E0) = c % wd + E0 := wrap_id (by omega) (by omega)
 have w8 : wrap64 (c % wd + E0 + P) = c % wd + E0 + P := wrap_id (by omega) (by omega)
 have w9 : wrap64 (c / wd) = c / wd := wrap_id (by omega) (by omega)
 have w10 : wrap64 (c / wd + N0) = c / wd + N0 := wrap_id (by omega) (by omega)
 have w11 : wrap64 (c / wd + N0 + R) = c / wd + N0 + R := wrap_id (by omega) (by omega)
 rw [isobathlaw02_MooringWays.j3, if_neg (show ¬ wd = 0 by omega), w1, w2, w3, w4, if_neg (show ¬ E1 - E0 + 1 = 0 by omega), if_neg (show ¬ N1 - N0 + 1 = 0 by omega), w5, w6, Int.tmod_eq_emod_of_nonneg hc0, Int.tdiv_eq_ediv_of_nonneg hc0, Int.tmod_eq_emod_of_nonneg h0.1, Int.tmod_eq_emod_of_nonneg h1.1, hP, hR, w7, w8, w9, w10, w11]
 obtain ⟨X, hX⟩ : ∃ X, c % wd + E0 + P = X := ⟨_, rfl⟩
 obtain ⟨Y, hY⟩ : ∃ Y, c / wd + N0 + R = Y := ⟨_, rfl⟩
 rw [hX, hY]
 have hmem : Srch.to wd hg c (E0 + P) (N0 + R) ∈ Srch.reach wd hg c E0 E1 N0 N1 := Srch.mem_reach (by omega) (by omega) (by omega) (by omega)
 have hto : Srch.to wd hg c (E0 + P) (N0 + R) = if X < 0 ∨ Y < 0 ∨ wd ≤ X ∨ hg ≤ Y then -1 else Y * wd + X := by
  unfold Srch.to
  rw [show c % wd + (E0 + P) = X by omega, show c / wd + (N0 + R) = Y by omega]
 have hgo2 : Srch.go wd hg (l.take (n + 1)) (Srch.start wd hg st, false) = (Srch.next wd hg mk l[n], lf || Srch.lost wd hg mk l[n]) := by
  rw [take_snoc hn, Srch.go_append, hgo]
  rfl
 have h60 := hl.1
 -- out of the area
 have OUT : X < 0 ∨ Y < 0 ∨ wd ≤ X ∨ hg ≤ Y → isobathlaw02_MooringWays.j4 (k + 1) st l sp (n : Int) X Y true wd hg E0 E1 N0 N1 l[n].f2 = some true := fun hq => by
  rw [if_pos hq] at hto
  rw [hto] at hmem
  have hlost : Srch.lost wd hg mk l[n] = true := by
   unfold Srch.lost Srch.hourLf
   rw [List.any_eq_true]
   refine ⟨c, hc, ?_⟩
   unfold Srch.out
   rw [List.any_eq_true, hE0, hE1, hN0, hN1]
   exact ⟨-1, hmem, by decide⟩
  obtain ⟨hF, hW⟩ := Srch.whr_take hl hst q (n + 1)
  rw [hgo2, hlost, Bool.or_true] at hW
  rw [isobathlaw02_MooringWays.j4, if_pos rfl, wrap_succ hn (by omega), if_pos (Int.natCast_nonneg _), if_pos (by omega), Int.toNat_natCast, Srch.where_f hF hst (by omega), Option.bind_some, hW, if_pos rfl, if_pos rfl, Law2.fine (by omega), Option.bind_some]
 by_cases p1 : X < 0
 ·rw [if_pos p1]
  exact OUT (.inl p1)
 rw [if_neg p1]
 by_cases p2 : X ≥ wd
 ·rw [if_pos p2]
  exact OUT (.inr (.inr (.inl p2)))
 rw [if_neg p2]
 by_cases p3 : Y < 0
 ·rw [if_pos p3]
  exact OUT (.inr (.inl p3))
 rw [if_neg p3]
 by_cases p4 : Y ≥ hg
 ·rw [zdt p4]
  exact OUT (.inr (.inr (.inr p4)))
 rw [zdf p4, isobathlaw02_MooringWays.j4, if_neg (by decide)]
 have y1 : 0 ≤ Y * wd := Int.mul_nonneg (by omega) (by omega)
 have y2 : Y * wd ≤ (hg - 1) * wd := Int.mul_le_mul_of_nonneg_right (by omega) (by omega)
 rw [Int.sub_mul, Int.one_mul, Int.mul_comm hg wd] at y2
 have w12 : wrap64 (Y * wd) = Y * wd := wrap_id (by omega) (by omega)
 have w13 : wrap64 (Y * wd + X) = Y * wd + X := wrap_id (by omega) (by omega)
 rw [w12, w13]
 rw [if_neg (by omega)] at hto
 rw [hto] at hmem
 obtain ⟨k, rfl⟩ : ∃ k', k = k' + l[n].f2.length + 1 := ⟨k - l[n].f2.length - 1, by omega⟩
 refine Law2.waysL2 (by omega) (N := N) (by omega) (fun k hk hns => ?_) l[n].f2.length 0 k (by omega) (fun i hi => by omega) (by omega)
 rw [wrap_succ hn (by omega)]
 refine J k _ hk ?_
 have hnn : ∀ x ∈ l[n].f2, 0 ≤ x := fun x hx => ((Srch.okL_spec _ _ hse).1 x hx).1
 refine Srch.mem_list.2 ⟨(Y * wd + X).toNat, by omega, by omega, ?_⟩
 rw [Srch.next_at hnn mk (by omega), show (((Y * wd + X).toNat : Nat) : Int) = Y * wd + X by omega]
 simp only [Bool.and_eq_true, List.any_eq_true, decide_eq_true_eq, Bool.not_eq_true', decide_eq_false_iff_not]
 rw [hE0, hE1, hN0, hN1]
 exact ⟨⟨c, hc, hmem⟩, hns⟩
theorem Law2.waysL0 (hl : Srch.Few l) (hst : st.length ≤ 700) (q : Srch.err wd hg st l = 0) (hsp : ∀ x ∈ sp, (0 ≤ x.f0 ∧ x.f0 < 256) ∧ (0 ≤ x.f1 ∧ x.f1 < 256)) : ∀ (r n : Nat) (c : Int) (mk : List Bool) (lf : Bool) (k : Nat), n + r = l.length → Srch.go wd hg (l.take n) (Srch.start wd hg st, false) = (mk, lf) → c ∈ Srch.list mk (wd * hg).toNat → 3000 + 3000 * r ≤ k →
  isobathlaw02_MooringWays.l0 k st l sp c (n : Int) wd hg = some true := by
 intro r
 induction r with
 | zero =>
  intro n c mk lf k hn hgo hc hk
  obtain ⟨h48, hw0, hw1, hh0, hh1, hS, hH⟩ := Srch.err_ok q
  have hA := Srch.area_le hw0 hw1 hh0 hh1
  obtain ⟨hF, hW⟩ := Srch.whr_take hl hst q n
  rw [hgo] at hW
  have hll := Srch.list_le mk (wd * hg).toNat
  obtain ⟨k, rfl⟩ : ∃ k', k = (k' + (Srch.list mk (wd * hg).toNat).length + 1) + 1 := ⟨k - (Srch.list mk (wd * hg).toNat).length - 2, by omega⟩
  rw [isobathlaw02_MooringWays.l0, if_pos (by omega), if_pos (Int.natCast_nonneg _), Int.toNat_natCast, Srch.where_f hF hst (by omega), Option.bind_some, hW, if_pos rfl]
  dsimp only
  refine Law2.waysL1 (by omega) (N := 100) (fun k hk => ?_) _ 0 false k (by omega) (.inr (by rw [List.drop_zero]; exact hc)) (by omega)
  unfold Law2.waysFin
  rw [if_pos (by omega), Law2.fine (by omega), Option.bind_some]
 | succ r ih =>
  intro n c mk lf k hn hgo hc hk
  obtain ⟨M, hM⟩ : ∃ M, 3000 + 3000 * r = M := ⟨_, rfl⟩
  have hM0 : 3000 ≤ M := by rw [← hM]; exact Nat.le_add_right _ _
  replace hk : M + 3000 ≤ k := by rw [← hM, Nat.add_assoc, ← Nat.mul_succ]; exact hk
  rw [hM] at ih
  clear hM
  obtain ⟨h48, hw0, hw1, hh0, hh1, hS, hH⟩ := Srch.err_ok q
  have hA := Srch.area_le hw0 hw1 hh0 hh1
  obtain ⟨hF, hW⟩ := Srch.whr_take hl hst q n
  rw [hgo] at hW
  have hlt : n < l.length := by omega
  have hll := Srch.list_le mk (wd * hg).toNat
  have hgo2 : Srch.go wd hg (l.take (n + 1)) (Srch.start wd hg st, false) = (Srch.next wd hg mk l[n], lf || Srch.lost wd hg mk l[n]) := by
   rw [take_snoc hlt, Srch.go_append, hgo]
   rfl
  obtain ⟨k, rfl⟩ : ∃ k', k = (k' + (Srch.list mk (wd * hg).toNat).length + 1) + 1 := ⟨k - (Srch.list mk (wd * hg).toNat).length - 2, by omega⟩
  rw [isobathlaw02_MooringWays.l0, if_pos (by omega), if_pos (Int.natCast_nonneg _), Int.toNat_natCast, Srch.where_f hF hst (by omega), Option.bind_some, hW, if_pos rfl]
  dsimp only
  refine Law2.waysL1 (by omega) (N := M + 1000) (fun k hk => ?_) _ 0 false k (by omega) (.inr (by rw [List.drop_zero]; exact hc)) (by omega)
  have J : ∀ (k : Nat) (c' : Int), M ≤ k → c' ∈ Srch.list (Srch.next wd hg mk l[n]) (wd * hg).toNat → isobathlaw02_MooringWays.l0 k st l sp c' ((n + 1 : Nat) : Int) wd hg = some true := fun k c' hk hm => ih (n + 1) c' _ _ k (by omega) hgo2 hm hk
  unfold Law2.waysFin
  rw [if_neg (by omega), if_pos (Int.natCast_nonneg _), if_pos (by omega), Srch.hour_at hlt]
  by_cases qs : (n : Int) < (sp.length : Int)
  ·rw [if_pos qs]
   have hns : n < sp.length := by omega
   have e1 : rd_T80 sp (n : Int) = sp[n] := by
    unfold rd_T80
    rw [Int.toNat_natCast]
    simp [List.getD, hns]
   have h2 := hsp _ (List.getElem_mem hns)
   rw [e1]
   exact Law2.waysJ3 hl hst q hlt hgo hc h2.1 h2.2 (by omega) J k (by omega)
  rw [if_neg qs]
  exact Law2.waysJ3 hl hst q hlt hgo hc ⟨by omega, by omega⟩ ⟨by omega, by omega⟩ (by omega) J k (by omega)
end
theorem Law2.ways (wd hg : Int) (st : List Int) (l : List S79) (x3 : Int) (sp : List S80) (h3 : 0 ≤ x3 ∧ x3 < 65536) (hsp : ∀ x ∈ sp, (0 ≤ x.f0 ∧ x.f0 < 256) ∧ (0 ≤ x.f1 ∧ x.f1 < 256)) : isobathlaw02_MooringWays.f 200000 wd hg st l x3 sp = some true := by
 unfold isobathlaw02_MooringWays.f
 obtain ⟨b, hb, hF⟩ := Law2.wide st l (show 70 ≤ 200000 by omega)
 have fine : ∀ k, isobathlaw02_MooringWays.j0 (k + 61) st l x3 sp true wd hg = some true := fun k => by
  rw [isobathlaw02_MooringWays.j0, if_pos rfl, Law2.fine (by omega), Option.bind_some]
 rw [hb, Option.bind_some]
 cases b with
 | true => rw [if_pos rfl]; exact fine 199939
 | false =>
  obtain ⟨hst, hl⟩ := hF rfl
  rw [if_neg (by decide)]
  by_cases q8 : (l.length : Int) > 8
  ·rw [if_pos q8]
   exact fine 199939
  rw [if_neg q8]
  by_cases q0 : st.length = 0
  ·have e1 : ((st.length : Int) == 0) = true := beq_iff_eq.mpr (by omega)
   rw [e1]
   exact fine 199939
  have e1 : ((st.length : Int) == 0) = false := beq_eq_false_iff_ne.mpr (by omega)
  rw [e1, isobathlaw02_MooringWays.j0, if_neg (by decide), Srch.refWhere_f hl hst (by omega), Option.bind_some]
  by_cases q : Srch.err wd hg st l = 0
  rotate_left
  ·have e1 : ¬ (Srch.whr wd hg st l).2.2 = 0 := by
    unfold Srch.whr
    rw [if_neg q]
    exact q
   rw [if_neg e1, Law2.fine (by omega), Option.bind_some]
  have e2 : (Srch.whr wd hg st l).2.2 = 0 := by
   unfold Srch.whr
   rw [if_pos q]
  have q1 : ¬ (st.length : Int) = 0 := by omega
  rw [if_pos e2, if_neg q1, wrap_id (n := x3) (by omega) (by omega), Int.tmod_eq_emod_of_nonneg h3.1]
  have i1 := Int.emod_nonneg x3 q1
  have i2 := Int.emod_lt_of_pos x3 (show 0 < (st.length : Int) by omega)
  obtain ⟨i, hi⟩ : ∃ i : Nat, x3 % (st.length : Int) = (i : Int) := ⟨(x3 % (st.length : Int)).toNat, by omega⟩
  rw [hi] at i1 i2 ⊢
  have hil : i < st.length := by omega
  obtain ⟨h48, hw0, hw1, hh0, hh1, hS, hH⟩ := Srch.err_ok q
  rw [if_pos i1, if_pos i2, rd_nat hil]
  have hmem : st[i] ∈ Srch.list (Srch.start wd hg st) (wd * hg).toNat := by
   rw [Srch.start_list hw0 hh0 hS]
   exact List.getElem_mem hil
  have h := Law2.waysL0 (sp := sp) hl hst q hsp l.length 0 st[i] (Srch.start wd hg st) false 199999 (by omega) rfl hmem (by have := hl.1; omega)
  exact h
theorem Law2.waysU16 {n : Int} (h : (Lit.int .u16 n).wf = true) : 0 ≤ n ∧ n < 65536 := by
 have e : (decide ((0 : Int) ≤ n) && decide (n ≤ 65535)) = true := h
 simp at e
 omega
theorem Law2.waysU8 {n : Int} (h : (Lit.int .u8 n).wf = true) : 0 ≤ n ∧ n < 256 := by
 have e : (decide ((0 : Int) ≤ n) && decide (n ≤ 255)) = true := h
 simp at e
 omega
theorem mooringWays_holds : Rows.MooringWaysSaid := mooringWays.proved fun a st l x3 sp _ _ _ h3 h4 => ⟨200000, Law2.ways a.f0 a.f1 st l x3 sp (Law2.waysU16 h3) fun x hx => ⟨Law2.waysU8 (h4.2 x hx).1, Law2.waysU8 (h4.2 x hx).2⟩⟩
#print axioms mooringWays_holds
end Go.Proofs.Ytebcmhajbjkojaa.P
