/- For all areas, start cells and hours, Where and Found return what the document says: the search programs, walked once each, and the reference are told by one closed form. Part 6 of 6. -/
-- Put together by wip/tools/shake.py, a program of this work: out of the words that the kit's print tool (print.sh) writes for a claim and what wip/tools/xprint.py prints, those that this claim reaches, and this work's own texts.
import Derived.KernelRfl
import Derived.Test.YtebcmhajbjkojaaKMooringSearches4
namespace Go.Proofs.Ytebcmhajbjkojaa.P
open Go.RowKit Go.Proofs.YtebcmhajbjkojaaW.PrintWords Go.Proofs.YtebcmhajbjkojaaW.PrintLast Go.Proofs.YtebcmhajbjkojaaW.PrintMore
attribute [local go_sem] max2_int min2_int max_two min_two max_three min_three max_four min_four   -- for this text's walks alone
set_option linter.unusedVariables false
set_option linter.unusedSimpArgs false
mutual
def isobathref02_Answers.j0 : Nat → List Int → Int → Int → Bool → Option (List Int × Int)
  | 0, _, _, _, _ => none
  | k + 1, x0, x1, x2, x26 => if x26 = true then (some (([] : List Int), 3)) else (isobathref02_Answers.l0 k x0 x1 x2 ([] : List Int) 0)
def isobathref02_Answers.l0 : Nat → List Int → Int → Int → List Int → Int → Option (List Int × Int)
  | 0, _, _, _, _, _ => none
  | k + 1, x0, x1, x2, x9, x10 => if x10 < (x0.length : Int) then (if 0 ≤ x10 then ((isobathref02_Apart.f k (rd x0 x10) x1).bind fun t104 => (if t104 ≤ x2 then (if x9.length < 17592186044416 then (isobathref02_Answers.l0 k x0 x1 x2 (x9 ++ [x10]) (wrap64 (x10 + 1))) else (none)) else (isobathref02_Answers.l0 k x0 x1 x2 x9 (wrap64 (x10 + 1))))) else (none)) else (some (x9, 0))
end
end Go.Proofs.Ytebcmhajbjkojaa.P
namespace Go.Proofs.Ytebcmhajbjkojaa.P
open Go.RowKit Go.Proofs.YtebcmhajbjkojaaW.PrintWords Go.Proofs.YtebcmhajbjkojaaW.PrintLast Go.Proofs.YtebcmhajbjkojaaW.PrintMore
attribute [local go_sem] max2_int min2_int max_two min_two max_three min_three max_four min_four   -- for this text's walks alone
set_option linter.unusedVariables false
set_option linter.unusedSimpArgs false
mutual
def isobathref02_Spacing.l0 : Nat → List Int → Int → Int → Option (Int × Int)
  | 0, _, _, _ => none
  | k + 1, x0, x5, x6 => if x6 < (x0.length : Int) then (isobathref02_Spacing.l1 k x0 x5 x6 0) else (some (x5, 0))
def isobathref02_Spacing.l1 : Nat → List Int → Int → Int → Int → Option (Int × Int)
  | 0, _, _, _, _ => none
  | k + 1, x0, x5, x6, x7 => if x7 < x6 then (if 0 ≤ x6 then (if x6 < (x0.length : Int) then (if 0 ≤ x7 then (if x7 < (x0.length : Int) then ((isobathref02_Apart.f k (rd x0 x6) (rd x0 x7)).bind fun t104 => (isobathref02_Spacing.l1 k x0 (mn x5 t104) x6 (wrap64 (x7 + 1)))) else (none)) else (none)) else (none)) else (none)) else (isobathref02_Spacing.l0 k x0 x5 (wrap64 (x6 + 1)))
end
end Go.Proofs.Ytebcmhajbjkojaa.P
namespace Go.Proofs.Ytebcmhajbjkojaa.P
open Go.RowKit Go.Proofs.YtebcmhajbjkojaaW.PrintWords Go.Proofs.YtebcmhajbjkojaaW.PrintLast Go.Proofs.YtebcmhajbjkojaaW.PrintMore
attribute [local go_sem] max2_int min2_int max_two min_two max_three min_three max_four min_four   -- for this text's walks alone
set_option linter.unusedVariables false
set_option linter.unusedSimpArgs false
mutual
def mooring_Answers.j0 : Nat → List Int → Int → Int → Bool → Option (List Int × Int)
  | 0, _, _, _, _ => none
  | k + 1, x0, x1, x2, x27 => if x27 = true then (some (([] : List Int), 3)) else (mooring_Answers.l0 k x1 x2 ([] : List Int) x0 (x0.length : Int) 0)
def mooring_Answers.l0 : Nat → Int → Int → List Int → List Int → Int → Int → Option (List Int × Int)
  | 0, _, _, _, _, _, _ => none
  | k + 1, x1, x2, x9, x28, x29, x30 => if x30 < x29 then (if 0 ≤ x30 then (if x30 < (x28.length : Int) then ((mooring_apart.f k (rd x28 x30) x1).bind fun t104 => (if t104 ≤ x2 then (if x9.length < 17592186044416 then (mooring_Answers.l0 k x1 x2 (x9 ++ [x30]) x28 x29 (wrap64 (x30 + 1))) else (none)) else (mooring_Answers.l0 k x1 x2 x9 x28 x29 (wrap64 (x30 + 1))))) else (none)) else (none)) else (some (x9, 0))
end
end Go.Proofs.Ytebcmhajbjkojaa.P
namespace Go.Proofs.Ytebcmhajbjkojaa.P
open Go.RowKit Go.Proofs.YtebcmhajbjkojaaW.PrintWords Go.Proofs.YtebcmhajbjkojaaW.PrintLast Go.Proofs.YtebcmhajbjkojaaW.PrintMore
attribute [local go_sem] max2_int min2_int max_two min_two max_three min_three max_four min_four   -- for this text's walks alone
set_option linter.unusedVariables false
set_option linter.unusedSimpArgs false
def Cod.okB (x : Int) : Bool := decide (0 ≤ x) && decide (x < 65536)
def Cod.err (l : List Int) : Int := if 64 < l.length then 6 else if l.all Cod.okB = true then 0 else 2
theorem Cod.okB_iff {x : Int} : Cod.okB x = true ↔ 0 ≤ x ∧ x < 65536 := by
  unfold Cod.okB
  simp
theorem Cod.isCode (x : Int) : mooring_isCode.f x = some (Cod.okB x) := by
  unfold mooring_isCode.f Cod.okB
  by_cases h : 0 ≤ x
  · rw [if_pos h, decide_eq_true h, Bool.true_and]
  · rw [if_neg h, decide_eq_false h, Bool.false_and]
theorem Cod.index_l0 {l : List Int} (hl : l.length ≤ 64) (n : Nat) : ∀ (k i : Nat), i + n = l.length → n < k →
    ∃ r, slices_IndexFunc_int_int_mooring_checkCodes_1.l0 k l (l.length : Int) (i : Int) = some r ∧ (decide (r ≥ 0) = !((l.drop i).all Cod.okB)) := by
  induction n with
  | zero =>
    intro k i hi hk
    obtain ⟨k, rfl⟩ : ∃ m, k = m + 1 := ⟨k - 1, by omega⟩
    simp only [slices_IndexFunc_int_int_mooring_checkCodes_1.l0]
    rw [if_neg (by omega), List.drop_of_length_le (by omega)]
    exact ⟨_, rfl, rfl⟩
  | succ n ih =>
    intro k i hi hk
    obtain ⟨k, rfl⟩ : ∃ m, k = m + 1 := ⟨k - 1, by omega⟩
    have hlt : i < l.length := by omega
    simp only [slices_IndexFunc_int_int_mooring_checkCodes_1.l0, mooring_checkCodes_1.f, Cod.isCode, Option.bind_some]
    rw [if_pos (by omega), if_pos (by omega), if_pos (by omega), rd_nat hlt, drop_cons hlt, List.all_cons]
    cases h : Cod.okB l[i] with
    | true =>
      rw [Bool.not_true, if_neg (by decide), wrap_succ hlt (by omega), Bool.true_and]
      exact ih k (i + 1) (by omega) (by omega)
    | false =>
      rw [Bool.not_false, if_pos rfl, Bool.false_and]
      exact ⟨_, rfl, by simp⟩
theorem Cod.check {l : List Int} {k : Nat} (hk : 66 ≤ k) : mooring_checkCodes.f k l = some (Cod.err l) := by
  unfold mooring_checkCodes.f Cod.err
  by_cases h : 64 < l.length
  · rw [if_pos (by omega), if_pos h]
  rw [if_neg (by omega), if_neg h]
  obtain ⟨r, h1, h2⟩ := Cod.index_l0 (l := l) (by omega) l.length k 0 (by omega) (by omega)
  unfold slices_ContainsFunc_int_int_mooring_checkCodes_1.f slices_IndexFunc_int_int_mooring_checkCodes_1.f
  rw [List.drop_zero] at h2
  rw [show ((0 : Nat) : Int) = 0 from rfl] at h1
  rw [h1, Option.bind_some, Option.bind_some, h2]
  cases l.all Cod.okB <;> rfl
theorem Cod.err_ok {l : List Int} (h : Cod.err l = 0) : l.length ≤ 64 ∧ ∀ i : Nat, i < l.length → 0 ≤ rd l (i : Int) ∧ rd l (i : Int) < 65536 := by
  unfold Cod.err at h
  by_cases h0 : 64 < l.length
  · rw [if_pos h0] at h; cases h
  rw [if_neg h0] at h
  by_cases h1 : l.all Cod.okB = true
  · refine ⟨by omega, fun i hi => ?_⟩
    rw [rd_nat hi]
    exact Cod.okB_iff.1 (List.all_eq_true.1 h1 _ (List.getElem_mem hi))
  · rw [if_neg h1] at h; cases h
def Cod.D (l : List Int) (a b : Nat) : Int := Cod.dist (rd l (a : Int)) (rd l (b : Int))
def Cod.MinOn (l : List Int) (S : Nat → Nat → Prop) (r : Int) : Prop := r ≤ 16 ∧ 0 ≤ r ∧ (∀ a b, S a b → r ≤ Cod.D l a b) ∧ (r = 16 ∨ ∃ a b, S a b ∧ r = Cod.D l a b)
theorem Cod.MinOn.step {l : List Int} {S S' : Nat → Nat → Prop} {r : Int} (h : Cod.MinOn l S r) (a b : Nat) (hs : ∀ x y, S' x y ↔ S x y ∨ (x = a ∧ y = b)) : Cod.MinOn l S' (mn r (Cod.D l a b)) := by
  obtain ⟨h1, h2, h3, h4⟩ := h
  have hd := Cod.dist_range (rd l (a : Int)) (rd l (b : Int))
  have hm : mn r (Cod.D l a b) ≤ r ∧ mn r (Cod.D l a b) ≤ Cod.D l a b ∧ (mn r (Cod.D l a b) = r ∨ mn r (Cod.D l a b) = Cod.D l a b) := by
    unfold mn
    by_cases c : Cod.D l a b < r
    · rw [if_pos c]; omega
    · rw [if_neg c]; omega
  change 0 ≤ Cod.D l a b ∧ Cod.D l a b ≤ 16 at hd
  refine ⟨by omega, by omega, fun x y hxy => ?_, ?_⟩
  · rcases (hs x y).1 hxy with h | ⟨rfl, rfl⟩
    · have := h3 x y h; omega
    · omega
  · rcases hm.2.2 with h | h
    · rcases h4 with h4 | ⟨x, y, h5, h6⟩
      · left; omega
      · exact .inr ⟨x, y, (hs x y).2 (.inl h5), by omega⟩
    · exact .inr ⟨a, b, (hs a b).2 (.inr ⟨rfl, rfl⟩), h⟩
theorem Cod.MinOn.unique {l : List Int} {S : Nat → Nat → Prop} {r s : Int} (h : Cod.MinOn l S r) (h' : Cod.MinOn l S s) : r = s := by
  obtain ⟨h1, h2, h3, h4⟩ := h
  obtain ⟨g1, g2, g3, g4⟩ := h'
  have a1 : r ≤ s := by
    rcases g4 with g4 | ⟨x, y, g5, g6⟩
    · omega
    · have := h3 x y g5; omega
  have a2 : s ≤ r := by
    rcases h4 with h4 | ⟨x, y, h5, h6⟩
    · omega
    · have := g3 x y h5; omega
  omega
def Cod.all (l : List Int) (a b : Nat) : Prop := a < b ∧ b < l.length
theorem Cod.MinOn.none (l : List Int) {S : Nat → Nat → Prop} (h : ∀ a b, ¬ S a b) : Cod.MinOn l S 16 := ⟨by omega, by omega, fun a b hs => absurd hs (h a b), .inl rfl⟩
theorem Law2.numbers_l0 {xs : List Int} (hn : xs.length ≤ 9223372036854775807) (n : Nat) : ∀ (k i : Nat), i + n = xs.length → n < k → isobathlaw02_numbers.l0 k xs xs (i : Int) = some true := by
  induction n with
  | zero =>
    intro k i hi hk
    obtain ⟨k, rfl⟩ : ∃ m, k = m + 1 := ⟨k - 1, by omega⟩
    simp only [isobathlaw02_numbers.l0]
    rw [if_neg (by omega)]
  | succ n ih =>
    intro k i hi hk
    obtain ⟨k, rfl⟩ : ∃ m, k = m + 1 := ⟨k - 1, by omega⟩
    have hlt : i < xs.length := by omega
    simp only [isobathlaw02_numbers.l0]
    rw [if_pos (by omega), if_pos (by omega), if_pos (by omega), if_true, wrap_succ hlt hn]
    exact ih k (i + 1) (by omega) (by omega)
theorem Law2.numbers_same {xs : List Int} (hn : xs.length ≤ 9223372036854775807) {k : Nat} (hk : xs.length < k) : isobathlaw02_numbers.f k xs xs = some true := by
  unfold isobathlaw02_numbers.f
  rw [if_pos rfl]
  exact Law2.numbers_l0 hn xs.length k 0 (by omega) hk
end Go.Proofs.Ytebcmhajbjkojaa.P
namespace Go.Proofs.Ytebcmhajbjkojaa.P
open Go.RowKit Go.Proofs.YtebcmhajbjkojaaW.PrintWords Go.Proofs.YtebcmhajbjkojaaW.PrintLast Go.Proofs.YtebcmhajbjkojaaW.PrintMore
attribute [local go_sem] max2_int min2_int max_two min_two max_three min_three max_four min_four   -- for this text's walks alone
set_option linter.unusedVariables false
set_option linter.unusedSimpArgs false
theorem Law2.fine60 : isobathlaw02_fine.f 60 = some true := by kernel_rfl
theorem Law2.fine {k : Nat} (hk : 60 ≤ k) : isobathlaw02_fine.f k = some true := LeO.up (fun k => isobathlaw02_fine.mono k) hk Law2.fine60
end Go.Proofs.Ytebcmhajbjkojaa.P
namespace Go.Proofs.Ytebcmhajbjkojaa.P
open Go.RowKit Go.Proofs.YtebcmhajbjkojaaW.PrintWords Go.Proofs.YtebcmhajbjkojaaW.PrintLast Go.Proofs.YtebcmhajbjkojaaW.PrintMore
attribute [local go_sem] max2_int min2_int max_two min_two max_three min_three max_four min_four   -- for this text's walks alone
set_option linter.unusedVariables false
set_option linter.unusedSimpArgs false
theorem Srch.mark_length (mk : List Bool) (x : Int) : (Srch.mark mk x).length = mk.length := by
  unfold Srch.mark
  split
  · rfl
  · rw [List.length_set]
theorem Srch.marks_length (xs : List Int) : ∀ mk : List Bool, (Srch.marks mk xs).length = mk.length := by
  induction xs with
  | nil => intro mk; rfl
  | cons x xs ih => intro mk; exact (ih _).trans (Srch.mark_length mk x)
theorem Srch.marks_cons (mk : List Bool) (x : Int) (xs : List Int) : Srch.marks mk (x :: xs) = Srch.marks (Srch.mark mk x) xs := rfl
theorem Srch.marks_append (mk : List Bool) (xs ys : List Int) : Srch.marks mk (xs ++ ys) = Srch.marks (Srch.marks mk xs) ys := List.foldl_append
theorem Srch.out_cons (x : Int) (xs : List Int) : Srch.out (x :: xs) = (decide (x < 0) || Srch.out xs) := rfl
theorem Srch.out_append (xs ys : List Int) : Srch.out (xs ++ ys) = (Srch.out xs || Srch.out ys) := List.any_append
theorem Srch.unmark_cons (mk : List Bool) (x : Int) (xs : List Int) : Srch.unmark mk (x :: xs) = Srch.unmark (mk.set x.toNat false) xs := rfl
theorem Srch.unmark_length (xs : List Int) : ∀ mk : List Bool, (Srch.unmark mk xs).length = mk.length := by
  induction xs with
  | nil => intro mk; rfl
  | cons x xs ih => intro mk; exact (ih _).trans List.length_set
theorem Srch.hourMk_cons (wd hg e0 e1 n0 n1 : Int) (mk : List Bool) (c : Int) (xs : List Int) : Srch.hourMk wd hg e0 e1 n0 n1 mk (c :: xs) = Srch.hourMk wd hg e0 e1 n0 n1 (Srch.marks mk (Srch.reach wd hg c e0 e1 n0 n1)) xs := rfl
theorem Srch.hourLf_cons (wd hg e0 e1 n0 n1 : Int) (c : Int) (xs : List Int) : Srch.hourLf wd hg e0 e1 n0 n1 (c :: xs) = (Srch.out (Srch.reach wd hg c e0 e1 n0 n1) || Srch.hourLf wd hg e0 e1 n0 n1 xs) := rfl
theorem Srch.hourMk_length (wd hg e0 e1 n0 n1 : Int) (xs : List Int) : ∀ mk : List Bool, (Srch.hourMk wd hg e0 e1 n0 n1 mk xs).length = mk.length := by
  induction xs with
  | nil => intro mk; rfl
  | cons x xs ih => intro mk; exact (ih _).trans (Srch.marks_length _ _)
def Srch.colR (wd hg c x : Int) : Nat → Int → List Int
  | 0, _ => []
  | r + 1, y => Srch.to wd hg c x y :: Srch.colR wd hg c x r (y + 1)
theorem Srch.col_colR (wd hg c x : Int) : ∀ (r : Nat) (y : Int), Srch.col wd hg c x y r = Srch.colR wd hg c x r y
  | 0, y => rfl
  | r + 1, y => by
    rw [Srch.colR, ← Srch.col_colR wd hg c x r (y + 1)]
    unfold Srch.col
    rw [List.range_succ_eq_map, List.map_cons, List.map_map]
    congr 1
    · congr 1
      simp
    · apply List.map_congr_left
      intro k _
      show Srch.to wd hg c x (y + ((k + 1 : Nat) : Int)) = Srch.to wd hg c x (y + 1 + (k : Int))
      congr 1
      omega
def Srch.colsR (wd hg c n0 : Int) (m : Nat) : Nat → Int → List Int
  | 0, _ => []
  | r + 1, x => Srch.colR wd hg c x m n0 ++ Srch.colsR wd hg c n0 m r (x + 1)
theorem Srch.colsR_snoc (wd hg c n0 : Int) (m : Nat) : ∀ (r : Nat) (x : Int), Srch.colsR wd hg c n0 m (r + 1) x = Srch.colsR wd hg c n0 m r x ++ Srch.colR wd hg c (x + (r : Int)) m n0
  | 0, x => by simp [Srch.colsR]
  | r + 1, x => by
    rw [Srch.colsR, Srch.colsR_snoc wd hg c n0 m r (x + 1), Srch.colsR, List.append_assoc]
    congr 2
    congr 1
    omega
theorem Srch.cols_colsR (wd hg c e0 n0 : Int) (m : Nat) : ∀ i : Nat, Srch.cols wd hg c e0 n0 m i = Srch.colsR wd hg c n0 m i e0
  | 0 => rfl
  | i + 1 => by rw [Srch.cols, Srch.colsR_snoc, Srch.cols_colsR wd hg c e0 n0 m i, Srch.col_colR]
theorem Srch.reach_colsR (wd hg c e0 e1 n0 n1 : Int) : Srch.reach wd hg c e0 e1 n0 n1 = Srch.colsR wd hg c n0 (Srch.many n0 n1) (Srch.many e0 e1) e0 := Srch.cols_colsR _ _ _ _ _ _ _
def Srch.from_ (mk : List Bool) : Nat → Nat → List Int
  | 0, _ => []
  | r + 1, j => if mk[j]?.getD false = true then (j : Int) :: Srch.from_ mk r (j + 1) else Srch.from_ mk r (j + 1)
theorem Srch.from_snoc (mk : List Bool) : ∀ (r j : Nat), Srch.from_ mk (r + 1) j = Srch.from_ mk r j ++ (if mk[j + r]?.getD false = true then [((j + r : Nat) : Int)] else [])
  | 0, j => by simp [Srch.from_]
  | r + 1, j => by
    rw [Srch.from_, Srch.from_snoc mk r (j + 1), Srch.from_, show j + 1 + r = j + (r + 1) by omega]
    by_cases q : mk[j]?.getD false = true
    · rw [if_pos q, if_pos q]
      rfl
    · rw [if_neg q, if_neg q]
theorem Srch.list_from (mk : List Bool) : ∀ j : Nat, Srch.list mk j = Srch.from_ mk j 0
  | 0 => rfl
  | j + 1 => by
    rw [Srch.from_snoc, ← Srch.list_from mk j, Nat.zero_add]
    by_cases q : mk[j]?.getD false = true
    · rw [if_pos q, Srch.list_hit q]
    · rw [if_neg q, Srch.list_miss (by simpa using q), List.append_nil]
theorem Srch.from_range (mk : List Bool) : ∀ (r j : Nat), ∀ x ∈ Srch.from_ mk r j, (j : Int) ≤ x ∧ x < (j : Int) + (r : Int)
  | 0, j, x, h => by cases h
  | r + 1, j, x, h => by
    rw [Srch.from_] at h
    by_cases q : mk[j]?.getD false = true
    · rw [if_pos q] at h
      rcases List.mem_cons.1 h with rfl | h
      · omega
      · have := Srch.from_range mk r (j + 1) x h
        omega
    · rw [if_neg q] at h
      have := Srch.from_range mk r (j + 1) x h
      omega
section
variable {wd hg e0 e1 n0 n1 : Int} {se : List Int}
theorem Srch.ref_l3 (x9 : Bool) (hse : ∀ x ∈ se, 0 ≤ x ∧ x < wd * hg) : ∀ (r i : Nat) (x8 : List Bool) (k : Nat), i + r = se.length → (x8.length : Int) = wd * hg → se.length ≤ 1000000 →
    isobathref02_Drift.l3 (k + r + 1) x8 x9 (i : Int) e0 e1 n0 n1 se = some (Srch.unmark x8 (se.drop i), x9)
  | 0, i, x8, k, hi, _, _ => by
    rw [isobathref02_Drift.l3, if_neg (by omega), List.drop_eq_nil_of_le (by omega)]
    rfl
  | r + 1, i, x8, k, hi, h8, hs => by
    have hlt : i < se.length := by omega
    have hx := hse _ (List.getElem_mem hlt)
    rw [show k + (r + 1) + 1 = (k + r + 1) + 1 by omega, isobathref02_Drift.l3, if_pos (by omega), if_pos (by omega), rd_nat hlt, if_pos hx.1, if_pos (by omega), wrap_succ hlt (by omega),
      Srch.ref_l3 x9 hse r (i + 1) _ k (by omega) (by rw [List.length_set]; exact h8) hs, drop_cons hlt, Srch.unmark_cons]
theorem Srch.area_le (hw0 : 1 ≤ wd) (hw1 : wd ≤ 24) (hh0 : 1 ≤ hg) (hh1 : hg ≤ 24) : wd * hg ≤ 576 := by
  have : wd * hg ≤ 24 * 24 := Int.mul_le_mul hw1 hh1 (by omega) (by omega)
  omega
theorem Srch.ref_l2 (hw0 : 1 ≤ wd) (hw1 : wd ≤ 24) (hh0 : 1 ≤ hg) (hh1 : hg ≤ 24) {c : Int} (hc0 : 0 ≤ c) (hc1 : c < wd * hg) (x1 : List Bool) {x : Int} (hx0 : -4 ≤ x) (hx1 : x ≤ 4) (hn0 : -4 ≤ n0) (hn1 : n1 ≤ 4) : ∀ (r : Nat) (y : Int) (x8 : List Bool) (x9 : Bool) (k : Nat), -4 ≤ y → y + (r : Int) = n1 + 1 → (x8.length : Int) = wd * hg →
    isobathref02_Drift.l2 (k + r + 1) x1 x8 x9 c x y wd hg e0 e1 n0 n1 se = isobathref02_Drift.l1 k x1 (Srch.marks x8 (Srch.colR wd hg c x r y)) (x9 || Srch.out (Srch.colR wd hg c x r y)) c (wrap64 (x + 1)) wd hg e0 e1 n0 n1 se
  | 0, y, x8, x9, k, hy, hr, _ => by
    rw [isobathref02_Drift.l2, if_neg (by omega)]
    show _ = isobathref02_Drift.l1 k x1 x8 (x9 || false) c (wrap64 (x + 1)) wd hg e0 e1 n0 n1 se
    rw [Bool.or_false]
  | r + 1, y, x8, x9, k, hy, hr, h8 => by
    have hA := Srch.area_le hw0 hw1 hh0 hh1
    have b1 := Int.emod_nonneg c (show wd ≠ 0 by omega)
    have b2 := Int.emod_lt_of_pos c (show 0 < wd by omega)
    have b3 : 0 ≤ c / wd := Int.ediv_nonneg hc0 (by omega)
    have b4 : c / wd ≤ c := Int.ediv_le_self _ hc0
    have w1 : wrap64 (c.tdiv wd) = c / wd := by rw [Int.tdiv_eq_ediv_of_nonneg hc0, wrap_id (by omega) (by omega)]
    have w2 : wrap64 (c.tmod wd + x) = c % wd + x := by rw [Int.tmod_eq_emod_of_nonneg hc0, wrap_id (by omega) (by omega)]
    have w3 : wrap64 (c / wd + y) = c / wd + y := by rw [wrap_id (by omega) (by omega)]
    have w4 : wrap64 (y + 1) = y + 1 := wrap_id (by omega) (by omega)
    have ih := fun x8' x9' h => Srch.ref_l2 hw0 hw1 hh0 hh1 hc0 hc1 x1 hx0 hx1 hn0 hn1 r (y + 1) x8' x9' k (by omega) (by omega) h
    rw [show k + (r + 1) + 1 = (k + r + 1) + 1 by omega, isobathref02_Drift.l2, if_pos (show y ≤ n1 by omega), if_neg (show ¬ wd = 0 by omega), w1, w2, w3, w4, Srch.colR, Srch.marks_cons, Srch.out_cons, ← Bool.or_assoc]
    obtain ⟨X, hX⟩ : ∃ X, c % wd + x = X := ⟨_, rfl⟩
    obtain ⟨Y, hY⟩ : ∃ Y, c / wd + y = Y := ⟨_, rfl⟩
    have hto : Srch.to wd hg c x y = if X < 0 ∨ Y < 0 ∨ wd ≤ X ∨ hg ≤ Y then -1 else Y * wd + X := by
      unfold Srch.to
      rw [hX, hY]
    rw [hX, hY]
    by_cases q : X < 0 ∨ Y < 0 ∨ wd ≤ X ∨ hg ≤ Y
    · rw [hto, if_pos q]
      have e1 : Srch.mark x8 (-1) = x8 := rfl
      have e2 : (x9 || decide ((-1 : Int) < 0)) = true := by simp
      rw [e1, e2]
      have hi := ih x8 true h8
      by_cases q1 : X < 0
      · rw [if_pos q1, hi]
      rw [if_neg q1]
      by_cases q2 : X ≥ wd
      · rw [if_pos q2, hi]
      rw [if_neg q2]
      by_cases q3 : Y < 0
      · rw [if_pos q3, hi]
      rw [if_neg q3, if_pos (by omega), hi]
    · have p1 : ¬ X < 0 := fun h => q (.inl h)
      have p2 : ¬ X ≥ wd := fun h => q (.inr (.inr (.inl h)))
      have p3 : ¬ Y < 0 := fun h => q (.inr (.inl h))
      have p4 : ¬ Y ≥ hg := fun h => q (.inr (.inr (.inr h)))
      have m1 : 0 ≤ Y * wd := Int.mul_nonneg (by omega) (by omega)
      have m2 : Y * wd ≤ (hg - 1) * wd := Int.mul_le_mul_of_nonneg_right (by omega) (by omega)
      rw [Int.sub_mul, Int.one_mul, Int.mul_comm hg wd] at m2
      have w5 : wrap64 (Y * wd) = Y * wd := wrap_id (by omega) (by omega)
      have w6 : wrap64 (Y * wd + X) = Y * wd + X := wrap_id (by omega) (by omega)
      rw [hto, if_neg q, if_neg p1, if_neg p2, if_neg p3, if_neg p4, w5, w6, if_pos (by omega), if_pos (by omega)]
      have e1 : Srch.mark x8 (Y * wd + X) = x8.set (Y * wd + X).toNat true := by
        unfold Srch.mark
        rw [if_neg (by omega)]
      have e2 : (x9 || decide (Y * wd + X < 0)) = x9 := by
        rw [decide_eq_false (by omega), Bool.or_false]
      rw [e1, e2]
      exact ih _ x9 (by rw [List.length_set]; exact h8)
theorem Srch.ref_l1 (hw0 : 1 ≤ wd) (hw1 : wd ≤ 24) (hh0 : 1 ≤ hg) (hh1 : hg ≤ 24) {c : Nat} (hc1 : (c : Int) < wd * hg) {x1 : List Bool} (h1 : (x1.length : Int) = wd * hg) (hon : rdOf false x1 (c : Int) = true) (he0 : -4 ≤ e0) (he1 : e1 ≤ 4) (hn0 : -4 ≤ n0) (hn01 : n0 ≤ n1) (hn1 : n1 ≤ 4) : ∀ (r : Nat) (x : Int) (x8 : List Bool) (x9 : Bool) (k : Nat), -4 ≤ x → x + (r : Int) = e1 + 1 → (x8.length : Int) = wd * hg →
    isobathref02_Drift.l1 (k + r * (Srch.many n0 n1 + 3) + 2) x1 x8 x9 (c : Int) x wd hg e0 e1 n0 n1 se = isobathref02_Drift.l0 k x1 (Srch.marks x8 (Srch.colsR wd hg c n0 (Srch.many n0 n1) r x)) (x9 || Srch.out (Srch.colsR wd hg c n0 (Srch.many n0 n1) r x)) ((c + 1 : Nat) : Int) wd hg e0 e1 n0 n1 se
  | 0, x, x8, x9, k, hx, hr, _ => by
    have hA := Srch.area_le hw0 hw1 hh0 hh1
    rw [show k + 0 * (Srch.many n0 n1 + 3) + 2 = k + 1 + 1 by omega, isobathref02_Drift.l1, if_neg (by omega), isobathref02_Drift.j2, if_neg (by decide), wrap_id (by omega) (by omega)]
    show _ = isobathref02_Drift.l0 k x1 x8 (x9 || false) ((c + 1 : Nat) : Int) wd hg e0 e1 n0 n1 se
    rw [Bool.or_false]
    rfl
  | r + 1, x, x8, x9, k, hx, hr, h8 => by
    have hA := Srch.area_le hw0 hw1 hh0 hh1
    have hm : n0 + (Srch.many n0 n1 : Int) = n1 + 1 := by unfold Srch.many; omega
    obtain ⟨M, hM⟩ : ∃ M, Srch.many n0 n1 = M := ⟨_, rfl⟩
    have ih := fun x8' x9' h => Srch.ref_l1 hw0 hw1 hh0 hh1 hc1 h1 hon he0 he1 hn0 hn01 hn1 r (x + 1) x8' x9' k (by omega) (by omega) h
    rw [hM] at hm ih ⊢
    rw [Nat.succ_mul, show k + (r * (M + 3) + (M + 3)) + 2 = ((k + r * (M + 3) + 2) + M + 1) + 1 + 1 by omega, isobathref02_Drift.l1, if_pos (show x ≤ e1 by omega), if_pos (Int.natCast_nonneg _), if_pos (by omega), hon, isobathref02_Drift.j2, if_pos rfl,
      Srch.ref_l2 hw0 hw1 hh0 hh1 (Int.natCast_nonneg c) hc1 x1 hx (by omega) hn0 hn1 M n0 x8 x9 _ hn0 hm h8, wrap_id (by omega) (by omega), ih _ _ (by rw [Srch.marks_length]; exact h8), Srch.colsR, Srch.marks_append, Srch.out_append, Bool.or_assoc]
theorem Srch.ref_l0 (hw0 : 1 ≤ wd) (hw1 : wd ≤ 24) (hh0 : 1 ≤ hg) (hh1 : hg ≤ 24) {x1 : List Bool} (h1 : (x1.length : Int) = wd * hg) (he0 : -4 ≤ e0) (he01 : e0 ≤ e1) (he1 : e1 ≤ 4) (hn0 : -4 ≤ n0) (hn01 : n0 ≤ n1) (hn1 : n1 ≤ 4) (hse : ∀ x ∈ se, 0 ≤ x ∧ x < wd * hg) (hS : se.length ≤ 1000) : ∀ (r c : Nat) (x8 : List Bool) (x9 : Bool) (k : Nat), c + r = x1.length → (x8.length : Int) = wd * hg → r * 120 + 1100 ≤ k →
    isobathref02_Drift.l0 k x1 x8 x9 (c : Int) wd hg e0 e1 n0 n1 se = some (Srch.unmark (Srch.hourMk wd hg e0 e1 n0 n1 x8 (Srch.from_ x1 r c)) se, x9 || Srch.hourLf wd hg e0 e1 n0 n1 (Srch.from_ x1 r c))
  | 0, c, x8, x9, k, hc, h8, hk => by
    obtain ⟨k, rfl⟩ : ∃ k', k = (k' + se.length + 1) + 1 := ⟨k - se.length - 2, by omega⟩
    rw [isobathref02_Drift.l0, if_neg (by omega)]
    have h := Srch.ref_l3 (e0 := e0) (e1 := e1) (n0 := n0) (n1 := n1) x9 hse se.length 0 x8 k (by omega) h8 (by omega)
    rw [show ((0 : Nat) : Int) = 0 from rfl, List.drop_zero] at h
    rw [h]
    show _ = some (Srch.unmark x8 se, x9 || false)
    rw [Bool.or_false]
  | r + 1, c, x8, x9, k, hc, h8, hk => by
    have hA := Srch.area_le hw0 hw1 hh0 hh1
    have hlt : c < x1.length := by omega
    have hrd : rdOf false x1 (c : Int) = x1[c]?.getD false := by
      unfold rdOf
      rw [Int.toNat_natCast, List.getD_eq_getElem?_getD]
    have hM : Srch.many n0 n1 ≤ 9 := by unfold Srch.many; omega
    have hE : Srch.many e0 e1 ≤ 9 := by unfold Srch.many; omega
    have hEe : e0 + (Srch.many e0 e1 : Int) = e1 + 1 := by unfold Srch.many; omega
    obtain ⟨M, hMM⟩ : ∃ M, Srch.many n0 n1 = M := ⟨_, rfl⟩
    obtain ⟨E, hEE⟩ : ∃ E, Srch.many e0 e1 = E := ⟨_, rfl⟩
    have hEM : E * (M + 3) ≤ 9 * 12 := Nat.mul_le_mul (by omega) (by omega)
    rw [Srch.from_]
    by_cases q : x1[c]?.getD false = true
    · obtain ⟨k, rfl⟩ : ∃ k', k = (k' + E * (M + 3) + 2) + 1 := ⟨k - E * (M + 3) - 3, by omega⟩
      have h := Srch.ref_l1 (se := se) hw0 hw1 hh0 hh1 (c := c) (by omega) h1 (hrd.trans q) he0 he1 hn0 hn01 hn1 E e0 x8 x9 k he0 (by omega) h8
      rw [hMM] at h
      rw [if_pos q, isobathref02_Drift.l0, if_pos (by omega), h, Srch.ref_l0 hw0 hw1 hh0 hh1 h1 he0 he01 he1 hn0 hn01 hn1 hse hS r (c + 1) _ _ k (by omega) (by rw [Srch.marks_length]; exact h8) (by omega), Srch.hourMk_cons, Srch.hourLf_cons, Srch.reach_colsR, hMM, hEE, Bool.or_assoc]
    · have qf : x1[c]?.getD false = false := by simpa using q
      obtain ⟨k, rfl⟩ : ∃ k', k = k' + 1 + 1 + 1 := ⟨k - 3, by omega⟩
      rw [if_neg q, isobathref02_Drift.l0, if_pos (by omega), isobathref02_Drift.l1, if_pos he01, if_pos (Int.natCast_nonneg _), if_pos (by omega), hrd, qf, isobathref02_Drift.j2, if_neg (by decide), wrap_succ hlt (by omega)]
      exact Srch.ref_l0 hw0 hw1 hh0 hh1 h1 he0 he01 he1 hn0 hn01 hn1 hse hS r (c + 1) x8 x9 k (by omega) h8 (by omega)
theorem Srch.ref_drift (hw0 : 1 ≤ wd) (hw1 : wd ≤ 24) (hh0 : 1 ≤ hg) (hh1 : hg ≤ 24) {x1 : List Bool} (h1 : (x1.length : Int) = wd * hg) (he0 : -4 ≤ e0) (he01 : e0 ≤ e1) (he1 : e1 ≤ 4) (hn0 : -4 ≤ n0) (hn01 : n0 ≤ n1) (hn1 : n1 ≤ 4) (hse : ∀ x ∈ se, 0 ≤ x ∧ x < wd * hg) (hS : se.length ≤ 1000) {k : Nat} (hk : 71000 ≤ k) :
    isobathref02_Drift.f k wd hg x1 e0 e1 n0 n1 se = some (Srch.unmark (Srch.hourMk wd hg e0 e1 n0 n1 (List.replicate (wd * hg).toNat false) (Srch.list x1 (wd * hg).toNat)) se, Srch.hourLf wd hg e0 e1 n0 n1 (Srch.list x1 (wd * hg).toNat)) := by
  have hA := Srch.area_le hw0 hw1 hh0 hh1
  have h0 : 0 ≤ wd * hg := Int.mul_nonneg (by omega) (by omega)
  have hw : wrap64 (wd * hg) = wd * hg := wrap_id (by omega) (by omega)
  unfold isobathref02_Drift.f
  rw [hw, if_pos h0, if_pos (by omega)]
  have h := Srch.ref_l0 hw0 hw1 hh0 hh1 h1 he0 he01 he1 hn0 hn01 hn1 hse hS x1.length 0 (List.replicate (wd * hg).toNat false) false k (by omega) (by rw [List.length_replicate]; omega) (by omega)
  rw [show ((0 : Nat) : Int) = 0 from rfl, Bool.false_or, ← Srch.list_from, show x1.length = (wd * hg).toNat by omega] at h
  exact h
end
theorem Srch.ref_numbers_l0 {mk : List Bool} (hm : mk.length ≤ 1000) : ∀ (r j : Nat) (xs : List Int) (k : Nat), j + r = mk.length → xs.length ≤ j → isobathref02_numbers.l0 (k + r + 1) mk xs (j : Int) = some (xs ++ Srch.from_ mk r j)
  | 0, j, xs, k, hj, _ => by
    rw [isobathref02_numbers.l0, if_neg (by omega), Srch.from_, List.append_nil]
  | r + 1, j, xs, k, hj, hx => by
    have hlt : j < mk.length := by omega
    have hrd : rdOf false mk (j : Int) = mk[j]?.getD false := by
      unfold rdOf
      rw [Int.toNat_natCast, List.getD_eq_getElem?_getD]
    rw [show k + (r + 1) + 1 = (k + r + 1) + 1 by omega, isobathref02_numbers.l0, if_pos (by omega), if_pos (Int.natCast_nonneg _), hrd, Srch.from_, wrap_succ hlt (by omega)]
    by_cases q : mk[j]?.getD false = true
    · rw [if_pos q, if_pos q, if_pos (by omega), Srch.ref_numbers_l0 hm r (j + 1) _ k (by omega) (by rw [List.length_append]; simp; omega), List.append_assoc]
      rfl
    · rw [if_neg q, if_neg q, Srch.ref_numbers_l0 hm r (j + 1) _ k (by omega) (by omega)]
theorem Srch.ref_numbers {mk : List Bool} (hm : mk.length ≤ 1000) {k : Nat} (hk : 1100 ≤ k) : isobathref02_numbers.f k mk = some (Srch.list mk mk.length) := by
  obtain ⟨k, rfl⟩ : ∃ k', k = k' + mk.length + 1 := ⟨k - mk.length - 1, by omega⟩
  have h := Srch.ref_numbers_l0 hm mk.length 0 [] k (by omega) (by simp)
  rw [Srch.list_from]
  exact h
theorem Srch.ref_marked_l0 {m : Int} {l : List Int} (hl : ∀ x ∈ l, 0 ≤ x ∧ x < m) (hn : l.length ≤ 1000000) : ∀ (r i : Nat) (mk : List Bool) (k : Nat), i + r = l.length → (mk.length : Int) = m → isobathref02_marked.l0 (k + r + 1) l mk (i : Int) = some (Srch.marks mk (l.drop i))
  | 0, i, mk, k, hi, _ => by
    rw [isobathref02_marked.l0, if_neg (by omega), List.drop_eq_nil_of_le (by omega)]
    rfl
  | r + 1, i, mk, k, hi, hm => by
    have hlt : i < l.length := by omega
    have hx := hl _ (List.getElem_mem hlt)
    have e1 : Srch.mark mk l[i] = mk.set l[i].toNat true := by
      unfold Srch.mark
      rw [if_neg (by omega)]
    rw [show k + (r + 1) + 1 = (k + r + 1) + 1 by omega, isobathref02_marked.l0, if_pos (by omega), if_pos (by omega), rd_nat hlt, if_pos hx.1, if_pos (by omega), wrap_succ hlt (by omega),
      Srch.ref_marked_l0 hl hn r (i + 1) _ k (by omega) (by rw [List.length_set]; exact hm), drop_cons hlt, Srch.marks_cons, e1]
theorem Srch.ref_marked {wd hg : Int} (hw0 : 1 ≤ wd) (hw1 : wd ≤ 24) (hh0 : 1 ≤ hg) (hh1 : hg ≤ 24) {l : List Int} (hl : ∀ x ∈ l, 0 ≤ x ∧ x < wd * hg) (hn : l.length ≤ 1000) {k : Nat} (hk : 1100 ≤ k) : isobathref02_marked.f k wd hg l = some (Srch.marks (List.replicate (wd * hg).toNat false) l) := by
  have hA := Srch.area_le hw0 hw1 hh0 hh1
  have h0 : 0 ≤ wd * hg := Int.mul_nonneg (by omega) (by omega)
  have hw : wrap64 (wd * hg) = wd * hg := wrap_id (by omega) (by omega)
  obtain ⟨k, rfl⟩ : ∃ k', k = k' + l.length + 1 := ⟨k - l.length - 1, by omega⟩
  unfold isobathref02_marked.f
  rw [hw, if_pos h0, if_pos (by omega)]
  have h := Srch.ref_marked_l0 hl (by omega) l.length 0 (List.replicate (wd * hg).toNat false) k (by omega) (by rw [List.length_replicate]; omega)
  rw [show ((0 : Nat) : Int) = 0 from rfl, List.drop_zero] at h
  exact h
theorem Srch.mark_at (mk : List Bool) {x : Int} (hx : 0 ≤ x) {i : Nat} (hi : i < mk.length) : (Srch.mark mk x)[i]?.getD false = (mk[i]?.getD false || decide (x = (i : Int))) := by
  unfold Srch.mark
  rw [if_neg (by omega)]
  by_cases q : x = (i : Int)
  · have : x.toNat = i := by omega
    subst this
    rw [decide_eq_true q, Bool.or_true]
    simp [hi]
  · have : x.toNat ≠ i := by omega
    rw [decide_eq_false q, Bool.or_false]
    simp [this]
theorem Srch.marks_at : ∀ (l : List Int) (mk : List Bool) (_ : ∀ x ∈ l, 0 ≤ x) {i : Nat} (_ : i < mk.length), (Srch.marks mk l)[i]?.getD false = (mk[i]?.getD false || decide ((i : Int) ∈ l))
  | [], mk, _, i, hi => by
    show mk[i]?.getD false = _
    simp
  | x :: l, mk, h, i, hi => by
    rw [Srch.marks_cons, Srch.marks_at l _ (fun y hy => h y (List.mem_cons_of_mem _ hy)) (by rw [Srch.mark_length]; exact hi), Srch.mark_at mk (h x List.mem_cons_self) hi, Bool.or_assoc]
    congr 1
    by_cases q : x = (i : Int)
    · rw [decide_eq_true q, Bool.true_or, decide_eq_true (q ▸ List.mem_cons_self)]
    · rw [decide_eq_false q, Bool.false_or]
      congr 1
      simp [List.mem_cons, Ne.symm q]
theorem Srch.from_sorted (mk : List Bool) : ∀ (r j : Nat) (xs : List Int), xs.Pairwise (· < ·) → (∀ x ∈ xs, (j : Int) ≤ x ∧ x < (j : Int) + (r : Int)) → (∀ i : Nat, j ≤ i → i < j + r → (mk[i]?.getD false = true ↔ (i : Int) ∈ xs)) → Srch.from_ mk r j = xs
  | 0, j, xs, _, hx, _ => by
    cases xs with
    | nil => rfl
    | cons x xs =>
      have := hx x List.mem_cons_self
      omega
  | r + 1, j, xs, hs, hx, hm => by
    rw [Srch.from_]
    by_cases q : mk[j]?.getD false = true
    · rw [if_pos q]
      have hj := (hm j (Nat.le_refl _) (by omega)).1 q
      cases xs with
      | nil => cases hj
      | cons x xs =>
        rw [List.pairwise_cons] at hs
        have hxj : x = (j : Int) := by
          rcases List.mem_cons.1 hj with h | h
          · exact h.symm
          · have := hs.1 _ h
            have := (hx x List.mem_cons_self).1
            omega
        rw [hxj]
        congr 1
        refine Srch.from_sorted mk r (j + 1) xs hs.2 (fun y hy => ?_) (fun i h1 h2 => ?_)
        · have a := hs.1 y hy
          have b := hx y (List.mem_cons_of_mem _ hy)
          omega
        · rw [hm i (by omega) (by omega)]
          constructor
          · intro h
            rcases List.mem_cons.1 h with h | h
            · omega
            · exact h
          · exact List.mem_cons_of_mem _
    · rw [if_neg q]
      have hj : (j : Int) ∉ xs := fun h => q ((hm j (Nat.le_refl _) (by omega)).2 h)
      refine Srch.from_sorted mk r (j + 1) xs hs (fun y hy => ?_) (fun i h1 h2 => hm i (by omega) (by omega))
      have b := hx y hy
      have : y ≠ (j : Int) := fun e => hj (e ▸ hy)
      omega
theorem Srch.list_marks {m : Nat} {l : List Int} (hs : l.Pairwise (· < ·)) (hl : ∀ x ∈ l, 0 ≤ x ∧ x < (m : Int)) : Srch.list (Srch.marks (List.replicate m false) l) m = l := by
  rw [Srch.list_from]
  refine Srch.from_sorted _ m 0 l hs (fun x hx => by have := hl x hx; omega) (fun i _ hi => ?_)
  have e : (List.replicate m false)[i]?.getD false = false := by
    rw [List.getElem?_replicate]
    split <;> rfl
  rw [Srch.marks_at l _ (fun x hx => (hl x hx).1) (by rw [List.length_replicate]; omega), e, Bool.false_or, decide_eq_true_eq]
end Go.Proofs.Ytebcmhajbjkojaa.P
namespace Go.Proofs.Ytebcmhajbjkojaa.P
open Go.RowKit Go.Proofs.YtebcmhajbjkojaaW.PrintWords Go.Proofs.YtebcmhajbjkojaaW.PrintLast Go.Proofs.YtebcmhajbjkojaaW.PrintMore
attribute [local go_sem] max2_int min2_int max_two min_two max_three min_three max_four min_four   -- for this text's walks alone
set_option linter.unusedVariables false
set_option linter.unusedSimpArgs false
def Srch.okL (m : Int) : Int → List Int → Bool
  | _, [] => true
  | p, x :: l => decide (0 ≤ x) && decide (x < m) && decide (p < x) && Srch.okL m x l
theorem Srch.okL_spec {m : Int} : ∀ (l : List Int) (p : Int), Srch.okL m p l = true → (∀ x ∈ l, 0 ≤ x ∧ x < m ∧ p < x) ∧ l.Pairwise (· < ·)
  | [], _, _ => ⟨fun _ h => (by cases h), List.Pairwise.nil⟩
  | x :: l, p, h => by
    simp only [Srch.okL, Bool.and_eq_true, decide_eq_true_eq] at h
    obtain ⟨h1, h2⟩ := Srch.okL_spec l x h.2
    refine ⟨fun y hy => ?_, List.pairwise_cons.2 ⟨fun y hy => (h1 y hy).2.2, h2⟩⟩
    rcases List.mem_cons.1 hy with rfl | hy
    · exact ⟨h.1.1.1, h.1.1.2, h.1.2⟩
    · have := h1 y hy
      omega
def Srch.prev (l : List Int) (i : Nat) : Int := if i = 0 then -1 else l.getD (i - 1) 0
theorem Srch.prev_succ {l : List Int} {i : Nat} (h : i < l.length) : Srch.prev l (i + 1) = l[i] := by
  unfold Srch.prev
  rw [if_neg (by omega)]
  simp [List.getD, h]
theorem Srch.rd_prev {l : List Int} {i : Nat} (h0 : 0 < i) (hi : i ≤ 9223372036854775807) : wrap64 ((i : Int) - 1) = ((i - 1 : Nat) : Int) ∧ rd l ((i - 1 : Nat) : Int) = Srch.prev l i := by
  refine ⟨by rw [wrap_id (by omega) (by omega)]; omega, ?_⟩
  unfold Srch.prev rd
  rw [if_neg (by omega), Int.toNat_natCast]
section
variable {wd hg : Int}
theorem Srch.has_l0 (hw0 : 1 ≤ wd) (hw1 : wd ≤ 24) (hh0 : 1 ≤ hg) (hh1 : hg ≤ 24) {l : List Int} (hn : l.length ≤ 1000000) : ∀ (r i k : Nat), i + r = l.length → mooring_area_has.l0 (k + r + 1) l l (l.length : Int) (i : Int) wd hg = some (Srch.okL (wd * hg) (Srch.prev l i) (l.drop i))
  | 0, i, k, hi => by
    rw [mooring_area_has.l0, if_neg (by omega), List.drop_eq_nil_of_le (by omega)]
    rfl
  | r + 1, i, k, hi => by
    have hA := Srch.area_le hw0 hw1 hh0 hh1
    have h0 : 0 ≤ wd * hg := Int.mul_nonneg (by omega) (by omega)
    have hw : wrap64 (wd * hg) = wd * hg := wrap_id (by omega) (by omega)
    have hlt : i < l.length := by omega
    have ih := Srch.has_l0 hw0 hw1 hh0 hh1 hn r (i + 1) k (by omega)
    rw [Srch.prev_succ hlt] at ih
    rw [show k + (r + 1) + 1 = (k + r + 1) + 1 by omega, mooring_area_has.l0, if_pos (by omega), if_pos (by omega), if_pos (by omega), rd_nat hlt, hw, wrap_succ hlt (by omega), ih, drop_cons hlt, Srch.okL]
    by_cases q1 : l[i] < 0
    · rw [if_pos q1, decide_eq_false (by omega)]
      rfl
    rw [if_neg q1, decide_eq_true (show 0 ≤ l[i] by omega), Bool.true_and]
    by_cases q2 : l[i] ≥ wd * hg
    · rw [if_pos q2, decide_eq_false (by omega)]
      rfl
    rw [if_neg q2, decide_eq_true (show l[i] < wd * hg by omega), Bool.true_and]
    by_cases q3 : (i : Int) > 0
    · obtain ⟨e1, e2⟩ := Srch.rd_prev (l := l) (i := i) (by omega) (by omega)
      rw [if_pos q3, e1, if_pos (by omega), if_pos (by omega), e2]
      by_cases q4 : l[i] ≤ Srch.prev l i
      · rw [if_pos q4, decide_eq_false (by omega)]
        rfl
      · rw [if_neg q4, decide_eq_true (show Srch.prev l i < l[i] by omega), Bool.true_and]
    · have e : Srch.prev l i = -1 := by
        unfold Srch.prev
        rw [if_pos (by omega)]
      rw [if_neg q3, e, decide_eq_true (show -1 < l[i] by omega), Bool.true_and]
theorem Srch.has_f (hw0 : 1 ≤ wd) (hw1 : wd ≤ 24) (hh0 : 1 ≤ hg) (hh1 : hg ≤ 24) {l : List Int} (hn : l.length ≤ 1000000) {k : Nat} (hk : l.length < k) : mooring_area_has.f k wd hg l = some (Srch.okL (wd * hg) (-1) l) := by
  obtain ⟨k, rfl⟩ : ∃ k', k = k' + l.length + 1 := ⟨k - l.length - 1, by omega⟩
  exact Srch.has_l0 hw0 hw1 hh0 hh1 hn l.length 0 k (by omega)
theorem Srch.cells_l0 (hw0 : 1 ≤ wd) (hw1 : wd ≤ 24) (hh0 : 1 ≤ hg) (hh1 : hg ≤ 24) {l : List Int} (hn : l.length ≤ 1000000) : ∀ (r i k : Nat), i + r = l.length → isobathref02_cells.l0 (k + r + 1) l (i : Int) wd hg = some (Srch.okL (wd * hg) (Srch.prev l i) (l.drop i))
  | 0, i, k, hi => by
    rw [isobathref02_cells.l0, if_neg (by omega), List.drop_eq_nil_of_le (by omega)]
    rfl
  | r + 1, i, k, hi => by
    have hA := Srch.area_le hw0 hw1 hh0 hh1
    have h0 : 0 ≤ wd * hg := Int.mul_nonneg (by omega) (by omega)
    have hw : wrap64 (wd * hg) = wd * hg := wrap_id (by omega) (by omega)
    have hlt : i < l.length := by omega
    have ih := Srch.cells_l0 hw0 hw1 hh0 hh1 hn r (i + 1) k (by omega)
    rw [Srch.prev_succ hlt] at ih
    rw [show k + (r + 1) + 1 = (k + r + 1) + 1 by omega, isobathref02_cells.l0, if_pos (by omega), if_pos (by omega), rd_nat hlt, hw, wrap_succ hlt (by omega), ih, drop_cons hlt, Srch.okL]
    by_cases q1 : l[i] < 0
    · rw [if_pos q1, decide_eq_false (by omega)]
      rfl
    rw [if_neg q1, decide_eq_true (show 0 ≤ l[i] by omega), Bool.true_and]
    by_cases q2 : l[i] ≥ wd * hg
    · rw [if_pos q2, decide_eq_false (by omega)]
      rfl
    rw [if_neg q2, decide_eq_true (show l[i] < wd * hg by omega), Bool.true_and]
    by_cases q3 : (i : Int) > 0
    · obtain ⟨e1, e2⟩ := Srch.rd_prev (l := l) (i := i) (by omega) (by omega)
      rw [if_pos q3, e1, if_pos (by omega), if_pos (by omega), e2]
      by_cases q4 : l[i] ≤ Srch.prev l i
      · rw [if_pos q4, decide_eq_false (by omega)]
        rfl
      · rw [if_neg q4, decide_eq_true (show Srch.prev l i < l[i] by omega), Bool.true_and]
    · have e : Srch.prev l i = -1 := by
        unfold Srch.prev
        rw [if_pos (by omega)]
      rw [if_neg q3, e, decide_eq_true (show -1 < l[i] by omega), Bool.true_and]
theorem Srch.cells_f (hw0 : 1 ≤ wd) (hw1 : wd ≤ 24) (hh0 : 1 ≤ hg) (hh1 : hg ≤ 24) {l : List Int} (hn : l.length ≤ 1000000) {k : Nat} (hk : l.length < k) : isobathref02_cells.f k wd hg l = some (Srch.okL (wd * hg) (-1) l) := by
  obtain ⟨k, rfl⟩ : ∃ k', k = k' + l.length + 1 := ⟨k - l.length - 1, by omega⟩
  exact Srch.cells_l0 hw0 hw1 hh0 hh1 hn l.length 0 k (by omega)
end
def Srch.okS (a b : Int) : Bool := decide (a ≤ b) && decide (-4 ≤ a) && decide (b ≤ 4)
theorem Srch.check1 (a b : Int) : mooring_area_check_1.f a b = some (!Srch.okS a b) := by
  unfold mooring_area_check_1.f Srch.okS
  by_cases q1 : a > b
  · rw [if_pos q1, decide_eq_false (by omega)]
    rfl
  rw [if_neg q1, decide_eq_true (show a ≤ b by omega), Bool.true_and]
  by_cases q2 : a < -4
  · rw [if_pos q2, decide_eq_false (by omega)]
    rfl
  rw [if_neg q2, decide_eq_true (show -4 ≤ a by omega), Bool.true_and]
  by_cases q3 : b > 4
  · rw [decide_eq_true q3, decide_eq_false (by omega)]
    rfl
  · rw [decide_eq_false q3, decide_eq_true (show b ≤ 4 by omega)]
    rfl
theorem Srch.shift (a b : Int) : isobathref02_shift.f a b = some (Srch.okS a b) := by
  unfold isobathref02_shift.f Srch.okS
  by_cases q1 : a ≤ b
  · rw [if_pos q1, decide_eq_true q1, Bool.true_and]
    by_cases q2 : a ≥ -4
    · rw [if_pos q2, decide_eq_true (show -4 ≤ a by omega), Bool.true_and]
    · rw [if_neg q2, decide_eq_false (show ¬ -4 ≤ a by omega)]
      rfl
  · rw [if_neg q1, decide_eq_false q1]
    rfl
def Srch.okH (m : Int) (h : S79) : Bool := Srch.okS h.f0.f0 h.f0.f1 && Srch.okS h.f1.f0 h.f1.f1 && Srch.okL m (-1) h.f2
def Srch.Few (l : List S79) : Prop := l.length ≤ 60 ∧ ∀ h ∈ l, h.f2.length ≤ 700
theorem Srch.hour_at {l : List S79} {i : Nat} (h : i < l.length) : rd_T79 l (i : Int) = l[i] := by
  unfold rd_T79
  rw [Int.toNat_natCast]
  simp [List.getD, h]
def Srch.err (wd hg : Int) (st : List Int) (l : List S79) : Int := if 48 < l.length then 6 else if 1 ≤ wd ∧ wd ≤ 24 ∧ 1 ≤ hg ∧ hg ≤ 24 ∧ Srch.okL (wd * hg) (-1) st = true ∧ l.all (Srch.okH (wd * hg)) = true then 0 else 2
section
variable {wd hg : Int} {st : List Int} {l : List S79}
theorem Srch.check_l0 (hl : Srch.Few l) (hw0 : 1 ≤ wd) (hw1 : wd ≤ 24) (hh0 : 1 ≤ hg) (hh1 : hg ≤ 24) : ∀ (r i k : Nat), i + r = l.length → r + 1100 ≤ k → mooring_area_check.l0 k l (l.length : Int) (i : Int) wd hg = some (if (l.drop i).all (Srch.okH (wd * hg)) = true then 0 else 2)
  | 0, i, k, hi, hk => by
    obtain ⟨k, rfl⟩ : ∃ k', k = k' + 1 := ⟨k - 1, by omega⟩
    rw [mooring_area_check.l0, if_neg (by omega), List.drop_eq_nil_of_le (by omega)]
    rfl
  | r + 1, i, k, hi, hk => by
    obtain ⟨k, rfl⟩ : ∃ k', k = k' + 1 := ⟨k - 1, by omega⟩
    have hlt : i < l.length := by omega
    have h60 := hl.1
    have hs := hl.2 _ (List.getElem_mem hlt)
    rw [mooring_area_check.l0, if_pos (by omega), if_pos (by omega), if_pos (by omega), Srch.hour_at hlt, Srch.check1, Srch.check1, Srch.has_f hw0 hw1 hh0 hh1 (by omega) (by omega), wrap_succ hlt (by omega), Srch.check_l0 hl hw0 hw1 hh0 hh1 r (i + 1) k (by omega) (by omega), drop_cons hlt, List.all_cons]
    simp only [Option.bind_some, Srch.okH]
    by_cases u1 : Srch.okS l[i].f0.f0 l[i].f0.f1 = true <;> by_cases u2 : Srch.okS l[i].f1.f0 l[i].f1.f1 = true <;> by_cases u3 : Srch.okL (wd * hg) (-1) l[i].f2 = true <;> simp [u1, u2, u3]
theorem Srch.search_l0 (hl : Srch.Few l) (hst : st.length ≤ 700) (hw0 : 1 ≤ wd) (hw1 : wd ≤ 24) (hh0 : 1 ≤ hg) (hh1 : hg ≤ 24) : ∀ (r i k : Nat), i + r = l.length → r + 1100 ≤ k → isobathref02_search.l0 k st l (i : Int) wd hg = some (if Srch.okL (wd * hg) (-1) st = true ∧ (l.drop i).all (Srch.okH (wd * hg)) = true then 0 else 2)
  | 0, i, k, hi, hk => by
    obtain ⟨k, rfl⟩ : ∃ k', k = k' + 1 := ⟨k - 1, by omega⟩
    rw [isobathref02_search.l0, if_neg (by omega), List.drop_eq_nil_of_le (by omega), Srch.cells_f hw0 hw1 hh0 hh1 (by omega) (by omega), Option.bind_some]
    by_cases u : Srch.okL (wd * hg) (-1) st = true <;> simp [u]
  | r + 1, i, k, hi, hk => by
    obtain ⟨k, rfl⟩ : ∃ k', k = k' + 1 := ⟨k - 1, by omega⟩
    have hlt : i < l.length := by omega
    have h60 := hl.1
    have hs := hl.2 _ (List.getElem_mem hlt)
    rw [isobathref02_search.l0, if_pos (by omega), if_pos (by omega), Srch.hour_at hlt, Srch.shift, Srch.shift, Srch.cells_f hw0 hw1 hh0 hh1 (by omega) (by omega), wrap_succ hlt (by omega), Srch.search_l0 hl hst hw0 hw1 hh0 hh1 r (i + 1) k (by omega) (by omega), drop_cons hlt, List.all_cons]
    simp only [Option.bind_some, Srch.okH]
    by_cases u1 : Srch.okS l[i].f0.f0 l[i].f0.f1 = true <;> by_cases u2 : Srch.okS l[i].f1.f0 l[i].f1.f1 = true <;> by_cases u3 : Srch.okL (wd * hg) (-1) l[i].f2 = true <;> simp [u1, u2, u3]
theorem Srch.check_f (hl : Srch.Few l) (hst : st.length ≤ 700) {k : Nat} (hk : 1200 ≤ k) : mooring_area_check.f k wd hg st l = some (Srch.err wd hg st l) := by
  have h60 := hl.1
  unfold mooring_area_check.f Srch.err
  by_cases q0 : 48 < l.length
  · rw [if_pos (by omega), if_pos q0]
  rw [if_neg (by omega), if_neg q0]
  obtain ⟨k, rfl⟩ : ∃ k', k = k' + 1 := ⟨k - 1, by omega⟩
  have e1 : mn wd hg < 1 ↔ wd < 1 ∨ hg < 1 := by unfold mn; split <;> omega
  have e2 : mx wd hg > 24 ↔ wd > 24 ∨ hg > 24 := by unfold mx; split <;> omega
  by_cases q1 : mn wd hg < 1
  · rw [if_pos q1, mooring_area_check.j0, if_pos rfl, if_neg (by rw [e1] at q1; omega)]
  rw [if_neg q1]
  by_cases q2 : mx wd hg > 24
  · rw [if_pos q2, mooring_area_check.j0, if_pos rfl, if_neg (by rw [e2] at q2; omega)]
  rw [if_neg q2]
  rw [e1] at q1
  rw [e2] at q2
  have hw0 : 1 ≤ wd := by omega
  have hw1 : wd ≤ 24 := by omega
  have hh0 : 1 ≤ hg := by omega
  have hh1 : hg ≤ 24 := by omega
  rw [Srch.has_f hw0 hw1 hh0 hh1 (by omega) (by omega), Option.bind_some, mooring_area_check.j0]
  by_cases q3 : Srch.okL (wd * hg) (-1) st = true
  · have h := Srch.check_l0 hl hw0 hw1 hh0 hh1 l.length 0 k (by omega) (by omega)
    rw [show ((0 : Nat) : Int) = 0 from rfl, List.drop_zero] at h
    rw [q3, if_neg (by decide), h]
    simp [hw0, hw1, hh0, hh1]
  · rw [if_pos (by simpa using q3), if_neg (by simp [q3])]
theorem Srch.search_f (hl : Srch.Few l) (hst : st.length ≤ 700) {k : Nat} (hk : 1200 ≤ k) : isobathref02_search.f k wd hg st l = some (Srch.err wd hg st l) := by
  have h60 := hl.1
  unfold isobathref02_search.f Srch.err
  by_cases q0 : 48 < l.length
  · rw [if_pos (by omega), if_pos q0]
  rw [if_neg (by omega), if_neg q0]
  obtain ⟨k, rfl⟩ : ∃ k', k = k' + 1 := ⟨k - 1, by omega⟩
  by_cases q1 : wd < 1
  · rw [if_pos q1, isobathref02_search.j0, if_pos rfl, if_neg (by omega)]
  rw [if_neg q1]
  by_cases q2 : wd > 24
  · rw [if_pos q2, isobathref02_search.j0, if_pos rfl, if_neg (by omega)]
  rw [if_neg q2]
  by_cases q3 : hg < 1
  · rw [if_pos q3, isobathref02_search.j0, if_pos rfl, if_neg (by omega)]
  rw [if_neg q3, isobathref02_search.j0]
  by_cases q4 : hg > 24
  · rw [decide_eq_true q4, if_pos rfl, if_neg (by omega)]
  rw [decide_eq_false q4, if_neg (by decide)]
  have hw0 : 1 ≤ wd := by omega
  have hw1 : wd ≤ 24 := by omega
  have hh0 : 1 ≤ hg := by omega
  have hh1 : hg ≤ 24 := by omega
  have h := Srch.search_l0 hl hst hw0 hw1 hh0 hh1 l.length 0 k (by omega) (by omega)
  rw [show ((0 : Nat) : Int) = 0 from rfl, List.drop_zero] at h
  rw [h]
  simp [hw0, hw1, hh0, hh1]
end
theorem Srch.err_ok {wd hg : Int} {st : List Int} {l : List S79} (h : Srch.err wd hg st l = 0) : l.length ≤ 48 ∧ 1 ≤ wd ∧ wd ≤ 24 ∧ 1 ≤ hg ∧ hg ≤ 24 ∧ Srch.okL (wd * hg) (-1) st = true ∧ ∀ x ∈ l, Srch.okH (wd * hg) x = true := by
  unfold Srch.err at h
  by_cases q0 : 48 < l.length
  · rw [if_pos q0] at h
    cases h
  rw [if_neg q0] at h
  by_cases q1 : 1 ≤ wd ∧ wd ≤ 24 ∧ 1 ≤ hg ∧ hg ≤ 24 ∧ Srch.okL (wd * hg) (-1) st = true ∧ l.all (Srch.okH (wd * hg)) = true
  · obtain ⟨a, b, c, d, e, f⟩ := q1
    exact ⟨by omega, a, b, c, d, e, fun x hx => List.all_eq_true.1 f x hx⟩
  · rw [if_neg q1] at h
    cases h
theorem Srch.err_of {wd hg : Int} {st : List Int} {l : List S79} (h0 : l.length ≤ 48) (hw0 : 1 ≤ wd) (hw1 : wd ≤ 24) (hh0 : 1 ≤ hg) (hh1 : hg ≤ 24) (h1 : Srch.okL (wd * hg) (-1) st = true) (h2 : ∀ x ∈ l, Srch.okH (wd * hg) x = true) : Srch.err wd hg st l = 0 := by
  unfold Srch.err
  rw [if_neg (by omega), if_pos ⟨hw0, hw1, hh0, hh1, h1, List.all_eq_true.2 h2⟩]
def Srch.next (wd hg : Int) (mk : List Bool) (h : S79) : List Bool := Srch.unmark (Srch.hourMk wd hg h.f0.f0 h.f0.f1 h.f1.f0 h.f1.f1 (List.replicate (wd * hg).toNat false) (Srch.list mk (wd * hg).toNat)) h.f2
def Srch.lost (wd hg : Int) (mk : List Bool) (h : S79) : Bool := Srch.hourLf wd hg h.f0.f0 h.f0.f1 h.f1.f0 h.f1.f1 (Srch.list mk (wd * hg).toNat)
def Srch.go (wd hg : Int) : List S79 → List Bool × Bool → List Bool × Bool
  | [], p => p
  | h :: l, p => Srch.go wd hg l (Srch.next wd hg p.1 h, p.2 || Srch.lost wd hg p.1 h)
theorem Srch.go_append (wd hg : Int) : ∀ (l l' : List S79) (p : List Bool × Bool), Srch.go wd hg (l ++ l') p = Srch.go wd hg l' (Srch.go wd hg l p)
  | [], _, _ => rfl
  | h :: l, l', p => Srch.go_append wd hg l l' _
theorem Srch.next_length (wd hg : Int) (mk : List Bool) (h : S79) : (Srch.next wd hg mk h).length = (wd * hg).toNat := by
  unfold Srch.next
  rw [Srch.unmark_length, Srch.hourMk_length, List.length_replicate]
theorem Srch.list_mem {mk : List Bool} {m : Nat} {x : Int} (h : x ∈ Srch.list mk m) : 0 ≤ x ∧ x < (m : Int) := by
  rw [Srch.list_from] at h
  have := Srch.from_range mk m 0 x h
  omega
section
variable {wd hg : Int} {st : List Int} {l : List S79}
theorem Srch.hour_f (hw0 : 1 ≤ wd) (hw1 : wd ≤ 24) (hh0 : 1 ≤ hg) (hh1 : hg ≤ 24) {h : S79} (hH : Srch.okH (wd * hg) h = true) (h7 : h.f2.length ≤ 700) (mk : List Bool) : mooring_area_hour.f wd hg (Srch.list mk (wd * hg).toNat) h.f0.f0 h.f0.f1 h.f1.f0 h.f1.f1 h.f2 = some (Srch.list (Srch.next wd hg mk h) (wd * hg).toNat, Srch.lost wd hg mk h) := by
  have hA := Srch.area_le hw0 hw1 hh0 hh1
  have h0 : 0 ≤ wd * hg := Int.mul_nonneg (by omega) (by omega)
  have hl := Srch.list_le mk (wd * hg).toNat
  simp only [Srch.okH, Srch.okS, Bool.and_eq_true, decide_eq_true_eq] at hH
  obtain ⟨⟨⟨⟨a1, a2⟩, a3⟩, ⟨b1, b2⟩, b3⟩, c⟩ := hH
  have hs := (Srch.okL_spec _ _ c).1
  have fit : Srch.fits wd hg h.f0.f0 h.f0.f1 h.f1.f0 h.f1.f1 (Srch.list mk (wd * hg).toNat) h.f2 = true := by
    unfold Srch.fits
    simp only [Bool.and_eq_true, decide_eq_true_eq, List.all_eq_true]
    refine ⟨⟨⟨⟨⟨⟨⟨⟨⟨⟨⟨⟨⟨hw0, hw1⟩, hh0⟩, hh1⟩, a2⟩, a1⟩, a3⟩, b2⟩, b1⟩, b3⟩, by omega⟩, by omega⟩, fun x hx => ?_⟩, fun x hx => ⟨(hs x hx).1, (hs x hx).2.1⟩⟩
    have := Srch.list_mem hx
    exact ⟨this.1, by omega⟩
  unfold mooring_area_hour.f
  rw [if_pos fit]
  rfl
theorem Srch.drift_f (hw0 : 1 ≤ wd) (hw1 : wd ≤ 24) (hh0 : 1 ≤ hg) (hh1 : hg ≤ 24) {h : S79} (hH : Srch.okH (wd * hg) h = true) (h7 : h.f2.length ≤ 700) {mk : List Bool} (hm : mk.length = (wd * hg).toNat) {k : Nat} (hk : 71000 ≤ k) : isobathref02_Drift.f k wd hg mk h.f0.f0 h.f0.f1 h.f1.f0 h.f1.f1 h.f2 = some (Srch.next wd hg mk h, Srch.lost wd hg mk h) := by
  have h0 : 0 ≤ wd * hg := Int.mul_nonneg (by omega) (by omega)
  simp only [Srch.okH, Srch.okS, Bool.and_eq_true, decide_eq_true_eq] at hH
  obtain ⟨⟨⟨⟨a1, a2⟩, a3⟩, ⟨b1, b2⟩, b3⟩, c⟩ := hH
  have hs := (Srch.okL_spec _ _ c).1
  rw [Srch.ref_drift hw0 hw1 hh0 hh1 (by omega) a2 a1 a3 b2 b1 b3 (fun x hx => ⟨(hs x hx).1, (hs x hx).2.1⟩) (by omega) hk]
  rfl
theorem Srch.where_l0 (hw0 : 1 ≤ wd) (hw1 : wd ≤ 24) (hh0 : 1 ≤ hg) (hh1 : hg ≤ 24) (hl : Srch.Few l) (hH : ∀ x ∈ l, Srch.okH (wd * hg) x = true) : ∀ (r i : Nat) (mk : List Bool) (lf : Bool) (k : Nat), i + r = l.length → r < k → mooring_Where.l0 k (Srch.list mk (wd * hg).toNat) lf l (l.length : Int) (i : Int) wd hg = some (Srch.list (Srch.go wd hg (l.drop i) (mk, lf)).1 (wd * hg).toNat, (Srch.go wd hg (l.drop i) (mk, lf)).2, 0)
  | 0, i, mk, lf, k, hi, hk => by
    obtain ⟨k, rfl⟩ : ∃ k', k = k' + 1 := ⟨k - 1, by omega⟩
    rw [mooring_Where.l0, if_neg (by omega), List.drop_eq_nil_of_le (by omega)]
    rfl
  | r + 1, i, mk, lf, k, hi, hk => by
    obtain ⟨k, rfl⟩ : ∃ k', k = k' + 1 := ⟨k - 1, by omega⟩
    have hlt : i < l.length := by omega
    have h60 := hl.1
    rw [mooring_Where.l0, if_pos (by omega), if_pos (by omega), if_pos (by omega), Srch.hour_at hlt, Srch.hour_f hw0 hw1 hh0 hh1 (hH _ (List.getElem_mem hlt)) (hl.2 _ (List.getElem_mem hlt)) mk, Option.bind_some, wrap_succ hlt (by omega), drop_cons hlt, Srch.go]
    cases lf with
    | true => rw [if_pos rfl]; exact Srch.where_l0 hw0 hw1 hh0 hh1 hl hH r (i + 1) _ _ k (by omega) (by omega)
    | false => rw [if_neg (by decide), Bool.false_or]; exact Srch.where_l0 hw0 hw1 hh0 hh1 hl hH r (i + 1) _ _ k (by omega) (by omega)
theorem Srch.refWhere_l0 (hw0 : 1 ≤ wd) (hw1 : wd ≤ 24) (hh0 : 1 ≤ hg) (hh1 : hg ≤ 24) (hl : Srch.Few l) (hH : ∀ x ∈ l, Srch.okH (wd * hg) x = true) : ∀ (r i : Nat) (mk : List Bool) (lf : Bool) (k : Nat), i + r = l.length → mk.length = (wd * hg).toNat → r + 72000 ≤ k → isobathref02_Where.l0 k l mk lf (i : Int) wd hg = some (Srch.list (Srch.go wd hg (l.drop i) (mk, lf)).1 (wd * hg).toNat, (Srch.go wd hg (l.drop i) (mk, lf)).2, 0)
  | 0, i, mk, lf, k, hi, hm, hk => by
    have hA := Srch.area_le hw0 hw1 hh0 hh1
    obtain ⟨k, rfl⟩ : ∃ k', k = k' + 1 := ⟨k - 1, by omega⟩
    rw [isobathref02_Where.l0, if_neg (by omega), List.drop_eq_nil_of_le (by omega), Srch.ref_numbers (by omega) (by omega), hm, Option.bind_some]
    rfl
  | r + 1, i, mk, lf, k, hi, hm, hk => by
    obtain ⟨k, rfl⟩ : ∃ k', k = k' + 1 := ⟨k - 1, by omega⟩
    have hlt : i < l.length := by omega
    have h60 := hl.1
    rw [isobathref02_Where.l0, if_pos (by omega), if_pos (by omega), Srch.hour_at hlt, Srch.drift_f hw0 hw1 hh0 hh1 (hH _ (List.getElem_mem hlt)) (hl.2 _ (List.getElem_mem hlt)) hm (by omega), Option.bind_some, wrap_succ hlt (by omega), drop_cons hlt, Srch.go]
    cases lf with
    | true => rw [if_pos rfl]; exact Srch.refWhere_l0 hw0 hw1 hh0 hh1 hl hH r (i + 1) _ _ k (by omega) (Srch.next_length _ _ _ _) (by omega)
    | false => rw [if_neg (by decide), Bool.false_or]; exact Srch.refWhere_l0 hw0 hw1 hh0 hh1 hl hH r (i + 1) _ _ k (by omega) (Srch.next_length _ _ _ _) (by omega)
end
def Srch.start (wd hg : Int) (st : List Int) : List Bool := Srch.marks (List.replicate (wd * hg).toNat false) st
theorem Srch.start_length (wd hg : Int) (st : List Int) : (Srch.start wd hg st).length = (wd * hg).toNat := by
  unfold Srch.start
  rw [Srch.marks_length, List.length_replicate]
theorem Srch.start_list {wd hg : Int} (hw0 : 1 ≤ wd) (hh0 : 1 ≤ hg) {st : List Int} (h : Srch.okL (wd * hg) (-1) st = true) : Srch.list (Srch.start wd hg st) (wd * hg).toNat = st := by
  have h0 : 0 ≤ wd * hg := Int.mul_nonneg (by omega) (by omega)
  obtain ⟨h1, h2⟩ := Srch.okL_spec _ _ h
  exact Srch.list_marks h2 fun x hx => ⟨(h1 x hx).1, by have := (h1 x hx).2.1; omega⟩
def Srch.whr (wd hg : Int) (st : List Int) (l : List S79) : List Int × Bool × Int :=
  if Srch.err wd hg st l = 0 then (Srch.list (Srch.go wd hg l (Srch.start wd hg st, false)).1 (wd * hg).toNat, (Srch.go wd hg l (Srch.start wd hg st, false)).2, 0) else ([], false, Srch.err wd hg st l)
section
variable {wd hg : Int} {st : List Int} {l : List S79}
theorem Srch.where_f (hl : Srch.Few l) (hst : st.length ≤ 700) {k : Nat} (hk : 1200 ≤ k) : mooring_Where.f k wd hg st l = some (Srch.whr wd hg st l) := by
  unfold mooring_Where.f Srch.whr
  rw [Srch.check_f hl hst hk, Option.bind_some]
  by_cases q : Srch.err wd hg st l = 0
  · obtain ⟨h48, hw0, hw1, hh0, hh1, hS, hH⟩ := Srch.err_ok q
    rw [if_pos q, if_pos q]
    unfold slices_Clone_int_int.f
    rw [if_pos (by omega), Option.bind_some]
    have h := Srch.where_l0 hw0 hw1 hh0 hh1 hl hH l.length 0 (Srch.start wd hg st) false k (by omega) (by omega)
    rw [show ((0 : Nat) : Int) = 0 from rfl, List.drop_zero, Srch.start_list hw0 hh0 hS] at h
    exact h
  · rw [if_neg q, if_neg q]
theorem Srch.refWhere_f (hl : Srch.Few l) (hst : st.length ≤ 700) {k : Nat} (hk : 73000 ≤ k) : isobathref02_Where.f k wd hg st l = some (Srch.whr wd hg st l) := by
  unfold isobathref02_Where.f Srch.whr
  rw [Srch.search_f hl hst (by omega), Option.bind_some]
  by_cases q : Srch.err wd hg st l = 0
  · obtain ⟨h48, hw0, hw1, hh0, hh1, hS, hH⟩ := Srch.err_ok q
    obtain ⟨h1, h2⟩ := Srch.okL_spec _ _ hS
    rw [if_pos q, if_pos q, Srch.ref_marked hw0 hw1 hh0 hh1 (fun x hx => ⟨(h1 x hx).1, (h1 x hx).2.1⟩) (by omega) (by omega), Option.bind_some]
    have h := Srch.refWhere_l0 hw0 hw1 hh0 hh1 hl hH l.length 0 (Srch.start wd hg st) false k (by omega) (Srch.start_length _ _ _) (by omega)
    rw [show ((0 : Nat) : Int) = 0 from rfl, List.drop_zero] at h
    exact h
  · rw [if_neg q, if_neg q]
end
def Srch.fnd (wd hg : Int) : Nat → List S79 → List Bool → Int × Int
  | n, [], mk => if (Srch.list mk (wd * hg).toNat).length = 0 then ((n : Int), 0) else (0, 5)
  | n, h :: l, mk => if (Srch.list mk (wd * hg).toNat).length = 0 then ((n : Int), 0) else if Srch.lost wd hg mk h = true then (0, 5) else Srch.fnd wd hg (n + 1) l (Srch.next wd hg mk h)
def Srch.fndE (wd hg : Int) (st : List Int) (l : List S79) : Int × Int := if Srch.err wd hg st l = 0 then Srch.fnd wd hg 0 l (Srch.start wd hg st) else (0, Srch.err wd hg st l)
theorem Srch.found_l0 {wd hg : Int} {l : List S79} (hw0 : 1 ≤ wd) (hw1 : wd ≤ 24) (hh0 : 1 ≤ hg) (hh1 : hg ≤ 24) (hl : Srch.Few l) (hH : ∀ x ∈ l, Srch.okH (wd * hg) x = true) : ∀ (r i : Nat) (mk : List Bool) (k : Nat), i + r = l.length → r < k → mooring_Found.l0 k l (Srch.list mk (wd * hg).toNat) l (l.length : Int) (i : Int) wd hg = some (Srch.fnd wd hg i (l.drop i) mk)
  | 0, i, mk, k, hi, hk => by
    obtain ⟨k, rfl⟩ : ∃ k', k = k' + 1 := ⟨k - 1, by omega⟩
    rw [mooring_Found.l0, if_neg (by omega), List.drop_eq_nil_of_le (by omega), Srch.fnd]
    by_cases q : (Srch.list mk (wd * hg).toNat).length = 0
    · rw [if_pos q, if_neg (by omega), show i = l.length by omega]
    · rw [if_neg q, if_pos (by omega)]
  | r + 1, i, mk, k, hi, hk => by
    obtain ⟨k, rfl⟩ : ∃ k', k = k' + 1 := ⟨k - 1, by omega⟩
    have hlt : i < l.length := by omega
    have h60 := hl.1
    rw [mooring_Found.l0, if_pos (by omega), if_pos (by omega), if_pos (by omega), drop_cons hlt, Srch.fnd]
    by_cases q : (Srch.list mk (wd * hg).toNat).length = 0
    · rw [if_pos q, if_pos (by omega)]
    rw [if_neg q, if_neg (by omega), Srch.hour_at hlt, Srch.hour_f hw0 hw1 hh0 hh1 (hH _ (List.getElem_mem hlt)) (hl.2 _ (List.getElem_mem hlt)) mk, Option.bind_some, wrap_succ hlt (by omega)]
    by_cases q2 : Srch.lost wd hg mk l[i] = true
    · rw [if_pos q2, if_pos q2]
    · rw [if_neg q2, if_neg q2]
      exact Srch.found_l0 hw0 hw1 hh0 hh1 hl hH r (i + 1) _ k (by omega) (by omega)
section
variable {wd hg : Int} {st : List Int} {l : List S79}
theorem Srch.found_f (hl : Srch.Few l) (hst : st.length ≤ 700) {k : Nat} (hk : 1200 ≤ k) : mooring_Found.f k wd hg st l = some (Srch.fndE wd hg st l) := by
  unfold mooring_Found.f Srch.fndE
  rw [Srch.check_f hl hst hk, Option.bind_some]
  by_cases q : Srch.err wd hg st l = 0
  · obtain ⟨h48, hw0, hw1, hh0, hh1, hS, hH⟩ := Srch.err_ok q
    rw [if_pos q, if_pos q]
    have h := Srch.found_l0 hw0 hw1 hh0 hh1 hl hH l.length 0 (Srch.start wd hg st) k (by omega) (by omega)
    rw [show ((0 : Nat) : Int) = 0 from rfl, List.drop_zero, Srch.start_list hw0 hh0 hS] at h
    exact h
  · rw [if_neg q, if_neg q]
theorem Srch.whr_take (hl : Srch.Few l) (hst : st.length ≤ 700) (q : Srch.err wd hg st l = 0) (i : Nat) : Srch.Few (l.take i) ∧ Srch.whr wd hg st (l.take i) = (Srch.list (Srch.go wd hg (l.take i) (Srch.start wd hg st, false)).1 (wd * hg).toNat, (Srch.go wd hg (l.take i) (Srch.start wd hg st, false)).2, 0) := by
  obtain ⟨h48, hw0, hw1, hh0, hh1, hS, hH⟩ := Srch.err_ok q
  refine ⟨⟨?_, fun h hh => hl.2 h (List.mem_of_mem_take hh)⟩, ?_⟩
  · rw [List.length_take]
    have := hl.1
    omega
  · unfold Srch.whr
    rw [if_pos (Srch.err_of (by rw [List.length_take]; omega) hw0 hw1 hh0 hh1 hS fun x hx => hH x (List.mem_of_mem_take hx))]
theorem Srch.refFound_l0 (hl : Srch.Few l) (hst : st.length ≤ 700) (q : Srch.err wd hg st l = 0) : ∀ (r i : Nat) (mk : List Bool) (k : Nat), i + r = l.length → Srch.go wd hg (l.take i) (Srch.start wd hg st, false) = (mk, false) → r + 74000 ≤ k → isobathref02_Found.l0 k st l (i : Int) wd hg = some (Srch.fnd wd hg i (l.drop i) mk)
  | 0, i, mk, k, hi, hgo, hk => by
    obtain ⟨k, rfl⟩ : ∃ k', k = k' + 1 + 1 := ⟨k - 2, by omega⟩
    obtain ⟨hF, hW⟩ := Srch.whr_take hl hst q i
    have h60 := hl.1
    rw [hgo] at hW
    rw [isobathref02_Found.l0, if_pos (by omega), if_pos (Int.natCast_nonneg _), Int.toNat_natCast, Srch.refWhere_f hF hst (by omega), Option.bind_some, hW, List.drop_eq_nil_of_le (by omega), Srch.fnd]
    simp only [Bool.false_eq_true, if_false]
    by_cases q1 : (Srch.list mk (wd * hg).toNat).length = 0
    · rw [if_pos q1, if_pos (by omega)]
    · rw [if_neg q1, if_neg (by omega), isobathref02_Found.l0, wrap_id (by omega) (by omega), if_neg (by omega)]
  | r + 1, i, mk, k, hi, hgo, hk => by
    obtain ⟨k, rfl⟩ : ∃ k', k = k' + 1 := ⟨k - 1, by omega⟩
    obtain ⟨hF, hW⟩ := Srch.whr_take hl hst q i
    have hlt : i < l.length := by omega
    have h60 := hl.1
    have hgo2 : Srch.go wd hg (l.take (i + 1)) (Srch.start wd hg st, false) = (Srch.next wd hg mk l[i], Srch.lost wd hg mk l[i]) := by
      rw [take_snoc hlt, Srch.go_append, hgo]
      rfl
    rw [hgo] at hW
    rw [isobathref02_Found.l0, if_pos (by omega), if_pos (Int.natCast_nonneg _), Int.toNat_natCast, Srch.refWhere_f hF hst (by omega), Option.bind_some, hW, drop_cons hlt, Srch.fnd]
    simp only [Bool.false_eq_true, if_false]
    by_cases q1 : (Srch.list mk (wd * hg).toNat).length = 0
    · rw [if_pos q1, if_pos (by omega)]
    rw [if_neg q1, if_neg (by omega), wrap_succ hlt (by omega)]
    by_cases q2 : Srch.lost wd hg mk l[i] = true
    · obtain ⟨k, rfl⟩ : ∃ k', k = k' + 1 := ⟨k - 1, by omega⟩
      obtain ⟨hF2, hW2⟩ := Srch.whr_take hl hst q (i + 1)
      rw [hgo2, q2] at hW2
      rw [if_pos q2, isobathref02_Found.l0, if_pos (by omega), if_pos (Int.natCast_nonneg _), Int.toNat_natCast, Srch.refWhere_f hF2 hst (by omega), Option.bind_some, hW2]
      simp only [if_true]
    · have q3 : Srch.lost wd hg mk l[i] = false := by simpa using q2
      rw [q3] at hgo2
      rw [if_neg q2]
      exact Srch.refFound_l0 hl hst q r (i + 1) _ k (by omega) hgo2 (by omega)
theorem Srch.refFound_f (hl : Srch.Few l) (hst : st.length ≤ 700) {k : Nat} (hk : 75000 ≤ k) : isobathref02_Found.f k wd hg st l = some (Srch.fndE wd hg st l) := by
  unfold isobathref02_Found.f Srch.fndE
  rw [Srch.search_f hl hst (by omega), Option.bind_some]
  by_cases q : Srch.err wd hg st l = 0
  · have h60 := hl.1
    rw [if_pos q, if_pos q]
    have h := Srch.refFound_l0 hl hst q l.length 0 (Srch.start wd hg st) k (by omega) rfl (by omega)
    rw [show ((0 : Nat) : Int) = 0 from rfl, List.drop_zero] at h
    exact h
  · rw [if_neg q, if_neg q]
end
end Go.Proofs.Ytebcmhajbjkojaa.P
namespace Go.Proofs.Ytebcmhajbjkojaa.P
open Go.RowKit Go.Proofs.YtebcmhajbjkojaaW.PrintWords Go.Proofs.YtebcmhajbjkojaaW.PrintLast Go.Proofs.YtebcmhajbjkojaaW.PrintMore
attribute [local go_sem] max2_int min2_int max_two min_two max_three min_three max_four min_four   -- for this text's walks alone
set_option linter.unusedVariables false
set_option linter.unusedSimpArgs false
theorem Law2.wide_l0 {l : List S79} (hn : l.length ≤ 60) : ∀ (r i k : Nat), i + r = l.length → r < k → isobathlaw02_wide.l0 k l (i : Int) = some ((l.drop i).any fun h => decide (700 < h.f2.length))
  | 0, i, k, hi, hk => by
    obtain ⟨k, rfl⟩ : ∃ k', k = k' + 1 := ⟨k - 1, by omega⟩
    rw [isobathlaw02_wide.l0, if_neg (by omega), List.drop_eq_nil_of_le (by omega)]
    rfl
  | r + 1, i, k, hi, hk => by
    obtain ⟨k, rfl⟩ : ∃ k', k = k' + 1 := ⟨k - 1, by omega⟩
    have hlt : i < l.length := by omega
    rw [isobathlaw02_wide.l0, if_pos (by omega), if_pos (by omega), Srch.hour_at hlt, wrap_succ hlt (by omega), Law2.wide_l0 hn r (i + 1) k (by omega) (by omega), drop_cons hlt, List.any_cons]
    by_cases q : 700 < l[i].f2.length
    · rw [if_pos (by omega), decide_eq_true q, Bool.true_or]
    · rw [if_neg (by omega), decide_eq_false q, Bool.false_or]
theorem Law2.wide (st : List Int) (l : List S79) {k : Nat} (hk : 70 ≤ k) : ∃ b, isobathlaw02_wide.f k st l = some b ∧ (b = false → st.length ≤ 700 ∧ Srch.Few l) := by
  unfold isobathlaw02_wide.f
  obtain ⟨k, rfl⟩ : ∃ k', k = k' + 1 := ⟨k - 1, by omega⟩
  have big : isobathlaw02_wide.j0 (k + 1) l true = some true := by
    rw [isobathlaw02_wide.j0, if_pos rfl]
  have small : ∃ b, isobathlaw02_wide.j0 (k + 1) l (decide ((l.length : Int) > 60)) = some b ∧ (b = false → Srch.Few l) := by
    rw [isobathlaw02_wide.j0]
    by_cases q : (l.length : Int) > 60
    · rw [decide_eq_true q, if_pos rfl]
      exact ⟨true, rfl, fun h => by cases h⟩
    · rw [decide_eq_false q, if_neg (by decide)]
      refine ⟨_, Law2.wide_l0 (by omega) l.length 0 k (by omega) (by omega), fun h => ⟨by omega, fun x hx => ?_⟩⟩
      rw [List.drop_zero, List.any_eq_false] at h
      have := h x hx
      simpa using this
  by_cases q1 : (st.length : Int) > 700
  · rw [if_pos q1, big]
    exact ⟨true, rfl, fun h => by cases h⟩
  rw [if_neg q1]
  obtain ⟨b, hb, hF⟩ := small
  by_cases q2 : (l.length : Int) > 8
  · rw [if_pos q2]
    by_cases q3 : (l.length : Int) ≤ 48
    · rw [if_pos q3, big]
      exact ⟨true, rfl, fun h => by cases h⟩
    · rw [if_neg q3]
      exact ⟨b, hb, fun h => ⟨by omega, hF h⟩⟩
  · rw [if_neg q2]
    exact ⟨b, hb, fun h => ⟨by omega, hF h⟩⟩
theorem Srch.whr_small (wd hg : Int) (st : List Int) (l : List S79) : (Srch.whr wd hg st l).1.length ≤ 576 := by
  unfold Srch.whr
  by_cases q : Srch.err wd hg st l = 0
  · obtain ⟨h48, hw0, hw1, hh0, hh1, hS, hH⟩ := Srch.err_ok q
    have hA := Srch.area_le hw0 hw1 hh0 hh1
    rw [if_pos q]
    exact Nat.le_trans (Srch.list_le _ _) (by omega)
  · rw [if_neg q]
    exact Nat.zero_le _
theorem Law2.searches (wd hg : Int) (st : List Int) (l : List S79) : isobathlaw02_MooringSearches.f 75000 wd hg st l = some true := by
  unfold isobathlaw02_MooringSearches.f
  obtain ⟨b, hb, hF⟩ := Law2.wide st l (show 70 ≤ 75000 by omega)
  rw [hb, Option.bind_some]
  cases b with
  | true => rw [if_pos rfl, Law2.fine (by omega), Option.bind_some]
  | false =>
    obtain ⟨hst, hl⟩ := hF rfl
    have hs := Srch.whr_small wd hg st l
    rw [if_neg (by decide), Srch.where_f hl hst (by omega), Srch.refWhere_f hl hst (by omega), Srch.found_f hl hst (by omega), Srch.refFound_f hl hst (by omega)]
    simp only [Option.bind_some, if_true, beq_self_eq_true]
    rw [Law2.numbers_same (by omega) (by omega)]
    simp only [Option.bind_some, if_true]
    rw [Law2.fine (by omega), Option.bind_some]
theorem mooringSearches_holds : Rows.MooringSearchesSaid := mooringSearches.proved fun a st l _ _ _ => ⟨75000, Law2.searches a.f0 a.f1 st l⟩
#print axioms mooringSearches_holds
end Go.Proofs.Ytebcmhajbjkojaa.P
