/- MooringCodes returns true for every input and leaves it as it was: no condition beyond the row's own. Part 4 of 4. -/
import Derived.KernelRfl
import Derived.Test.YtebcmhajbjkojaaKMooringCodes0
import Derived.Test.YtebcmhajbjkojaaKMooringCodes2
namespace Go.Proofs.Ytebcmhajbjkojaa.P
open Go.RowKit Go.Proofs.YtebcmhajbjkojaaW.PrintWords Go.Proofs.YtebcmhajbjkojaaW.PrintLast Go.Proofs.YtebcmhajbjkojaaW.PrintMore
attribute [local go_sem] max2_int min2_int max_two min_two max_three min_three max_four min_four   -- for this text's walks alone
set_option linter.unusedVariables false
set_option linter.unusedSimpArgs false

-- LIB
-- WANT isobath/mooring.apart
-- WANT isobath/isobathref02.Apart
/-! ### the distance of two codes -/
/-- In how many of the lowest bits two numbers differ. -/
def Cod.cnt : Nat → Nat → Nat → Int
  | 0, _, _ => 0
  | n + 1, a, b => Cod.cnt n a b + if a.testBit n = b.testBit n then 0 else 1
def Cod.dist (a b : Int) : Int := Cod.cnt 16 a.toNat b.toNat
theorem Cod.cnt_range (n a b : Nat) : 0 ≤ Cod.cnt n a b ∧ Cod.cnt n a b ≤ n := by
  induction n with
  | zero => simp [Cod.cnt]
  | succ n ih =>
    rw [Cod.cnt]
    by_cases c : a.testBit n = b.testBit n
    · rw [if_pos c]; omega
    · rw [if_neg c]; omega
theorem Cod.cnt_comm (n a b : Nat) : Cod.cnt n a b = Cod.cnt n b a := by
  induction n with
  | zero => rfl
  | succ n ih =>
    rw [Cod.cnt, Cod.cnt, ih]
    by_cases c : a.testBit n = b.testBit n
    · rw [if_pos c, if_pos c.symm]
    · rw [if_neg c, if_neg (fun e => c e.symm)]
theorem Cod.dist_range (a b : Int) : 0 ≤ Cod.dist a b ∧ Cod.dist a b ≤ 16 := Cod.cnt_range 16 _ _
theorem Cod.dist_comm (a b : Int) : Cod.dist a b = Cod.dist b a := Cod.cnt_comm 16 _ _
/-- A way round is no shorter. -/
theorem Cod.cnt_tri (n a b c : Nat) : Cod.cnt n a c ≤ Cod.cnt n a b + Cod.cnt n b c := by
  induction n with
  | zero => simp [Cod.cnt]
  | succ n ih =>
    simp only [Cod.cnt]
    cases ha : a.testBit n <;> cases hb : b.testBit n <;> cases hc : c.testBit n <;> simp only [if_true, if_false, Bool.false_eq_true, Bool.true_eq_false, reduceCtorEq] <;> omega
theorem Cod.dist_tri (a b c : Int) : Cod.dist a c ≤ Cod.dist a b + Cod.dist b c := Cod.cnt_tri 16 _ _ _
theorem Cod.xor {a b : Nat} (ha : a < 65536) (hb : b < 65536) : Go.bits .xor .i64 (a : Int) (b : Int) = ((a ^^^ b : Nat) : Int) ∧ a ^^^ b < 65536 := by
  have h : a ^^^ b < 2 ^ 16 := Nat.xor_lt_two_pow (by omega) (by omega)
  have ha' : a % 2 ^ IntKind.i64.bits = a := Nat.mod_eq_of_lt (by simp only [IntKind.bits]; omega)
  have hb' : b % 2 ^ IntKind.i64.bits = b := Nat.mod_eq_of_lt (by simp only [IntKind.bits]; omega)
  refine ⟨?_, by omega⟩
  simp only [bits, BitVec.ofInt_natCast, BitVec.toNat_xor, BitVec.toNat_ofNat, ha', hb']
  rw [i64_w, wrap_id (by omega) (by omega)]
theorem Cod.bit {a i : Nat} : ((a / 2 ^ i % 2 : Nat) : Int) = if a.testBit i then 1 else 0 := by
  rw [Nat.testBit_eq_decide_div_mod_eq]
  by_cases c : a / 2 ^ i % 2 = 1
  · simp [c]
  · have : a / 2 ^ i % 2 = 0 := by omega
    simp [this]
theorem Cod.and1 {z : Int} (h0 : 0 ≤ z) (h1 : z < 65536) : Go.bits .and .i64 z 1 = z % 2 :=
  bits_mask .i64 62 (by decide) (fun n h h' => by rw [i64_w]; exact wrap_id (by omega) (by omega)) 1 (by decide) z h0 (by omega)
theorem Cod.step {a b i : Nat} (ha : a < 65536) (hb : b < 65536) (hi : i < 16) : Go.bits .and .i64 (shr .i64 (Go.bits .xor .i64 (a : Int) (b : Int)) (i : Int)) 1 = if a.testBit i = b.testBit i then 0 else 1 := by
  obtain ⟨h1, h2⟩ := Cod.xor ha hb
  have h3 : shr .i64 (Go.bits .xor .i64 (a : Int) (b : Int)) (i : Int) = (((a ^^^ b) / 2 ^ i : Nat) : Int) := by
    unfold shr
    rw [h1, Int.toNat_natCast, Nat.min_eq_left (by simp only [IntKind.bits]; omega)]
    simp
  have h4 : (a ^^^ b) / 2 ^ i ≤ a ^^^ b := Nat.div_le_self _ _
  have h6 := Cod.bit (a := a ^^^ b) (i := i)
  rw [h3]
  generalize (a ^^^ b) / 2 ^ i = q at h4 h6 ⊢
  rw [Cod.and1 (by omega) (by omega)]
  have h5 : ((q : Int) % 2) = ((q % 2 : Nat) : Int) := by omega
  rw [h5, h6, Nat.testBit_xor]
  cases a.testBit i <;> cases b.testBit i <;> rfl
theorem Cod.apart_l0 {a b : Nat} (ha : a < 65536) (hb : b < 65536) (n : Nat) : ∀ (k i : Nat), i + n = 16 → n < k → mooring_apart.l0 k (a : Int) (b : Int) (Cod.cnt i a b) (i : Int) = some (Cod.cnt 16 a b) := by
  induction n with
  | zero =>
    intro k i hi hk
    obtain ⟨k, rfl⟩ : ∃ m, k = m + 1 := ⟨k - 1, by omega⟩
    have e : i = 16 := by omega
    subst e
    simp only [mooring_apart.l0]
    rw [if_neg (by omega)]
  | succ n ih =>
    intro k i hi hk
    obtain ⟨k, rfl⟩ : ∃ m, k = m + 1 := ⟨k - 1, by omega⟩
    simp only [mooring_apart.l0]
    have hr := Cod.cnt_range (i + 1) a b
    rw [if_pos (by omega), if_pos (by omega), Cod.step ha hb (by omega), wrap_succ (n := 16) (by omega) (by omega)]
    have e : wrap64 (Cod.cnt i a b + if a.testBit i = b.testBit i then 0 else 1) = Cod.cnt (i + 1) a b := by
      rw [Cod.cnt] at hr
      rw [wrap_id (by omega) (by omega)]
      rfl
    rw [e]
    exact ih k (i + 1) (by omega) (by omega)
theorem Cod.apart {a b : Int} (ha0 : 0 ≤ a) (ha : a < 65536) (hb0 : 0 ≤ b) (hb : b < 65536) {k : Nat} (hk : 17 ≤ k) : mooring_apart.f k a b = some (Cod.dist a b) := by
  have h := Cod.apart_l0 (a := a.toNat) (b := b.toNat) (by omega) (by omega) 16 k 0 (by omega) (by omega)
  rw [Int.toNat_of_nonneg ha0, Int.toNat_of_nonneg hb0] at h
  exact h
theorem Cod.refApart_l0 {a b : Nat} (ha : a < 65536) (hb : b < 65536) (n : Nat) : ∀ (k i : Nat), i + n = 16 → n < k → isobathref02_Apart.l0 k ((a / 2 ^ i : Nat) : Int) ((b / 2 ^ i : Nat) : Int) (Cod.cnt i a b) (i : Int) = some (Cod.cnt 16 a b) := by
  induction n with
  | zero =>
    intro k i hi hk
    obtain ⟨k, rfl⟩ : ∃ m, k = m + 1 := ⟨k - 1, by omega⟩
    have e : i = 16 := by omega
    subst e
    simp only [isobathref02_Apart.l0]
    rw [if_neg (by omega)]
  | succ n ih =>
    intro k i hi hk
    obtain ⟨k, rfl⟩ : ∃ m, k = m + 1 := ⟨k - 1, by omega⟩
    simp only [isobathref02_Apart.l0]
    have hr := Cod.cnt_range (i + 1) a b
    have hr0 := Cod.cnt_range i a b
    have la : a / 2 ^ i ≤ a := Nat.div_le_self _ _
    have lb : b / 2 ^ i ≤ b := Nat.div_le_self _ _
    have ea : a / 2 ^ (i + 1) = a / 2 ^ i / 2 := by rw [Nat.pow_succ, ← Nat.div_div_eq_div_mul]
    have eb : b / 2 ^ (i + 1) = b / 2 ^ i / 2 := by rw [Nat.pow_succ, ← Nat.div_div_eq_div_mul]
    have ba := Cod.bit (a := a) (i := i)
    have bb := Cod.bit (a := b) (i := i)
    have ih' := ih k (i + 1) (by omega) (by omega)
    rw [ea, eb] at ih'
    generalize a / 2 ^ i = qa at *
    generalize b / 2 ^ i = qb at *
    have ta : Int.tmod (qa : Int) 2 = ((qa % 2 : Nat) : Int) := by rw [Int.tmod_eq_emod_of_nonneg (by omega)]; omega
    have tb : Int.tmod (qb : Int) 2 = ((qb % 2 : Nat) : Int) := by rw [Int.tmod_eq_emod_of_nonneg (by omega)]; omega
    have da : wrap64 (Int.tdiv (qa : Int) 2) = ((qa / 2 : Nat) : Int) := by
      rw [tdiv_pos (by omega), wrap_id (by omega) (by omega)]
      omega
    have db : wrap64 (Int.tdiv (qb : Int) 2) = ((qb / 2 : Nat) : Int) := by
      rw [tdiv_pos (by omega), wrap_id (by omega) (by omega)]
      omega
    rw [if_pos (by omega), ta, tb, da, db, ba, bb, wrap_succ (n := 16) (by omega) (by omega)]
    rw [Cod.cnt] at ih' hr
    by_cases c : a.testBit i = b.testBit i
    · rw [if_pos c] at ih'
      rw [c, if_pos rfl]
      rw [Int.add_zero] at ih'
      exact ih'
    · rw [if_neg c] at ih' hr
      have e : (if a.testBit i = true then (1 : Int) else 0) ≠ (if b.testBit i = true then (1 : Int) else 0) := by
        revert c
        cases a.testBit i <;> cases b.testBit i <;> simp
      rw [if_neg e, wrap_id (by omega) (by omega)]
      exact ih'
theorem Cod.refApart {a b : Int} (ha0 : 0 ≤ a) (ha : a < 65536) (hb0 : 0 ≤ b) (hb : b < 65536) {k : Nat} (hk : 17 ≤ k) : isobathref02_Apart.f k a b = some (Cod.dist a b) := by
  have h := Cod.refApart_l0 (a := a.toNat) (b := b.toNat) (by omega) (by omega) 16 k 0 (by omega) (by omega)
  rw [Nat.pow_zero, Nat.div_one, Nat.div_one, Int.toNat_of_nonneg ha0, Int.toNat_of_nonneg hb0] at h
  exact h

end Go.Proofs.Ytebcmhajbjkojaa.P

namespace Go.Proofs.Ytebcmhajbjkojaa.P
open Go.RowKit Go.Proofs.YtebcmhajbjkojaaW.PrintWords Go.Proofs.YtebcmhajbjkojaaW.PrintLast Go.Proofs.YtebcmhajbjkojaaW.PrintMore
attribute [local go_sem] max2_int min2_int max_two min_two max_three min_three max_four min_four   -- for this text's walks alone
set_option linter.unusedVariables false
set_option linter.unusedSimpArgs false

-- LIB
-- WANT isobath/mooring.Spacing
-- WANT isobath/mooring.Answers
-- WANT isobath/isobathref02.Spacing
-- WANT isobath/isobathref02.Answers
-- WANT isobath/isobathlaw02.numbers
/-! ### Spacing and Answers, in closed form -/
def Cod.okB (x : Int) : Bool := decide (0 ≤ x) && decide (x < 65536)
def Cod.err (l : List Int) : Int := if 64 < l.length then 6 else if l.all Cod.okB = true then 0 else 2
theorem Cod.okB_iff {x : Int} : Cod.okB x = true ↔ 0 ≤ x ∧ x < 65536 := by
  unfold Cod.okB
  simp
theorem Cod.isCode (x : Int) : mooring_isCode.f x = some (Cod.okB x) := by
  unfold mooring_isCode.f Cod.okB
  by_cases h : 0 ≤ x
  · rw [if_pos h, decide_eq_true h, Bool.true_and]
  · rw [if_neg h, decide_eq_false h, Bool.false_and]
theorem Cod.refCode (x : Int) : isobathref02_code.f x = some (Cod.okB x) := by
  unfold isobathref02_code.f Cod.okB
  by_cases h : 0 ≤ x
  · rw [if_pos h, decide_eq_true h, Bool.true_and]
  · rw [if_neg h, decide_eq_false h, Bool.false_and]
theorem Cod.index_l0 {l : List Int} (hl : l.length ≤ 64) (n : Nat) : ∀ (k i : Nat), i + n = l.length → n < k →
    ∃ r, slices_IndexFunc_int_int_mooring_checkCodes_1.l0 k l (l.length : Int) (i : Int) = some r ∧ (decide (r ≥ 0) = !((l.drop i).all Cod.okB)) := by
  induction n with
  | zero =>
    intro k i hi hk
    obtain ⟨k, rfl⟩ : ∃ m, k = m + 1 := ⟨k - 1, by omega⟩
    simp only [slices_IndexFunc_int_int_mooring_checkCodes_1.l0]
    rw [if_neg (by omega), List.drop_of_length_le (by omega)]
    exact ⟨_, rfl, rfl⟩
  | succ n ih =>
    intro k i hi hk
    obtain ⟨k, rfl⟩ : ∃ m, k = m + 1 := ⟨k - 1, by omega⟩
    have hlt : i < l.length := by omega
    simp only [slices_IndexFunc_int_int_mooring_checkCodes_1.l0, mooring_checkCodes_1.f, Cod.isCode, Option.bind_some]
    rw [if_pos (by omega), if_pos (by omega), if_pos (by omega), rd_nat hlt, drop_cons hlt, List.all_cons]
    cases h : Cod.okB l[i] with
    | true =>
      rw [Bool.not_true, if_neg (by decide), wrap_succ hlt (by omega), Bool.true_and]
      exact ih k (i + 1) (by omega) (by omega)
    | false =>
      rw [Bool.not_false, if_pos rfl, Bool.false_and]
      exact ⟨_, rfl, by simp⟩
theorem Cod.check {l : List Int} {k : Nat} (hk : 66 ≤ k) : mooring_checkCodes.f k l = some (Cod.err l) := by
  unfold mooring_checkCodes.f Cod.err
  by_cases h : 64 < l.length
  · rw [if_pos (by omega), if_pos h]
  rw [if_neg (by omega), if_neg h]
  obtain ⟨r, h1, h2⟩ := Cod.index_l0 (l := l) (by omega) l.length k 0 (by omega) (by omega)
  unfold slices_ContainsFunc_int_int_mooring_checkCodes_1.f slices_IndexFunc_int_int_mooring_checkCodes_1.f
  rw [List.drop_zero] at h2
  rw [show ((0 : Nat) : Int) = 0 from rfl] at h1
  rw [h1, Option.bind_some, Option.bind_some, h2]
  cases l.all Cod.okB <;> rfl
theorem Cod.codes_l0 {l : List Int} (hl : l.length ≤ 64) (n : Nat) : ∀ (k i : Nat), i + n = l.length → n < k →
    isobathref02_codes.l0 k l (i : Int) = some (if (l.drop i).all Cod.okB = true then 0 else 2) := by
  induction n with
  | zero =>
    intro k i hi hk
    obtain ⟨k, rfl⟩ : ∃ m, k = m + 1 := ⟨k - 1, by omega⟩
    simp only [isobathref02_codes.l0]
    rw [if_neg (by omega), List.drop_of_length_le (by omega)]
    rfl
  | succ n ih =>
    intro k i hi hk
    obtain ⟨k, rfl⟩ : ∃ m, k = m + 1 := ⟨k - 1, by omega⟩
    have hlt : i < l.length := by omega
    simp only [isobathref02_codes.l0, Cod.refCode, Option.bind_some]
    rw [if_pos (by omega), if_pos (by omega), rd_nat hlt, drop_cons hlt, List.all_cons]
    cases h : Cod.okB l[i] with
    | true =>
      rw [if_pos rfl, wrap_succ hlt (by omega), Bool.true_and]
      exact ih k (i + 1) (by omega) (by omega)
    | false => rfl
theorem Cod.refCheck {l : List Int} {k : Nat} (hk : 66 ≤ k) : isobathref02_codes.f k l = some (Cod.err l) := by
  unfold isobathref02_codes.f Cod.err
  by_cases h : 64 < l.length
  · rw [if_pos (by omega), if_pos h]
  rw [if_neg (by omega), if_neg h]
  have h1 := Cod.codes_l0 (l := l) (by omega) l.length k 0 (by omega) (by omega)
  rw [List.drop_zero] at h1
  exact h1
theorem Cod.err_ok {l : List Int} (h : Cod.err l = 0) : l.length ≤ 64 ∧ ∀ i : Nat, i < l.length → 0 ≤ rd l (i : Int) ∧ rd l (i : Int) < 65536 := by
  unfold Cod.err at h
  by_cases h0 : 64 < l.length
  · rw [if_pos h0] at h; cases h
  rw [if_neg h0] at h
  by_cases h1 : l.all Cod.okB = true
  · refine ⟨by omega, fun i hi => ?_⟩
    rw [rd_nat hi]
    exact Cod.okB_iff.1 (List.all_eq_true.1 h1 _ (List.getElem_mem hi))
  · rw [if_neg h1] at h; cases h
def Cod.D (l : List Int) (a b : Nat) : Int := Cod.dist (rd l (a : Int)) (rd l (b : Int))
/-- The least distance over some pairs, and at most 16. -/
def Cod.MinOn (l : List Int) (S : Nat → Nat → Prop) (r : Int) : Prop := r ≤ 16 ∧ 0 ≤ r ∧ (∀ a b, S a b → r ≤ Cod.D l a b) ∧ (r = 16 ∨ ∃ a b, S a b ∧ r = Cod.D l a b)
theorem Cod.MinOn.step {l : List Int} {S S' : Nat → Nat → Prop} {r : Int} (h : Cod.MinOn l S r) (a b : Nat) (hs : ∀ x y, S' x y ↔ S x y ∨ (x = a ∧ y = b)) : Cod.MinOn l S' (mn r (Cod.D l a b)) := by
  obtain ⟨h1, h2, h3, h4⟩ := h
  have hd := Cod.dist_range (rd l (a : Int)) (rd l (b : Int))
  have hm : mn r (Cod.D l a b) ≤ r ∧ mn r (Cod.D l a b) ≤ Cod.D l a b ∧ (mn r (Cod.D l a b) = r ∨ mn r (Cod.D l a b) = Cod.D l a b) := by
    unfold mn
    by_cases c : Cod.D l a b < r
    · rw [if_pos c]; omega
    · rw [if_neg c]; omega
  change 0 ≤ Cod.D l a b ∧ Cod.D l a b ≤ 16 at hd
  refine ⟨by omega, by omega, fun x y hxy => ?_, ?_⟩
  · rcases (hs x y).1 hxy with h | ⟨rfl, rfl⟩
    · have := h3 x y h; omega
    · omega
  · rcases hm.2.2 with h | h
    · rcases h4 with h4 | ⟨x, y, h5, h6⟩
      · left; omega
      · exact .inr ⟨x, y, (hs x y).2 (.inl h5), by omega⟩
    · exact .inr ⟨a, b, (hs a b).2 (.inr ⟨rfl, rfl⟩), h⟩
theorem Cod.MinOn.same {l : List Int} {S S' : Nat → Nat → Prop} {r : Int} (h : Cod.MinOn l S r) (hs : ∀ x y, S' x y ↔ S x y) : Cod.MinOn l S' r := by
  obtain ⟨h1, h2, h3, h4⟩ := h
  refine ⟨h1, h2, fun x y hxy => h3 x y ((hs x y).1 hxy), h4.imp id ?_⟩
  rintro ⟨x, y, h5, h6⟩
  exact ⟨x, y, (hs x y).2 h5, h6⟩
theorem Cod.MinOn.unique {l : List Int} {S : Nat → Nat → Prop} {r s : Int} (h : Cod.MinOn l S r) (h' : Cod.MinOn l S s) : r = s := by
  obtain ⟨h1, h2, h3, h4⟩ := h
  obtain ⟨g1, g2, g3, g4⟩ := h'
  have a1 : r ≤ s := by
    rcases g4 with g4 | ⟨x, y, g5, g6⟩
    · omega
    · have := h3 x y g5; omega
  have a2 : s ≤ r := by
    rcases h4 with h4 | ⟨x, y, h5, h6⟩
    · omega
    · have := g3 x y h5; omega
  omega
def Cod.all (l : List Int) (a b : Nat) : Prop := a < b ∧ b < l.length
/-- The pairs that Spacing has seen at i, m. -/
def Cod.seen (l : List Int) (i m : Nat) (a b : Nat) : Prop := a < b ∧ b < l.length ∧ (a < i ∨ (a = i ∧ b < i + 1 + m))
theorem Cod.rd_drop {l : List Int} {i m : Nat} : rd (l.drop i) (m : Int) = rd l ((i + m : Nat) : Int) := by
  unfold rd
  rw [Int.toNat_natCast, Int.toNat_natCast]
  simp [List.getD, List.getElem?_drop]
theorem Cod.spacing_l1 {l : List Int} (h64 : l.length ≤ 64) (hok : ∀ i : Nat, i < l.length → 0 ≤ rd l (i : Int) ∧ rd l (i : Int) < 65536) {i : Nat} (hi : i < l.length) (K : Nat) (n : Nat) : ∀ (k m : Nat) (r : Int), i + 1 + m + n = l.length → n + 20 + K ≤ k → Cod.MinOn l (Cod.seen l i m) r →
    ∃ k' r', K ≤ k' ∧ mooring_Spacing.l1 k l r (rd l (i : Int)) l (l.length : Int) (i : Int) (l.drop (i + 1)) ((l.drop (i + 1)).length : Int) (m : Int) = mooring_Spacing.l0 k' l r' l (l.length : Int) ((i + 1 : Nat) : Int) ∧ Cod.MinOn l (Cod.seen l (i + 1) 0) r' := by
  induction n with
  | zero =>
    intro k m r hm hk h
    obtain ⟨k, rfl⟩ : ∃ x, k = x + 1 := ⟨k - 1, by omega⟩
    have hd : (l.drop (i + 1)).length = m := by rw [List.length_drop]; omega
    simp only [mooring_Spacing.l1]
    rw [if_neg (by omega), wrap_succ hi (by omega)]
    refine ⟨k, r, by omega, rfl, h.same fun x y => ?_⟩
    unfold Cod.seen
    omega
  | succ n ih =>
    intro k m r hm hk h
    obtain ⟨k, rfl⟩ : ∃ x, k = x + 1 := ⟨k - 1, by omega⟩
    have hd : (l.drop (i + 1)).length = l.length - (i + 1) := List.length_drop
    simp only [mooring_Spacing.l1]
    have o1 := hok i hi
    have o2 := hok (i + 1 + m) (by omega)
    rw [if_pos (by omega), if_pos (by omega), if_pos (by omega), Cod.rd_drop, Cod.apart o1.1 o1.2 o2.1 o2.2 (by omega), Option.bind_some, wrap_succ (n := l.length) (by omega) (by omega)]
    exact ih k (m + 1) _ (by omega) (by omega) (h.step i (i + 1 + m) fun x y => by unfold Cod.seen; omega)
theorem Cod.spacing_l0 {l : List Int} (h64 : l.length ≤ 64) (hok : ∀ i : Nat, i < l.length → 0 ≤ rd l (i : Int) ∧ rd l (i : Int) < 65536) (n : Nat) : ∀ (k i : Nat) (r : Int), i + n = l.length → n * 100 + 1 ≤ k → Cod.MinOn l (Cod.seen l i 0) r →
    ∃ r', mooring_Spacing.l0 k l r l (l.length : Int) (i : Int) = some (r', 0) ∧ Cod.MinOn l (Cod.all l) r' := by
  induction n with
  | zero =>
    intro k i r hi hk h
    obtain ⟨k, rfl⟩ : ∃ x, k = x + 1 := ⟨k - 1, by omega⟩
    simp only [mooring_Spacing.l0]
    rw [if_neg (by omega)]
    refine ⟨r, rfl, h.same fun x y => ?_⟩
    unfold Cod.seen Cod.all
    omega
  | succ n ih =>
    intro k i r hi hk h
    obtain ⟨k, rfl⟩ : ∃ x, k = x + 1 := ⟨k - 1, by omega⟩
    have hlt : i < l.length := by omega
    simp only [mooring_Spacing.l0]
    rw [if_pos (by omega), if_pos (by omega), if_pos (by omega), wrap_succ hlt (by omega), if_pos (by omega), if_pos (by omega), Int.toNat_natCast]
    obtain ⟨k', r', h1, h2, h3⟩ := Cod.spacing_l1 h64 hok hlt (n * 100 + 1) (l.length - (i + 1)) k 0 r (by omega) (by omega) h
    rw [show ((0 : Nat) : Int) = 0 from rfl] at h2
    rw [h2]
    exact ih k' (i + 1) r' (by omega) h1 h3
/-- The pairs that the document's Spacing has seen at i, m. -/
def Cod.seen' (l : List Int) (i m : Nat) (a b : Nat) : Prop := a < b ∧ b < l.length ∧ (b < i ∨ (b = i ∧ a < m))
theorem Cod.refSpacing_l1 {l : List Int} (h64 : l.length ≤ 64) (hok : ∀ i : Nat, i < l.length → 0 ≤ rd l (i : Int) ∧ rd l (i : Int) < 65536) {i : Nat} (hi : i < l.length) (K : Nat) (n : Nat) : ∀ (k m : Nat) (r : Int), m + n = i → n + 20 + K ≤ k → Cod.MinOn l (Cod.seen' l i m) r →
    ∃ k' r', K ≤ k' ∧ isobathref02_Spacing.l1 k l r (i : Int) (m : Int) = isobathref02_Spacing.l0 k' l r' ((i + 1 : Nat) : Int) ∧ Cod.MinOn l (Cod.seen' l (i + 1) 0) r' := by
  induction n with
  | zero =>
    intro k m r hm hk h
    obtain ⟨k, rfl⟩ : ∃ x, k = x + 1 := ⟨k - 1, by omega⟩
    simp only [isobathref02_Spacing.l1]
    rw [if_neg (by omega), wrap_succ hi (by omega)]
    refine ⟨k, r, by omega, rfl, h.same fun x y => ?_⟩
    unfold Cod.seen'
    omega
  | succ n ih =>
    intro k m r hm hk h
    obtain ⟨k, rfl⟩ : ∃ x, k = x + 1 := ⟨k - 1, by omega⟩
    simp only [isobathref02_Spacing.l1]
    have o1 := hok i hi
    have o2 := hok m (by omega)
    rw [if_pos (by omega), if_pos (by omega), if_pos (by omega), if_pos (by omega), if_pos (by omega), Cod.refApart o1.1 o1.2 o2.1 o2.2 (by omega), Option.bind_some, wrap_succ (n := l.length) (by omega) (by omega), Cod.dist_comm]
    exact ih k (m + 1) _ (by omega) (by omega) (h.step m i fun x y => by unfold Cod.seen'; omega)
theorem Cod.refSpacing_l0 {l : List Int} (h64 : l.length ≤ 64) (hok : ∀ i : Nat, i < l.length → 0 ≤ rd l (i : Int) ∧ rd l (i : Int) < 65536) (n : Nat) : ∀ (k i : Nat) (r : Int), i + n = l.length → n * 100 + 1 ≤ k → Cod.MinOn l (Cod.seen' l i 0) r →
    ∃ r', isobathref02_Spacing.l0 k l r (i : Int) = some (r', 0) ∧ Cod.MinOn l (Cod.all l) r' := by
  induction n with
  | zero =>
    intro k i r hi hk h
    obtain ⟨k, rfl⟩ : ∃ x, k = x + 1 := ⟨k - 1, by omega⟩
    simp only [isobathref02_Spacing.l0]
    rw [if_neg (by omega)]
    refine ⟨r, rfl, h.same fun x y => ?_⟩
    unfold Cod.seen' Cod.all
    omega
  | succ n ih =>
    intro k i r hi hk h
    obtain ⟨k, rfl⟩ : ∃ x, k = x + 1 := ⟨k - 1, by omega⟩
    have hlt : i < l.length := by omega
    simp only [isobathref02_Spacing.l0]
    rw [if_pos (by omega)]
    obtain ⟨k', r', h1, h2, h3⟩ := Cod.refSpacing_l1 h64 hok hlt (n * 100 + 1) i k 0 r (by omega) (by omega) h
    rw [show ((0 : Nat) : Int) = 0 from rfl] at h2
    rw [h2]
    exact ih k' (i + 1) r' (by omega) h1 h3
theorem Cod.MinOn.none (l : List Int) {S : Nat → Nat → Prop} (h : ∀ a b, ¬ S a b) : Cod.MinOn l S 16 := ⟨by omega, by omega, fun a b hs => absurd hs (h a b), .inl rfl⟩
/-- Both answer alike. -/
theorem Cod.spacing (l : List Int) {k : Nat} (hk : 7000 ≤ k) : ∃ r e, mooring_Spacing.f k l = some (r, e) ∧ isobathref02_Spacing.f k l = some (r, e) ∧ (e = 0 → Cod.MinOn l (Cod.all l) r ∧ Cod.err l = 0 ∧ 2 ≤ l.length) ∧ (Cod.err l = 0 → 2 ≤ l.length → e = 0) := by
  unfold mooring_Spacing.f isobathref02_Spacing.f
  rw [Cod.check (by omega), Cod.refCheck (by omega), Option.bind_some, Option.bind_some]
  by_cases h : Cod.err l = 0
  · rw [if_pos h, if_pos h]
    obtain ⟨h64, hok⟩ := Cod.err_ok h
    by_cases h2 : l.length < 2
    · rw [if_pos (by omega), if_pos (by omega)]
      exact ⟨0, 5, rfl, rfl, fun e => absurd e (by decide), fun _ e => absurd h2 (by omega)⟩
    · rw [if_neg (by omega), if_neg (by omega)]
      obtain ⟨r, h3, h4⟩ := Cod.spacing_l0 h64 hok l.length k 0 16 (by omega) (by omega) (Cod.MinOn.none l (fun a b hs => by unfold Cod.seen at hs; omega))
      obtain ⟨s, h5, h6⟩ := Cod.refSpacing_l0 h64 hok l.length k 0 16 (by omega) (by omega) (Cod.MinOn.none l (fun a b hs => by unfold Cod.seen' at hs; omega))
      rw [h6.unique h4] at h5
      exact ⟨r, 0, h3, h5, fun _ => ⟨h4, h, by omega⟩, fun _ _ => rfl⟩
  · rw [if_neg h, if_neg h]
    exact ⟨0, _, rfl, rfl, fun e => absurd e h, fun e => absurd e h⟩
/-- The codes that answer. -/
def Cod.ansTo (l : List Int) (h w : Int) (n : Nat) : List Int := ((List.range n).filter (fun j : Nat => decide (Cod.dist (rd l (j : Int)) h ≤ w))).map (fun j : Nat => (j : Int))
theorem Cod.ansTo_succ (l : List Int) (h w : Int) (n : Nat) : Cod.ansTo l h w (n + 1) = if Cod.dist (rd l (n : Int)) h ≤ w then Cod.ansTo l h w n ++ [(n : Int)] else Cod.ansTo l h w n := by
  unfold Cod.ansTo
  rw [List.range_succ, List.filter_append, List.map_append]
  by_cases c : Cod.dist (rd l (n : Int)) h ≤ w
  · rw [if_pos c]
    simp [c]
  · rw [if_neg c]
    simp [c]
theorem Cod.ansTo_length (l : List Int) (h w : Int) (n : Nat) : (Cod.ansTo l h w n).length ≤ n := by
  unfold Cod.ansTo
  rw [List.length_map]
  have := List.length_filter_le (fun j : Nat => decide (Cod.dist (rd l (j : Int)) h ≤ w)) (List.range n)
  rw [List.length_range] at this
  exact this
theorem Cod.answers_l0 {l : List Int} {h w : Int} (h64 : l.length ≤ 64) (hok : ∀ i : Nat, i < l.length → 0 ≤ rd l (i : Int) ∧ rd l (i : Int) < 65536) (hh : 0 ≤ h ∧ h < 65536) (n : Nat) : ∀ (k i : Nat), i + n = l.length → n + 20 ≤ k →
    mooring_Answers.l0 k h w (Cod.ansTo l h w i) l (l.length : Int) (i : Int) = some (Cod.ansTo l h w l.length, 0) := by
  induction n with
  | zero =>
    intro k i hi hk
    obtain ⟨k, rfl⟩ : ∃ x, k = x + 1 := ⟨k - 1, by omega⟩
    simp only [mooring_Answers.l0]
    have e : i = l.length := by omega
    rw [if_neg (by omega), e]
  | succ n ih =>
    intro k i hi hk
    obtain ⟨k, rfl⟩ : ∃ x, k = x + 1 := ⟨k - 1, by omega⟩
    have hlt : i < l.length := by omega
    have o1 := hok i hlt
    have hn := Cod.ansTo_length l h w i
    simp only [mooring_Answers.l0]
    rw [if_pos (by omega), if_pos (by omega), if_pos (by omega), Cod.apart o1.1 o1.2 hh.1 hh.2 (by omega), Option.bind_some, if_pos (show (Cod.ansTo l h w i).length < 17592186044416 by omega), wrap_succ hlt (by omega)]
    have ih' := ih k (i + 1) (by omega) (by omega)
    rw [Cod.ansTo_succ] at ih'
    by_cases c : Cod.dist (rd l (i : Int)) h ≤ w
    · rw [if_pos c] at ih' ⊢
      exact ih'
    · rw [if_neg c] at ih' ⊢
      exact ih'
theorem Cod.refAnswers_l0 {l : List Int} {h w : Int} (h64 : l.length ≤ 64) (hok : ∀ i : Nat, i < l.length → 0 ≤ rd l (i : Int) ∧ rd l (i : Int) < 65536) (hh : 0 ≤ h ∧ h < 65536) (n : Nat) : ∀ (k i : Nat), i + n = l.length → n + 20 ≤ k →
    isobathref02_Answers.l0 k l h w (Cod.ansTo l h w i) (i : Int) = some (Cod.ansTo l h w l.length, 0) := by
  induction n with
  | zero =>
    intro k i hi hk
    obtain ⟨k, rfl⟩ : ∃ x, k = x + 1 := ⟨k - 1, by omega⟩
    simp only [isobathref02_Answers.l0]
    have e : i = l.length := by omega
    rw [if_neg (by omega), e]
  | succ n ih =>
    intro k i hi hk
    obtain ⟨k, rfl⟩ : ∃ x, k = x + 1 := ⟨k - 1, by omega⟩
    have hlt : i < l.length := by omega
    have o1 := hok i hlt
    have hn := Cod.ansTo_length l h w i
    simp only [isobathref02_Answers.l0]
    rw [if_pos (by omega), if_pos (by omega), Cod.refApart o1.1 o1.2 hh.1 hh.2 (by omega), Option.bind_some, if_pos (show (Cod.ansTo l h w i).length < 17592186044416 by omega), wrap_succ hlt (by omega)]
    have ih' := ih k (i + 1) (by omega) (by omega)
    rw [Cod.ansTo_succ] at ih'
    by_cases c : Cod.dist (rd l (i : Int)) h ≤ w
    · rw [if_pos c] at ih' ⊢
      exact ih'
    · rw [if_neg c] at ih' ⊢
      exact ih'
def Cod.answers (l : List Int) (h w : Int) : List Int × Int := if Cod.err l = 0 then (if Cod.okB h = true ∧ 0 ≤ w ∧ w ≤ 16 then (Cod.ansTo l h w l.length, 0) else ([], 3)) else ([], Cod.err l)
theorem Cod.answers_f (l : List Int) (h w : Int) {k : Nat} (hk : 100 ≤ k) : mooring_Answers.f k l h w = some (Cod.answers l h w) := by
  obtain ⟨k, rfl⟩ : ∃ x, k = x + 1 := ⟨k - 1, by omega⟩
  unfold mooring_Answers.f Cod.answers
  rw [Cod.check (by omega), Option.bind_some, Cod.isCode, Option.bind_some]
  by_cases he : Cod.err l = 0
  · rw [if_pos he, if_pos he]
    obtain ⟨h64, hok⟩ := Cod.err_ok he
    by_cases h1 : Cod.okB h = true
    · rw [if_pos h1]
      by_cases h2 : w < 0
      · rw [if_pos h2, if_neg (by omega)]
        simp only [mooring_Answers.j0]
        rfl
      · rw [if_neg h2]
        simp only [mooring_Answers.j0]
        by_cases h3 : w > 16
        · rw [decide_eq_true h3, if_pos rfl, if_neg (by omega)]
        · rw [decide_eq_false h3, if_neg (by decide), if_pos ⟨h1, by omega, by omega⟩]
          exact Cod.answers_l0 h64 hok (Cod.okB_iff.1 h1) l.length k 0 (by omega) (by omega)
    · rw [if_neg h1, if_neg (fun e => h1 e.1)]
      simp only [mooring_Answers.j0]
      rfl
  · rw [if_neg he, if_neg he]
theorem Cod.refAnswers_f (l : List Int) (h w : Int) {k : Nat} (hk : 100 ≤ k) : isobathref02_Answers.f k l h w = some (Cod.answers l h w) := by
  obtain ⟨k, rfl⟩ : ∃ x, k = x + 1 := ⟨k - 1, by omega⟩
  unfold isobathref02_Answers.f Cod.answers
  rw [Cod.refCheck (by omega), Option.bind_some, Cod.refCode, Option.bind_some]
  by_cases he : Cod.err l = 0
  · rw [if_pos he, if_pos he]
    obtain ⟨h64, hok⟩ := Cod.err_ok he
    by_cases h1 : Cod.okB h = true
    · rw [if_pos h1]
      by_cases h2 : w < 0
      · rw [if_pos h2, if_neg (by omega)]
        simp only [isobathref02_Answers.j0]
        rfl
      · rw [if_neg h2]
        simp only [isobathref02_Answers.j0]
        by_cases h3 : w > 16
        · rw [decide_eq_true h3, if_pos rfl, if_neg (by omega)]
        · rw [decide_eq_false h3, if_neg (by decide), if_pos ⟨h1, by omega, by omega⟩]
          exact Cod.refAnswers_l0 h64 hok (Cod.okB_iff.1 h1) l.length k 0 (by omega) (by omega)
    · rw [if_neg h1, if_neg (fun e => h1 e.1)]
      simp only [isobathref02_Answers.j0]
      rfl
  · rw [if_neg he, if_neg he]
theorem Law2.numbers_l0 {xs : List Int} (hn : xs.length ≤ 9223372036854775807) (n : Nat) : ∀ (k i : Nat), i + n = xs.length → n < k → isobathlaw02_numbers.l0 k xs xs (i : Int) = some true := by
  induction n with
  | zero =>
    intro k i hi hk
    obtain ⟨k, rfl⟩ : ∃ m, k = m + 1 := ⟨k - 1, by omega⟩
    simp only [isobathlaw02_numbers.l0]
    rw [if_neg (by omega)]
  | succ n ih =>
    intro k i hi hk
    obtain ⟨k, rfl⟩ : ∃ m, k = m + 1 := ⟨k - 1, by omega⟩
    have hlt : i < xs.length := by omega
    simp only [isobathlaw02_numbers.l0]
    rw [if_pos (by omega), if_pos (by omega), if_pos (by omega), if_true, wrap_succ hlt hn]
    exact ih k (i + 1) (by omega) (by omega)
theorem Law2.numbers_same {xs : List Int} (hn : xs.length ≤ 9223372036854775807) {k : Nat} (hk : xs.length < k) : isobathlaw02_numbers.f k xs xs = some true := by
  unfold isobathlaw02_numbers.f
  rw [if_pos rfl]
  exact Law2.numbers_l0 hn xs.length k 0 (by omega) hk
theorem Cod.answers_small (l : List Int) (h w : Int) : (Cod.answers l h w).1.length ≤ 64 := by
  unfold Cod.answers
  by_cases he : Cod.err l = 0
  · rw [if_pos he]
    have h64 := (Cod.err_ok he).1
    by_cases c : Cod.okB h = true ∧ 0 ≤ w ∧ w ≤ 16
    · rw [if_pos c]
      have := Cod.ansTo_length l h w l.length
      simp only
      omega
    · rw [if_neg c]; simp
  · rw [if_neg he]; simp

end Go.Proofs.Ytebcmhajbjkojaa.P

namespace Go.Proofs.Ytebcmhajbjkojaa.P
open Go.RowKit Go.Proofs.YtebcmhajbjkojaaW.PrintWords Go.Proofs.YtebcmhajbjkojaaW.PrintLast Go.Proofs.YtebcmhajbjkojaaW.PrintMore
attribute [local go_sem] max2_int min2_int max_two min_two max_three min_three max_four min_four   -- for this text's walks alone
set_option linter.unusedVariables false
set_option linter.unusedSimpArgs false

-- LIB
-- IMPORT Derived.KernelRfl
-- WANT isobath/isobathlaw02.fine
/-! ### the examples of the chapter -/
theorem Law2.fine60 : isobathlaw02_fine.f 60 = some true := by kernel_rfl
theorem Law2.fine {k : Nat} (hk : 60 ≤ k) : isobathlaw02_fine.f k = some true := LeO.up (fun k => isobathlaw02_fine.mono k) hk Law2.fine60

end Go.Proofs.Ytebcmhajbjkojaa.P

namespace Go.Proofs.Ytebcmhajbjkojaa.P
open Go.RowKit Go.Proofs.YtebcmhajbjkojaaW.PrintWords Go.Proofs.YtebcmhajbjkojaaW.PrintLast Go.Proofs.YtebcmhajbjkojaaW.PrintMore
attribute [local go_sem] max2_int min2_int max_two min_two max_three min_three max_four min_four   -- for this text's walks alone
set_option linter.unusedVariables false
set_option linter.unusedSimpArgs false

-- LIB
-- WANT isobath/isobathlaw02.MooringCodes
/-! ### MooringCodes -/
theorem Law2.codes (l : List Int) (h w : Int) : isobathlaw02_MooringCodes.f 7000 l h w = some true := by
  unfold isobathlaw02_MooringCodes.f
  by_cases h0 : (l.length : Int) > 100
  · rw [if_pos h0, Law2.fine (by omega), Option.bind_some]
  rw [if_neg h0]
  obtain ⟨r, e, h1, h2, _⟩ := Cod.spacing l (Nat.le_refl 7000)
  have h3 := Cod.answers_small l h w
  rw [h1, h2, Cod.answers_f l h w (by omega), Cod.refAnswers_f l h w (by omega)]
  simp only [Option.bind_some, if_true]
  rw [Law2.numbers_same (by omega) (by omega)]
  simp only [Option.bind_some, if_true]
  rw [Law2.fine (by omega), Option.bind_some]
-- IMPORT Derived.Test.YtebcmhajbjkojaaLMooringCodes
theorem mooringCodes_holds : Rows.MooringCodesSaid := mooringCodes.proved fun l h w _ _ _ => ⟨7000, Law2.codes l h w⟩
#print axioms mooringCodes_holds

end Go.Proofs.Ytebcmhajbjkojaa.P
