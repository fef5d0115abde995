/- Unite, Cut, Outside and Cover contain just the numbers that their definitions name, and are normal. Part 3 of 3. -/
-- Put together by wip/tools/shake.py, a program of this work: out of the words that the kit's print tool (print.sh) writes for a claim and what wip/tools/xprint.py prints, those that this claim reaches, and this work's own texts.
import Derived.Deep.Slices
import Derived.OpenShut
import Derived.Test.YtlkafgibgipodaaRows
import Derived.WalkKit
import Derived.ProofKit
import Derived.ShutString
import Derived.ChangeOld
import Derived.Below
import Derived.SizedLaws
import Derived.Carry
import Derived.Laws.EntriesVeiled
import Derived.Laws.Externs
import Derived.Test.YtlkafgibgipodaaKBoundMembers1
namespace Go.Proofs.Ytlkafgibgipodaa.P
open Go.RowKit Go.Proofs.YtlkafgibgipodaaW.PrintWords Go.Proofs.YtlkafgibgipodaaW.PrintLast Go.Proofs.YtlkafgibgipodaaW.PrintMore
namespace boundMembers
open Go.ChangeShapes Go.WideShapes Go.ChangeAt
set_option linter.unusedVariables false
set_option linter.unusedSimpArgs false
def B32 (x : S32) : Prop := (fun n : Int => (Lit.int .i64 n).wf = true) x.f0 ∧ (fun n : Int => (Lit.int .i64 n).wf = true) x.f1
theorem opens32 : Opens Try.prog 32 k32 B32 := Opens.struct (fs := _) Try.underlying32 (fun x : S32 => (x.f0, x.f1)) (fun t => ⟨t.1, t.2⟩) (fun _ => rfl) (OpensF.cons rfl (by kernel_rfl) (Opens.int Try.underlying2) (OpensF.last rfl (by kernel_rfl) (Opens.int Try.underlying2)))
def Pure : Prop := ∀ (x0 : (List S32)) (x1 : (List S32)) (x2 : S32) (x3 : Int), (fun xs : List S32 => xs.length ≤ 9223372036854775807 ∧ ∀ x ∈ xs, B32 x) x0 → (fun xs : List S32 => xs.length ≤ 9223372036854775807 ∧ ∀ x ∈ xs, B32 x) x1 → B32 x2 → (fun n : Int => (Lit.int .i64 n).wf = true) x3 → ∃ k, isobathlaw01_BoundMembers.f k x0 x1 x2.f0 x2.f1 x3 = some true
theorem own : ownKnob Try.prog.godebug = none := by kernel_rfl
theorem laidOut : laidOutB Try.prog = true := by kernel_rfl
set_option maxRecDepth 100000 in
theorem lifted (hP : Pure) (os : Os) (started : os.Started) (H : Type) (enc : TypeId × Value → H) :
  ReturnsInHanded {} Try.checked os 8 .any (Rows.boundMembersSpec.pre6 enc Try.prog Try.f8 Rows.boundMembersRow.domain false) (Rows.boundMembersSpec.post enc Try.prog Try.f8 false true false false) := by
 refine returnsInHanded_of_change_sized (C := Try.checked) own started (by kernel_rfl) Try.func8
  (ChangeSpec.witness6 (enc := enc) (C := Try.checked) false ⟨#[], #[.slice none 0 0, .slice none 0 0, .agg #[.int .i64 0, .int .i64 0], .int .i64 0], []⟩ 8 (by kernel_rfl) (by kernel_rfl) (by kernel_rfl) (by kernel_rfl)) ?_
 intro W base args ds gs before hval0 hW hcnd hsz0 _
 have hval : ∀ (j : Nat) t v, Try.f8.params[j]? = some t → args[j]? = some v → Value.okWide Try.prog W .any base t v := hval0
 have hW' := hW
 obtain ⟨p, q, hA0, hV, rfl, hfz, hnd⟩ := hW
 have hA : DataW.TrodAll enc Try.prog W 0 (fun _ => true) true Try.f8.params.toList args.toList ds p := hA0
 rw [Try.params8] at hA hval
 obtain ⟨v0, vs0, d0, ds0, p0, q0, hargs, rfl, rfl, h0, r0⟩ := trodAll_cons hA
 obtain ⟨v1, vs1, d1, ds1, p1, q1, rfl, rfl, rfl, h1, r1⟩ := trodAll_cons r0
 obtain ⟨v2, vs2, d2, ds2, p2, q2, rfl, rfl, rfl, h2, r2⟩ := trodAll_cons r1
 obtain ⟨v3, vs3, d3, ds3, p3, q3, rfl, rfl, rfl, h3, r3⟩ := trodAll_cons r2
 obtain ⟨rfl, rfl, rfl⟩ := trodAll_nil r3
 obtain rfl : args = #[v0, v1, v2, v3] := by cases args; simp_all
 obtain ⟨rfl, rfl⟩ := trodVars_none hV
 have k0 := h0
 have lt0 : ∀ x ∈ p0, x.block < W.heap.size := by obtain ⟨m, hm⟩ := k0; exact DataW.trod_lt m _ _ _ hm
 obtain ⟨m0, hm0⟩ := h0
 obtain ⟨x0, hk0, w0⟩ := Opens.run (Opens.slice Try.underlying44 (by kernel_rfl) opens32) hm0
 obtain ⟨a0, len0, cap0, rfl⟩ := okWide_slice Try.underlying44 (hval 0 44 v0 rfl rfl)
 obtain ⟨A0, c0, hcs0, hc0, hr0⟩ := hk0
 simp [Value.cells] at hcs0
 obtain ⟨rfl, rfl, rfl⟩ := hcs0
 have k1 := h1
 have lt1 : ∀ x ∈ p1, x.block < W.heap.size := by obtain ⟨m, hm⟩ := k1; exact DataW.trod_lt m _ _ _ hm
 obtain ⟨m1, hm1⟩ := h1
 obtain ⟨x1, hk1, w1⟩ := Opens.run (Opens.slice Try.underlying44 (by kernel_rfl) opens32) hm1
 obtain ⟨a1, len1, cap1, rfl⟩ := okWide_slice Try.underlying44 (hval 1 44 v1 rfl rfl)
 obtain ⟨A1, c1, hcs1, hc1, hr1⟩ := hk1
 simp [Value.cells] at hcs1
 obtain ⟨rfl, rfl, rfl⟩ := hcs1
 have k2 := h2
 have lt2 : ∀ x ∈ p2, x.block < W.heap.size := by obtain ⟨m, hm⟩ := k2; exact DataW.trod_lt m _ _ _ hm
 obtain ⟨m2, hm2⟩ := h2
 obtain ⟨x2, hk2, w2⟩ := Opens.run opens32 hm2
 have hcs2 := k32_open hk2
 obtain rfl := cells_agg hcs2 (by simp)
 obtain ⟨x3, rfl, rfl, rfl, w3⟩ := open_int Try.underlying2 (hval 3 2 v3 rfl rfl) h3
 clear hA0 hval0 hsz0
 obtain ⟨k, hf⟩ := hP x0 x1 x2 x3 w0 w1 w2 w3
 refine (isobathlaw01_BoundMembers.calls (k := k) (A0 := a0) (c0 := cap0) (l0 := x0) (A1 := a1) (c1 := cap1) (l1 := x1) (a2_0 := x2.f0) (a2_1 := x2.f1) (a3 := x3) (r := true) (w := W) (hr0 := hr0) (hc0 := hc0) (hr1 := hr1) (hc1 := hc1) (h := hf)).mono fun e W' ⟨he, hd⟩ => ?_
 have bel : Below W.heap.size W W' := by first | exact hd | (obtain ⟨m, rfl⟩ := hd; exact zbn (Below.refl _ _) m)
 subst he
 exact ⟨_, rfl, _, _, _, [], _, [], hW', trodAll_mk1 (shut_bool Try.underlying4 _), (trodAll_cons_mk (Below.trod laidOut (by kernel_rfl) (zod (by kernel_rfl)) k0 bel lt0) (trodAll_cons_mk (Below.trod laidOut (by kernel_rfl) (zod (by kernel_rfl)) k1 bel lt1) (trodAll_cons_mk (Below.trod laidOut (by kernel_rfl) (zod (by kernel_rfl)) k2 bel lt2) (trodAll_cons_mk (shut_int Try.underlying2 w3) trodAll_mk0)))), rfl, bel.frame _, fun h => by cases h⟩
theorem over (hP : Pure) : Rows.boundMembersRow.holds Try.pinned (OpenSpec.ofChange Rows.boundMembersSpec) :=
 OpenClaim.holds_of_wide 8 Try.f8 rfl rfl rfl rfl rfl rfl rfl ⟨rfl, rfl, rfl, rfl, rfl⟩ rfl rfl rfl rfl rfl (by kernel_rfl) Try.func8 (by kernel_rfl)
  (zod (by kernel_rfl)) (by unfold Func.isWrapper; first | (rw [if_pos (by decide +kernel)]; kernel_rfl) | (rw [if_neg (by decide +kernel)]; exact ⟨rfl, rfl⟩))
  (fun os started H enc _ => lifted hP os started H enc)
theorem proved (hP : Pure) : Rows.BoundMembersSaid := over hP
end boundMembers
end Go.Proofs.Ytlkafgibgipodaa.P
namespace Go.Proofs.Ytlkafgibgipodaa.P
open Go.RowKit Go.Proofs.YtlkafgibgipodaaW.PrintWords Go.Proofs.YtlkafgibgipodaaW.PrintLast Go.Proofs.YtlkafgibgipodaaW.PrintMore
attribute [local go_sem] max2_int min2_int max_two min_two max_three min_three max_four min_four   -- for this text's walks alone
set_option linter.unusedVariables false
set_option linter.unusedSimpArgs false
theorem Bnd.check2 {a b : S32} (ha : Bnd.okB a = true) (hb : Bnd.okB b = true) {k : Nat} (hk : 3 ≤ k) : bound_check.f k [a, b] = some 0 := by
 rw [Bnd.check_f (by simp) (by simp; omega), if_pos (by simp [ha, hb])]
theorem Bo.check2 (a b c d : Int) {k : Nat} (hk : 20 ≤ k) : bound_check.f k [(⟨a, b⟩ : S32), (⟨c, d⟩ : S32)] = some (if Bo.v a b ∧ Bo.v c d then 0 else 2) := by
 rw [Bnd.check_f (by simp) (by simp; omega)]
 congr 1
 by_cases h : Bo.v a b ∧ Bo.v c d
 ·rw [if_pos h, if_pos (by simp only [List.all_cons, List.all_nil, Bool.and_true, Bool.and_eq_true]; exact ⟨Bnd.okB_iff.2 h.1, Bnd.okB_iff.2 h.2⟩)]
 rw [if_neg h, if_neg (by simp only [List.all_cons, List.all_nil, Bool.and_true, Bool.and_eq_true]; exact fun e => h ⟨Bnd.okB_iff.1 e.1, Bnd.okB_iff.1 e.2⟩)]
theorem Bo.over (a b : Int) {k : Nat} (hk : 20 ≤ k) : bound_over.f k a b = some (Bo.res a b) := by
 unfold bound_over.f Bo.res
 rw [Bo.check1 a b hk, Option.bind_some]
 by_cases h : Bo.v a b
 ·rw [if_pos h, if_pos h]; rfl
 rw [if_neg h, if_neg h]; rfl
theorem Bo.rd0 (a : Int) (l : List Int) : rd (a :: l) 0 = a := rfl
def Bo.most : List Int → Int
 | [] => 0
 | a :: l => l.foldl max a
theorem Bo.min_l0 (xs : List Int) (hl : xs.length ≤ 9223372036854775807) : ∀ (n k i : Nat) (m : Int), i + n = xs.length → n < k → slices_Min_int64_int64.l0 k xs m (i : Int) = some ((xs.drop i).foldl min m) := by
 intro n
 induction n with
 | zero =>
  intro k i m hi hk
  obtain ⟨k, rfl⟩ : ∃ m, k = m + 1 := ⟨k - 1, by omega⟩
  simp only [slices_Min_int64_int64.l0]
  rw [if_neg (by omega), List.drop_of_length_le (by omega)]
  rfl
 | succ n ih =>
  intro k i m hi hk
  obtain ⟨k, rfl⟩ : ∃ m, k = m + 1 := ⟨k - 1, by omega⟩
  have hlt : i < xs.length := by omega
  simp only [slices_Min_int64_int64.l0]
  rw [if_pos (by omega), if_pos (by omega), wrap_succ hlt hl, ih k (i + 1) _ (by omega) (by omega), rd_nat hlt, drop_cons hlt, List.foldl_cons, Bo.mnE]
theorem Bo.max_l0 (xs : List Int) (hl : xs.length ≤ 9223372036854775807) : ∀ (n k i : Nat) (m : Int), i + n = xs.length → n < k → slices_Max_int64_int64.l0 k xs m (i : Int) = some ((xs.drop i).foldl max m) := by
 intro n
 induction n with
 | zero =>
  intro k i m hi hk
  obtain ⟨k, rfl⟩ : ∃ m, k = m + 1 := ⟨k - 1, by omega⟩
  simp only [slices_Max_int64_int64.l0]
  rw [if_neg (by omega), List.drop_of_length_le (by omega)]
  rfl
 | succ n ih =>
  intro k i m hi hk
  obtain ⟨k, rfl⟩ : ∃ m, k = m + 1 := ⟨k - 1, by omega⟩
  have hlt : i < xs.length := by omega
  simp only [slices_Max_int64_int64.l0]
  rw [if_pos (by omega), if_pos (by omega), wrap_succ hlt hl, ih k (i + 1) _ (by omega) (by omega), rd_nat hlt, drop_cons hlt, List.foldl_cons, Bo.mxE]
theorem Bo.min_f (a : Int) (l : List Int) {k : Nat} (hl : l.length ≤ 10) (hk : 20 ≤ k) : slices_Min_int64_int64.f k (a :: l) = some (Bo.least (a :: l)) := by
 unfold slices_Min_int64_int64.f
 rw [if_neg (by simp only [List.length_cons]; omega), if_pos (by simp only [List.length_cons]; omega)]
 have := Bo.min_l0 (a :: l) (by simp only [List.length_cons]; omega) l.length k 1 (rd (a :: l) 0) (by simp only [List.length_cons]; omega) (by omega)
 rw [Bo.rd0] at this
 exact this
theorem Bo.max_f (a : Int) (l : List Int) {k : Nat} (hl : l.length ≤ 10) (hk : 20 ≤ k) : slices_Max_int64_int64.f k (a :: l) = some (Bo.most (a :: l)) := by
 unfold slices_Max_int64_int64.f
 rw [if_neg (by simp only [List.length_cons]; omega), if_pos (by simp only [List.length_cons]; omega)]
 have := Bo.max_l0 (a :: l) (by simp only [List.length_cons]; omega) l.length k 1 (rd (a :: l) 0) (by simp only [List.length_cons]; omega) (by omega)
 rw [Bo.rd0] at this
 exact this
theorem Bo.least_f (a : Int) (l : List Int) {k : Nat} (hl : l.length ≤ 10) (hk : 20 ≤ k) : bound_least.f k (a :: l) = some (Bo.least (a :: l), Bo.most (a :: l)) := by
 unfold bound_least.f
 rw [Bo.min_f a l hl hk, Option.bind_some, Bo.max_f a l hl hk, Option.bind_some]
theorem Bo.mul_le {a b : Int} (h1 : -1073741824 ≤ a) (h2 : a ≤ 1073741824) (h3 : -1073741824 ≤ b) (h4 : b ≤ 1073741824) : -1152921504606846976 ≤ a * b ∧ a * b ≤ 1152921504606846976 := by
 have h : (a * b).natAbs ≤ 1073741824 * 1073741824 := by
  rw [Int.natAbs_mul]
  exact Nat.mul_le_mul (by omega) (by omega)
 omega
def Bo.mul (a0 a1 b0 b1 : Int) : Int × Int × Int := Bo.op2 a0 a1 b0 b1 (Bo.res (min (min (min (a0 * b0) (a0 * b1)) (a1 * b0)) (a1 * b1)) (max (max (max (a0 * b0) (a0 * b1)) (a1 * b0)) (a1 * b1)))
theorem Bo.mul_w {a b : Int} (h1 : -1073741824 ≤ a) (h2 : a ≤ 1073741824) (h3 : -1073741824 ≤ b) (h4 : b ≤ 1073741824) : wrap64 (a * b) = a * b := by
 have := Bo.mul_le h1 h2 h3 h4
 exact wrap_id (by omega) (by omega)
theorem Bo.mul_b (a0 a1 b0 b1 : Int) {k : Nat} (hk : 20 ≤ k) : bound_Mul.f k a0 a1 b0 b1 = some (Bo.mul a0 a1 b0 b1) := by
 unfold bound_Mul.f Bo.mul Bo.op2
 rw [Bo.check2 _ _ _ _ hk, Option.bind_some]
 by_cases h : Bo.v a0 a1 ∧ Bo.v b0 b1
 ·obtain ⟨⟨h1, h2, h3⟩, h4, h5, h6⟩ := id h
  rw [if_pos h, if_pos rfl, if_pos h, Bo.mul_w (by omega) (by omega) (by omega) (by omega), Bo.mul_w (by omega) (by omega) (by omega) (by omega), Bo.mul_w (by omega) (by omega) (by omega) (by omega), Bo.mul_w (by omega) (by omega) (by omega) (by omega), Bo.least_f _ _ (by simp) hk, Option.bind_some, Bo.over _ _ hk]
  rfl
 rw [if_neg h, if_neg h]
 rfl
theorem Bo.tdiv_abs {n d M : Int} (hd : d ≠ 0) (h1 : -M ≤ n) (h2 : n ≤ M) : -M ≤ Int.tdiv n d ∧ Int.tdiv n d ≤ M := by
 have := Int.natAbs_tdiv_le_natAbs n d
 omega
theorem Bo.fl_of_rest {n d : Int} (hd : d ≠ 0) : Bo.fl n d = if Int.tmod n d ≠ 0 ∧ (Int.tmod n d < 0 ↔ 0 < d) then Int.tdiv n d - 1 else Int.tdiv n d := by
 have e1 := Int.mul_tdiv_add_tmod n d
 have key : ∀ (m d q r : Int), 0 < d → d * q + r = m → 0 ≤ r → r < d → m / d = q := by
  intro m d q r hd e h0 h1
  refine Int.ediv_eq_iff_of_pos hd |>.2 ?_
  have := Int.mul_comm d q
  have e2 : (q + 1) * d = q * d + d := by rw [Int.add_mul, Int.one_mul]
  omega
 by_cases q : d < 0
 ·have hr : (Int.tmod n d).natAbs < d.natAbs := by
   rw [← Int.natAbs_neg d]
   have := Int.natAbs_tmod n d
   have h3 := Nat.mod_lt n.natAbs (show 0 < d.natAbs by omega)
   omega
  unfold Bo.fl
  rw [if_pos q]
  by_cases c : Int.tmod n d ≠ 0 ∧ (Int.tmod n d < 0 ↔ 0 < d)
  ·rw [if_pos c]
   obtain ⟨c1, c2⟩ := c
   have c3 : ¬ Int.tmod n d < 0 := fun h => by have := c2.1 h; omega
   refine key (-n) (-d) _ (-d - Int.tmod n d) (by omega) ?_ (by omega) (by omega)
   have : -d * (Int.tdiv n d - 1) = -(d * Int.tdiv n d) + d := by
    rw [Int.mul_sub, Int.neg_mul]
    omega
   omega
  rw [if_neg c]
  have c3 : Int.tmod n d ≤ 0 := by
   rcases Int.lt_trichotomy (Int.tmod n d) 0 with h | h | h
   ·omega
   ·omega
   exact absurd ⟨by omega, by constructor <;> intro _ <;> omega⟩ c
  refine key (-n) (-d) _ (-Int.tmod n d) (by omega) ?_ (by omega) (by omega)
  rw [Int.neg_mul]
  omega
 have hr : (Int.tmod n d).natAbs < d.natAbs := by
  have := Int.natAbs_tmod n d
  have h3 := Nat.mod_lt n.natAbs (show 0 < d.natAbs by omega)
  omega
 unfold Bo.fl
 rw [if_neg q]
 by_cases c : Int.tmod n d ≠ 0 ∧ (Int.tmod n d < 0 ↔ 0 < d)
 ·rw [if_pos c]
  obtain ⟨c1, c2⟩ := c
  have c3 : Int.tmod n d < 0 := c2.2 (by omega)
  refine key n d _ (d + Int.tmod n d) (by omega) ?_ (by omega) (by omega)
  have : d * (Int.tdiv n d - 1) = d * Int.tdiv n d - d := by rw [Int.mul_sub, Int.mul_one]
  omega
 rw [if_neg c]
 have c3 : 0 ≤ Int.tmod n d := by
  rcases Int.lt_trichotomy (Int.tmod n d) 0 with h | h | h
  ·exact absurd ⟨by omega, by constructor <;> intro _ <;> omega⟩ c
  ·omega
  omega
 exact key n d _ (Int.tmod n d) (by omega) e1 (by omega) (by omega)
theorem Bo.cl_of_rest {n d : Int} (hd : d ≠ 0) : Bo.cl n d = if Int.tmod n d ≠ 0 ∧ (Int.tmod n d < 0 ↔ d < 0) then Int.tdiv n d + 1 else Int.tdiv n d := by
 unfold Bo.cl
 rw [Bo.fl_of_rest hd, Int.neg_tmod, Int.neg_tdiv]
 by_cases c : Int.tmod n d ≠ 0 ∧ (Int.tmod n d < 0 ↔ d < 0)
 ·rw [if_pos c, if_pos (by omega)]
  omega
 rw [if_neg c, if_neg (by omega)]
 omega
theorem Bo.div_f (up : Bool) {n d : Int} (hd : d ≠ 0) (h1 : -4611686018427387904 ≤ n) (h2 : n ≤ 4611686018427387904) {k : Nat} (hk : 20 ≤ k) : bound_round_div.f k up n d = some (if up = true then Bo.cl n d else Bo.fl n d) := by
 obtain ⟨k, rfl⟩ : ∃ m, k = m + 1 := ⟨k - 1, by omega⟩
 have ht := Bo.tdiv_abs hd h1 h2
 unfold bound_round_div.f
 simp only [bound_round_div.j0]
 have w0 : wrap64 (Int.tdiv n d) = Int.tdiv n d := wrap_id (by omega) (by omega)
 have w1 : wrap64 (Int.tdiv n d + 1) = Int.tdiv n d + 1 := wrap_id (by omega) (by omega)
 have w2 : wrap64 (Int.tdiv n d - 1) = Int.tdiv n d - 1 := wrap_id (by omega) (by omega)
 rw [if_neg hd, Bo.fl_of_rest hd, Bo.cl_of_rest hd, w0, w1, w2]
 by_cases c : Int.tmod n d = 0
 ·rw [if_pos c, if_neg (by simp)]
  cases up <;> simp [c]
 rw [if_neg c]
 by_cases a : Int.tmod n d < 0 <;> by_cases b : d < 0 <;> cases up <;> simp [a, b, c] <;> omega
theorem Bo.div_b (a0 a1 b0 b1 : Int) {k : Nat} (hk : 20 ≤ k) : bound_Div.f k a0 a1 b0 b1 = some (Bo.div a0 a1 b0 b1) := by
 unfold bound_Div.f Bo.div Bo.op2
 rw [Bo.check2 _ _ _ _ hk, Option.bind_some]
 by_cases h : Bo.v a0 a1 ∧ Bo.v b0 b1
 ·obtain ⟨⟨h1, h2, h3⟩, h4, h5, h6⟩ := id h
  rw [if_pos h, if_pos rfl, if_pos h]
  have rest : ¬ (b0 ≤ 0 ∧ 0 ≤ b1) → ((Bd.div k false a0 a1 b0 b1).bind fun lo => (Bd.div k true a0 a1 b0 b1).bind fun hi => (slices_Min_int64_int64.f k lo).bind fun m => (slices_Max_int64_int64.f k hi).bind fun x => bound_over.f k m x) = some (Bo.res (min (min (min (Bo.fl a0 b0) (Bo.fl a0 b1)) (Bo.fl a1 b0)) (Bo.fl a1 b1)) (max (max (max (Bo.cl a0 b0) (Bo.cl a0 b1)) (Bo.cl a1 b0)) (Bo.cl a1 b1))) := by
   intro q
   have n0 : b0 ≠ 0 := by omega
   have n1 : b1 ≠ 0 := by omega
   unfold Bd.div
   rw [Bo.div_f false n0 (by omega) (by omega) hk, Bo.div_f false n1 (by omega) (by omega) hk, Bo.div_f false n0 (by omega) (by omega) hk, Bo.div_f false n1 (by omega) (by omega) hk]
   rw [Bo.div_f true n0 (by omega) (by omega) hk, Bo.div_f true n1 (by omega) (by omega) hk, Bo.div_f true n0 (by omega) (by omega) hk, Bo.div_f true n1 (by omega) (by omega) hk]
   simp only [Option.bind_some, Bool.false_eq_true, if_false, if_true]
   rw [Bo.min_f _ _ (by simp) hk, Option.bind_some, Bo.max_f _ _ (by simp) hk, Option.bind_some, Bo.over _ _ hk]
   rfl
  by_cases q0 : b0 ≤ 0
  ·rw [if_pos q0]
   by_cases q1 : b1 ≥ 0
   ·rw [if_pos q1, if_pos ⟨q0, q1⟩]
   rw [if_neg q1, rest (by omega), if_neg (by omega)]
  rw [if_neg q0, rest (by omega), if_neg (by omega)]
 rw [if_neg h, if_neg h]
 rfl
def Rt.IsRoot (n r : Int) : Prop := 0 ≤ r ∧ r * r ≤ n ∧ n < (r + 1) * (r + 1)
theorem Rt.sq_le {a b : Int} (h : 0 ≤ a) (h1 : a ≤ b) : a * a ≤ b * b := Int.mul_le_mul h1 h1 h (by omega)
theorem Rt.lt_of_sq {a b : Int} (hb : 0 ≤ b) (h : a * a < b * b) : a < b := by
 rcases Int.lt_or_le a b with h1 | h1
 ·exact h1
 have := Rt.sq_le hb h1
 omega
theorem Rt.IsRoot.unique {n r s : Int} (h : Rt.IsRoot n r) (h' : Rt.IsRoot n s) : r = s := by
 have a : r < s + 1 := Rt.lt_of_sq (by have := h'.1; omega) (Int.lt_of_le_of_lt h.2.1 h'.2.2)
 have b : s < r + 1 := Rt.lt_of_sq (by have := h.1; omega) (Int.lt_of_le_of_lt h'.2.1 h.2.2)
 omega
mutual
def isobathref01_Line.j0 : Nat → Int → Int → Int → Bool → Int → Int → Int → Int → Option (Int × Int × Int)
 | 0, _, _, _, _, _, _, _, _ => none
 | k + 1, x0, x2, x4, x19, x102000, x102001, x103000, x103001 => if x19 = true then (some (0, 0, 2)) else (if x0 < 0 then (isobathref01_Line.j1 k x0 x2 x4 true x102000 x102001 x103000 x103001) else (if x2 > 1073741824 then (isobathref01_Line.j1 k x0 x2 x4 true x102000 x102001 x103000 x103001) else (if x0 ≥ x2 then (isobathref01_Line.j1 k x0 x2 x4 true x102000 x102001 x103000 x103001) else ((isobathref01_Within.f x4 x0 x2).bind fun t106 => (isobathref01_Line.j1 k x0 x2 x4 (!t106) x102000 x102001 x103000 x103001)))))
def isobathref01_Line.j1 : Nat → Int → Int → Int → Bool → Int → Int → Int → Int → Option (Int × Int × Int)
 | 0, _, _, _, _, _, _, _, _ => none
 | k + 1, x0, x2, x4, x38, x102000, x102001, x103000, x103001 => if x38 = true then (some (0, 0, 3)) else ((isobathref01_Down.f k (wrap64 ((wrap64 (x102000 * (wrap64 (x2 - x4)))) + (wrap64 (x103000 * (wrap64 (x4 - x0)))))) (wrap64 (x2 - x0))).bind fun t107 => ((isobathref01_Up.f k (wrap64 ((wrap64 (x102001 * (wrap64 (x2 - x4)))) + (wrap64 (x103001 * (wrap64 (x4 - x0)))))) (wrap64 (x2 - x0))).bind fun t108 => ((isobathref01_result.f t107 t108).bind fun bt109 => (some (bt109.1, bt109.2.1, bt109.2.2)))))
end
def Bo.grow (a0 a1 n : Int) : Int × Int × Int := if Bo.v a0 a1 then (if 0 ≤ n ∧ n ≤ 1073741824 then Bo.res (a0 - n) (a1 + n) else (0, 0, 3)) else (0, 0, 2)
mutual
def isobathref01_In.j0 : Nat → Bool → Int → Int → Int → Int → Option (Int × Int)
 | 0, _, _, _, _, _ => none
 | k + 1, x13, x102000, x102001, x103000, x103001 => if x13 = true then (some (0, 2)) else (if x102000 ≥ x103000 then (isobathref01_In.j1 k (decide (x102001 ≤ x103001)) x102000 x102001 x103000 x103001) else (isobathref01_In.j1 k false x102000 x102001 x103000 x103001))
def isobathref01_In.j1 : Nat → Bool → Int → Int → Int → Int → Option (Int × Int)
 | 0, _, _, _, _, _ => none
 | k + 1, x25, x102000, x102001, x103000, x103001 => if x25 = true then (some (2, 0)) else (if x102001 < x103000 then (some (0, 0)) else (if x102000 > x103001 then (some (0, 0)) else (some (1, 0))))
end
def Bo.ansB (x : Int) : Bool := decide (0 ≤ x) && decide (x ≤ 2)
def Bo.ans (l : List Int) : Int := if (l.length : Int) > 256 then 6 else if l.all Bo.ansB = true then 0 else 2
def Bo.all (l : List Int) : Int × Int := if Bo.ans l = 0 then (l.foldl min 2, 0) else (0, Bo.ans l)
def Bo.any (l : List Int) : Int × Int := if Bo.ans l = 0 then (l.foldl max 0, 0) else (0, Bo.ans l)
def Bo.vb (a0 a1 a2 a3 : Int) : Prop := Bo.v a0 a1 ∧ Bo.v a2 a3 ∧ -268435456 ≤ a0 ∧ a1 ≤ 268435456 ∧ -268435456 ≤ a2 ∧ a3 ≤ 268435456
instance Bo.vbDec (a0 a1 a2 a3 : Int) : Decidable (Bo.vb a0 a1 a2 a3) := inferInstanceAs (Decidable (_ ∧ _))
def Bo.near (a0 a1 b0 b1 : Int) : Int := max (max 0 (a0 - b1)) (b0 - a1)
def Bo.far (a0 a1 b0 b1 : Int) : Int := max (a1 - b0) (b1 - a0)
theorem Bo.works {k : Nat} (hk : 20 ≤ k) : isobathlaw01_Works.f k = some true := by
 unfold isobathlaw01_Works.f bound_Cover.f
 rw [Bo.mul_b _ _ _ _ hk, Bo.div_b _ _ _ _ hk]
 rw [Bnd.check_f (by simp) (by simp; omega)]
 decide +kernel
structure Mb.Ok (s t u c o : List S32) (e f g a b : Int) : Prop where
 hs : Bs.cs s = 0
 ht : Bs.cs t = 0
 hu : e = 0 → Bs.cs u = 0 ∧ ∀ n, Bd.mem u n ↔ Bd.mem s n ∨ Bd.mem t n
 hc : f = 0 → Bs.cs c = 0 ∧ ∀ n, Bd.mem c n ↔ Bd.mem s n ∧ Bd.mem t n
 ho : g = 0 → Bs.cs o = 0 ∧ ∀ n, Bd.mem o n ↔ (a ≤ n ∧ n ≤ b) ∧ ¬ Bd.mem s n
theorem Mb.holds (a0 a1 x : Int) : isobathlaw01_holds.f a0 a1 x = some (decide (a0 ≤ x ∧ x ≤ a1)) := by
 unfold isobathlaw01_holds.f
 by_cases h : a0 ≤ x
 ·rw [if_pos h]
  simp [h]
 rw [if_neg h]
 simp [h]
theorem Mb.any_eq {l : List S32} {n : Int} {b : Bool} (h : Bd.mem l n ↔ b = true) : l.any (Bd.has n) = b := by
 rw [Bool.eq_iff_iff, Bs.any_mem]
 exact h
theorem Mb.l2 {s t u c o : List S32} {e f g a b : Int} (H : Mb.Ok s t u c o e f g a b) {near : List Int} (hn : near.length ≤ 1000) : ∀ (d k i : Nat), i + d = near.length → d * 4 + 1000 ≤ k → isobathlaw01_BoundMembers.l2 k s t near u e c f o g (i : Int) a b = some true := by
 intro d
 induction d with
 | zero =>
  intro k i hi hk
  obtain ⟨k, rfl⟩ : ∃ m, k = m + 1 := ⟨k - 1, by omega⟩
  rw [isobathlaw01_BoundMembers.l2, if_neg (by omega), Bo.works (by omega)]
  rfl
 | succ d ih =>
  intro k i hi hk
  obtain ⟨k, rfl⟩ : ∃ m, k = m + 1 + 1 + 1 + 1 := ⟨k - 4, by omega⟩
  have hlt : i < near.length := by omega
  have ih' := ih k (i + 1) (by omega) (by omega)
  generalize hx : near[i] = x
  have hr : rd near (i : Int) = x := by rw [rd_nat hlt, hx]
  have nine : isobathlaw01_BoundMembers.j9 (k + 1) s t near u e c f o g (i : Int) (s.any (Bd.has x)) a b = some true := by
   rw [isobathlaw01_BoundMembers.j9]
   by_cases q : g = 0
   ·obtain ⟨q1, q2⟩ := H.ho q
    rw [if_pos q, if_pos (by omega), if_pos (by omega), hr, Bs.has_b o x (by omega), Option.bind_some, if_pos q1]
    dsimp only
    rw [if_pos rfl, wrap_succ hlt (by omega)]
    by_cases w : s.any (Bd.has x) = true
    ·have : o.any (Bd.has x) = false := Mb.any_eq ((q2 x).trans ⟨fun h => absurd ((Bs.any_mem s x).1 w) h.2, fun h => (by cases h)⟩)
     rw [if_pos w, this, if_neg (by decide)]
     exact ih'
    have : o.any (Bd.has x) = decide (a ≤ x ∧ x ≤ b) := Mb.any_eq ((q2 x).trans ⟨fun h => zdt h.1, fun h => ⟨zod h, fun h2 => w ((Bs.any_mem s x).2 h2)⟩⟩)
    rw [if_neg w, Mb.holds, Option.bind_some, this, bne_self_eq_false, if_neg (by decide)]
    exact ih'
   rw [if_neg q, wrap_succ hlt (by omega)]
   exact ih'
  have eight : isobathlaw01_BoundMembers.j8 (k + 1 + 1) s t near u e c f o g (i : Int) (s.any (Bd.has x)) (t.any (Bd.has x)) a b = some true := by
   rw [isobathlaw01_BoundMembers.j8]
   by_cases q : f = 0
   ·obtain ⟨q1, q2⟩ := H.hc q
    rw [if_pos q, if_pos (by omega), if_pos (by omega), hr, Bs.has_b c x (by omega), Option.bind_some, if_pos q1]
    dsimp only
    rw [if_pos rfl]
    by_cases w : s.any (Bd.has x) = true
    ·have : c.any (Bd.has x) = t.any (Bd.has x) := Mb.any_eq ((q2 x).trans ⟨fun h => (Bs.any_mem t x).2 h.2, fun h => ⟨(Bs.any_mem s x).1 w, (Bs.any_mem t x).1 h⟩⟩)
     rw [if_pos w, this, bne_self_eq_false, if_neg (by decide)]
     exact nine
    have : c.any (Bd.has x) = false := Mb.any_eq ((q2 x).trans ⟨fun h => absurd ((Bs.any_mem s x).2 h.1) w, fun h => (by cases h)⟩)
    rw [if_neg w, this, bne_self_eq_false, if_neg (by decide)]
    exact nine
   rw [if_neg q]
   exact nine
  have seven : isobathlaw01_BoundMembers.j7 (k + 1 + 1 + 1) s t near u e c f o g (i : Int) (s.any (Bd.has x)) (t.any (Bd.has x)) false a b = some true := by
   rw [isobathlaw01_BoundMembers.j7, if_neg (by decide)]
   by_cases q : e = 0
   ·obtain ⟨q1, q2⟩ := H.hu q
    rw [if_pos q, if_pos (by omega), if_pos (by omega), hr, Bs.has_b u x (by omega), Option.bind_some, if_pos q1]
    dsimp only
    rw [if_pos rfl]
    by_cases w : s.any (Bd.has x) = true
    ·have : u.any (Bd.has x) = true := (Bs.any_mem u x).2 ((q2 x).2 (.inl ((Bs.any_mem s x).1 w)))
     rw [if_pos w, this, bne_self_eq_false, if_neg (by decide)]
     exact eight
    have : u.any (Bd.has x) = t.any (Bd.has x) := Mb.any_eq ((q2 x).trans ⟨fun h => h.elim (fun h => absurd ((Bs.any_mem s x).2 h) w) fun h => (Bs.any_mem t x).2 h, fun h => .inr ((Bs.any_mem t x).1 h)⟩)
    rw [if_neg w, this, bne_self_eq_false, if_neg (by decide)]
    exact eight
   rw [if_neg q]
   exact eight
  rw [isobathlaw01_BoundMembers.l2, if_pos (by omega), if_pos (by omega), hr, Bs.has_b s x (by omega), Bs.has_b t x (by omega), Option.bind_some, Option.bind_some, if_pos H.hs, if_pos H.ht]
  dsimp only
  rw [if_pos rfl, bne_self_eq_false]
  exact seven
theorem Mb.few {l : List S32} (h : (Bs.fewOf l).2 = 0) (hn : Bd.Normal l) : Bs.cs (Bs.fewOf l).1 = 0 ∧ (Bs.fewOf l).1 = l := by
 unfold Bs.fewOf at *
 by_cases q : (l.length : Int) > 256
 ·rw [if_pos q] at h
  cases h
 rw [if_neg q]
 exact ⟨Bs.cs_zero.2 ⟨by show l.length ≤ 256; omega, hn⟩, rfl⟩
theorem Mb.j4 {s t : List S32} {a b : Int} (hs : Bs.cs s = 0) (ht : Bs.cs t = 0) {near : List Int} (hn : near.length ≤ 1000) {k : Nat} (hk : 200000 ≤ k) : isobathlaw01_BoundMembers.j4 (k + 1 + 1) s t near a b = some true := by
 obtain ⟨s1, s2⟩ := Bs.cs_zero.1 hs
 obtain ⟨t1, t2⟩ := Bs.cs_zero.1 ht
 have he : Bs.err s t = 0 := Bs.err_zero.2 ⟨hs, ht⟩
 obtain ⟨rc, c1, -, c3⟩ := Bs.cut_both s t
 obtain ⟨c, ec, n1, n2⟩ := c3 he
 obtain ⟨ro, o1, o2, o3⟩ := Bs.out_both s a b
 obtain ⟨u1, u2⟩ := Bs.uni_mem s2 t2
 have eu : Bs.uni s t = Bs.fewOf (Bd.cover (s ++ t)) := by unfold Bs.uni; rw [if_pos he]
 have ho : ro.2 = 0 → Bs.cs ro.1 = 0 ∧ ∀ n, Bd.mem ro.1 n ↔ (a ≤ n ∧ n ≤ b) ∧ ¬ Bd.mem s n := fun h => by
  by_cases q : Bs.oerr s a b = 0
  ·obtain ⟨l, e, l1, l2⟩ := o3 q
   subst e
   obtain ⟨h1, h2⟩ := Mb.few h l1
   rw [h2]
   rw [h2] at h1
   exact ⟨h1, l2⟩
  rw [o2 q] at h
  exact absurd h q
 subst ec
 have H : Mb.Ok s t (Bs.fewOf (Bd.cover (s ++ t))).1 (Bs.fewOf c).1 ro.1 (Bs.fewOf (Bd.cover (s ++ t))).2 (Bs.fewOf c).2 ro.2 a b := ⟨hs, ht, fun h => by
  obtain ⟨h1, h2⟩ := Mb.few h u1
  rw [h2] at h1 ⊢
  exact ⟨h1, u2⟩, fun h => by
  obtain ⟨h1, h2⟩ := Mb.few h n1
  rw [h2] at h1 ⊢
  exact ⟨h1, n2⟩, ho⟩
 have last5 : isobathlaw01_BoundMembers.j5 (k + 1) s t near (Bs.fewOf (Bd.cover (s ++ t))).1 (Bs.fewOf (Bd.cover (s ++ t))).2 (Bs.fewOf c).1 (Bs.fewOf c).2 ro.1 ro.2 false a b = some true := by
  rw [isobathlaw01_BoundMembers.j5, if_neg (by decide)]
  exact Mb.l2 H hn near.length k 0 (by omega) (by omega)
 rw [isobathlaw01_BoundMembers.j4, Bs.uni_b s t (by omega), (c1 _ (by omega)).1, (o1 _ (by omega)).1, eu]
 simp only [Option.bind_some]
 have fin : (if ro.2 = 0 then (bound_CheckSet.f (k + 1) ro.1).bind fun z => isobathlaw01_BoundMembers.j5 (k + 1) s t near (Bs.fewOf (Bd.cover (s ++ t))).1 (Bs.fewOf (Bd.cover (s ++ t))).2 (Bs.fewOf c).1 (Bs.fewOf c).2 ro.1 ro.2 (z != 0) a b else isobathlaw01_BoundMembers.j5 (k + 1) s t near (Bs.fewOf (Bd.cover (s ++ t))).1 (Bs.fewOf (Bd.cover (s ++ t))).2 (Bs.fewOf c).1 (Bs.fewOf c).2 ro.1 ro.2 false a b) = some true := by
  by_cases q : ro.2 = 0
  ·rw [if_pos q, Bs.cs_b _ (by omega), Option.bind_some, (H.ho q).1, bne_self_eq_false]
   exact last5
  rw [if_neg q]
  exact last5
 by_cases q : (Bs.fewOf (Bd.cover (s ++ t))).2 = 0
 ·rw [if_pos q, Bs.cs_b (Bs.fewOf (Bd.cover (s ++ t))).1 (by omega), Option.bind_some, if_pos (H.hu q).1]
  by_cases q2 : (Bs.fewOf c).2 = 0
  ·rw [if_pos q2, Bs.cs_b (Bs.fewOf c).1 (by omega), Option.bind_some, if_pos (H.hc q2).1]
   exact fin
  rw [if_neg q2]
  exact fin
 rw [if_neg q]
 by_cases q2 : (Bs.fewOf c).2 = 0
 ·rw [if_pos q2, Bs.cs_b (Bs.fewOf c).1 (by omega), Option.bind_some, if_pos (H.hc q2).1]
  exact fin
 rw [if_neg q2]
 exact fin
theorem Mb.l1 {s t : List S32} {a b : Int} (hs : Bs.cs s = 0) (ht : Bs.cs t = 0) (hl : t.length ≤ 256) : ∀ (d k i : Nat) (near : List Int), i + d = t.length → i ≤ 40 → near.length ≤ 161 + 4 * i → 200003 + d ≤ k → isobathlaw01_BoundMembers.l1 k s t near (i : Int) a b = some true := by
 intro d
 induction d with
 | zero =>
  intro k i near hi h40 hn hk
  obtain ⟨k, rfl⟩ : ∃ m, k = m + 1 + 1 + 1 := ⟨k - 3, by omega⟩
  rw [isobathlaw01_BoundMembers.l1, if_neg (by omega)]
  exact Mb.j4 hs ht (by omega) (by omega)
 | succ d ih =>
  intro k i near hi h40 hn hk
  obtain ⟨k, rfl⟩ : ∃ m, k = m + 1 + 1 + 1 := ⟨k - 3, by omega⟩
  have hlt : i < t.length := by omega
  rw [isobathlaw01_BoundMembers.l1, if_pos (by omega)]
  by_cases q : i < 40
  ·rw [if_pos (by omega), if_pos (by omega), Option.bind_some, if_pos (by simp only [List.length_cons, List.length_nil]; omega), wrap_succ hlt (by omega)]
   exact ih (k + 1 + 1) (i + 1) _ (by omega) (by omega) (by simp only [List.length_append, List.length_cons, List.length_nil]; omega) (by omega)
  rw [if_neg (by omega)]
  exact Mb.j4 hs ht (by omega) (by omega)
theorem Mb.l0 {s t : List S32} {a b : Int} (hs : Bs.cs s = 0) (ht : Bs.cs t = 0) (hl : s.length ≤ 256) (hl' : t.length ≤ 256) : ∀ (d k i : Nat) (near : List Int), i + d = s.length → i ≤ 40 → near.length ≤ 1 + 4 * i → 200300 + d ≤ k → isobathlaw01_BoundMembers.l0 k s t near (i : Int) a b = some true := by
 intro d
 induction d with
 | zero =>
  intro k i near hi h40 hn hk
  obtain ⟨k, rfl⟩ : ∃ m, k = m + 1 + 1 := ⟨k - 2, by omega⟩
  rw [isobathlaw01_BoundMembers.l0, if_neg (by omega), isobathlaw01_BoundMembers.j2]
  exact Mb.l1 hs ht hl' t.length k 0 near (by omega) (by omega) (by omega) (by omega)
 | succ d ih =>
  intro k i near hi h40 hn hk
  obtain ⟨k, rfl⟩ : ∃ m, k = m + 1 + 1 := ⟨k - 2, by omega⟩
  have hlt : i < s.length := by omega
  rw [isobathlaw01_BoundMembers.l0, if_pos (by omega)]
  by_cases q : i < 40
  ·rw [if_pos (by omega), if_pos (by omega), Option.bind_some, if_pos (by simp only [List.length_cons, List.length_nil]; omega), wrap_succ hlt (by omega)]
   exact ih (k + 1) (i + 1) _ (by omega) (by omega) (by simp only [List.length_append, List.length_cons, List.length_nil]; omega) (by omega)
  rw [if_neg (by omega), isobathlaw01_BoundMembers.j2]
  exact Mb.l1 hs ht hl' t.length k 0 near (by omega) (by omega) (by omega) (by omega)
theorem Mb.members (s t : List S32) (a b x : Int) : ∃ k, isobathlaw01_BoundMembers.f k s t a b x = some true := by
 obtain ⟨k, hk⟩ : ∃ k : Nat, 300000 ≤ k := ⟨300000, Nat.le.refl⟩
 refine ⟨k + 1, ?_⟩
 have hW := Bo.works (k := k) (by omega)
 have bad : isobathlaw01_BoundMembers.j0 (k + 1) s t x true a b = some true := by
  rw [isobathlaw01_BoundMembers.j0, if_pos rfl, hW]
  rfl
 unfold isobathlaw01_BoundMembers.f
 by_cases h1 : (s.length : Int) > 256
 ·rw [if_pos h1, bad]
 rw [if_neg h1]
 by_cases h2 : (t.length : Int) > 256
 ·rw [if_pos h2, bad]
 rw [if_neg h2, Bs.cs_r s (by omega), Option.bind_some]
 by_cases h3 : Bs.cs s = 0
 ·rw [if_pos h3, Bs.cs_r t (by omega), Option.bind_some]
  by_cases h4 : Bs.cs t = 0
  ·rw [h4, bne_self_eq_false, isobathlaw01_BoundMembers.j0, if_neg (by decide)]
   exact Mb.l0 h3 h4 (by omega) (by omega) s.length k 0 [x] (by omega) (by omega) (by simp) (by omega)
  have : (Bs.cs t != 0) = true := by simpa using h4
  rw [this, bad]
 rw [if_neg h3, bad]
theorem boundMembers_holds : Rows.BoundMembersSaid := boundMembers.proved fun s t w x _ _ _ _ => Mb.members s t w.f0 w.f1 x
#print axioms boundMembers_holds
end Go.Proofs.Ytlkafgibgipodaa.P
