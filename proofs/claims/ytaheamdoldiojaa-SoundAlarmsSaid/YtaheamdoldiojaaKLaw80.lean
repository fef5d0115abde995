/- SoundAlarms: whether and when an alarm is raised, and warnings, are what the definitions say, or the error. Part 1 of 2. -/
import Derived.Test.YtaheamdoldiojaaKAm1
import Derived.Test.YtaheamdoldiojaaKRoot0
set_option linter.unusedVariables false
set_option linter.unusedSimpArgs false
namespace Go.Proofs.Ytaheamdoldiojaa.P
open Go.RowKit Go.Am
/-! ### The configuration -/
abbrev SpR : Row := .cons (.int .i64) (.one (.int .i64))
abbrev BxR : Row := .cons (.int .i64) (.cons (.int .i64) (.cons (.int .i64) (.one (.int .i64))))
/-- What lives at the loops' heads. -/
def keepT : List ((Nat × Nat) × List Nat) :=
  [((3, 0), [1,4,7,9,12,13,14,15,16,18,20]),
   ((3, 2), [1,4,7,9,12,13,14,15,16,21,22]),
   ((3, 4), [1,7,9,12,13,14,15,16,24,25]),
   ((3, 6), [14,16,17,24,27]),
   ((4, 0), [0,2,4,6,7,8,9]),
   ((4, 2), [0,2,4,6,7,8,9,10,11]),
   ((4, 4), [0,4,6,7,12,13]),
   ((5, 0), [7,14,15,16,17,18,19,21]),
   ((6, 0), [0,1,3,4,10,11,13,15,16]),
   ((6, 2), [0,3,4,10,11,18,19]),
   ((7, 0), [0,1,2,6,7,8]),
   ((8, 0), [16,27,29,31]),
   ((12, 0), [0,5,14,15,16]),
   ((12, 2), [0,19,21]),
   ((16, 0), [1,2,4,5]),
   ((17, 0), [0,2,3]),
   ((22, 0), [0,2,4,6,7,8]),
   ((22, 2), [0,2,4,6,7,8,9,10,11]),
   ((24, 0), [1,2,3]),
   ((26, 0), [1,2,3,4,5,6,12,13,14]),
   ((29, 0), [1,4,5,7,21,22,23]),
   ((32, 0), [1,4,5,6,18,19,20]),
   ((35, 0), [0,1,4,5]),
   ((37, 0), [0,3,4,5,6,7,8]),
   ((38, 1), [3,5,6,7,10,11,13,45,46,47]),
   ((39, 0), [3,4,5,6,7,10,11,12]),
   ((39, 2), [3,4,5,6,7,10,11,13,14]),
   ((40, 0), [5,6,7,8,9,24,25]),
   ((40, 2), [5,6,7,8,9,11,24,25,28,29]),
   ((42, 0), [2,3,4,5,6]),
   ((42, 2), [2,3,4,5,6,7]),
   ((43, 0), [0,1,4,5,6,7]),
   ((46, 0), [0,1,4,5]),
   ((50, 0), [1,3,5,6,7,8,9]),
   ((50, 2), [1,3,5,6,7,8,9,10]),
   ((53, 0), [0,1,4,5]),
   ((62, 0), [0,3,4,5,13,14,15]),
   ((62, 2), [3,4,5,8,33,34]),
   ((62, 4), [3,4,5,8,9,10,33,34,37,38,39]),
   ((63, 0), [0,1,4,7,8]),
   ((64, 0), [0,1,4,7,8]),
   ((67, 0), [0,2,3,4]),
   ((70, 0), [0,3,4,5,6,16,17]),
   ((76, 0), [0,1,4,5]),
   ((77, 0), [0,3,4,5]),
   ((77, 2), [0,3,4,6]),
   ((77, 4), [0,3,4,7]),
   ((78, 0), [0,2,4,6,7,8,9]),
   ((88, 0), [0,2,3]),
   ((89, 0), [0,1,4,5,6,7]),
   ((90, 0), [0,1,2,6,7,8]),
   ((90, 2), [0,1,2,6,7,8,9,10]),
   ((93, 0), [1,3,5,6,7,8]),
   ((95, 0), [1,3,4,8,9,10,11]),
   ((106, 0), [3,4,5,6,7,8,17,18,19]),
   ((107, 0), [0,4,5,6,9,10,11]),
   ((112, 0), [0,1,6,7,8,9,10,39,40,41]),
   ((112, 2), [0,1,6,7,8,9,10,11,12,13,14,39,40,41,53,54,55]),
   ((112, 4), [0,6,7,8,9,10,18,110,111,112]),
   ((112, 6), [8,9,10,18,21,22,23]),
   ((116, 0), [2,3,4,6,7,8]),
   ((116, 2), [2,3,4,6,7,8,9,10]),
   ((117, 0), [2,5,6,7]),
   ((119, 0), [0,1,4,7,8]),
   ((122, 0), [1,4,5]),
   ((124, 0), [0,1,4,7,8]),
   ((125, 0), [0,1,4,7,8]),
   ((126, 0), [0,3,4,5,21,22]),
   ((126, 2), [0,3,4,5,7,21,22,25,26]),
   ((128, 0), [0,1,4,7,8]),
   ((133, 0), [1,2,4,5]),
   ((133, 2), [1,2,4,5])]
def keepF (f b : Nat) : Option (List Nat) := (keepT.find? fun r => r.1.1 == f && r.1.2 == b).map (·.2)
/-- A list of rows, as an argument. -/
def lst (s : Row) : D → Option (List s.T)
  | .sl r xs .no => match Row.dec r s with
    | .isTrue h => some (Row.cast h xs)
    | .isFalse _ => none
  | _ => none
theorem lst_eq {s : Row} {d : D} {xs : List s.T} (h : lst s d = some xs) : d = .sl s xs .no := by
  unfold lst at h
  split at h
  · split at h
    · rename_i r ys e he
      subst e
      cases h
      rfl
    · cases h
  · cases h
/-- The root, told by its contract. -/
def rootS (args : List D) (k : D → Option Res) : Option Res := match args with
  | [.agg [.bool false], .int .i64 n] => bif decide (0 ≤ n) && decide (n < 2305843009213693952) then k (.int .i64 (Rt.root n)) else none
  | [.agg [.bool true], .int .i64 n] => bif decide (0 ≤ n) && decide (n < 2305843009213693952) then k (.int .i64 (Rt.rootUp n)) else none
  | _ => none
theorem says_root (up : Bool) (n : Int) (h : 0 ≤ n ∧ n < 2305843009213693952) : Says Try.prog 133 [.agg [.bool up], .int .i64 n] (.int .i64 (if up = true then Rt.rootUp n else Rt.root n)) := fun Y w vs hY hv => by
  obtain ⟨v1, rest1, rfl, ⟨x, rfl, ⟨vb, r0, rfl, hb, h0⟩⟩, ⟨v2, rest2, rfl, h2, h3⟩⟩ := hv
  have h0 : r0 = [] := h0
  have h3 : rest2 = [] := h3
  have hb : vb = .bool up := hb
  have h2 : v2 = .int .i64 n := h2
  subst h0 h3 hb h2
  refine (bound_round_root.calls up n (if up = true then Rt.rootUp n else Rt.root n) w ?_).mono fun e w' ⟨he, hb⟩ => ⟨_, he, rfl, hb⟩
  unfold bound_round_root.f
  rw [if_pos h]
theorem cond_some {α : Type} {b : Bool} {x : Option α} {r : α} (h : cond b x none = some r) : b = true ∧ x = some r := by
  cases b
  · cases h
  · exact ⟨rfl, h⟩
theorem and_dec {p q : Prop} [Decidable p] [Decidable q] (h : (decide p && decide q) = true) : p ∧ q := by simpa using h
theorem rootS_ok : SpecOk Try.prog 133 rootS := by
  refine ⟨⟨Try.f133, Try.func133, rfl⟩, fun args k r h => ?_⟩
  unfold rootS at h
  split at h
  · obtain ⟨h1, h2⟩ := cond_some h
    exact ⟨_, h2, says_root false _ (and_dec h1)⟩
  · obtain ⟨h1, h2⟩ := cond_some h
    exact ⟨_, h2, says_root true _ (and_dec h1)⟩
  · cases h
theorem names_ok : NamesOk Try.prog := by
  have h : (Try.prog.funcs.toList.all fun fn => !(fn.name == "runtime.NumGoroutine")) = true := by kernel_rfl
  intro f fn hf
  have := List.all_eq_true.1 h fn (by
    rw [← Array.getElem?_toList] at hf
    exact List.mem_of_getElem? hf)
  simpa using this
def eqTypes (t : TypeId) : Bool := t == 24 || t == 29 || t == 84
theorem eq_ok : EqOk Try.prog eqTypes := by
  intro t h
  simp only [eqTypes, Bool.or_eq_true, beq_iff_eq] at h
  rcases h with (rfl | rfl) | rfl
  · exact ⟨by kernel_rfl, by kernel_rfl⟩
  · exact ⟨by kernel_rfl, by kernel_rfl⟩
  · exact ⟨by kernel_rfl, by kernel_rfl⟩
/-- The program, some of its functions told. -/
noncomputable def cfgS (sp : Nat → FuncId → Option (List D → (D → Option Res) → Option Res)) (fu : Nat) : Cfg :=
  { P := Try.prog
    spec := sp fu
    keep := keepF
    keepTok := fun f => f == 59
    dyn := fun f => f == 112
    eqOk := eqTypes
    fuel := fu }
theorem cfgS_ok {sp : Nat → FuncId → Option (List D → (D → Option Res) → Option Res)} {fu : Nat} (h : ∀ f s, sp fu f = some s → SpecOk Try.prog f s) : CfgOk (cfgS sp fu) := ⟨eq_ok, names_ok, by kernel_rfl, h, fun _ _ h => by cases h⟩
/-- The same, few rounds alone, and with a function told that is handed an own list. -/
noncomputable def cfgT (sp : Nat → FuncId → Option (List D → (D → Option Res) → Option Res)) (tk : FuncId → Option (List D → Row → Nat → (D → Nat → Option Res) → Option Res)) (fu : Nat) : Cfg := { cfgS sp fu with tok := tk, fuel := 3 }
theorem cfgT_ok {sp : Nat → FuncId → Option (List D → (D → Option Res) → Option Res)} {tk : FuncId → Option (List D → Row → Nat → (D → Nat → Option Res) → Option Res)} {fu : Nat} (h : ∀ f s, sp fu f = some s → SpecOk Try.prog f s) (h2 : ∀ f s, tk f = some s → TokOk Try.prog f s) : CfgOk (cfgT sp tk fu) := ⟨eq_ok, names_ok, (cfgS_ok h).mixed, h, h2⟩
def sp0 (_ : Nat) (f : FuncId) : Option (List D → (D → Option Res) → Option Res) := if f = 133 then some rootS else none
theorem sp0_ok (fu : Nat) : ∀ f s, sp0 fu f = some s → SpecOk Try.prog f s := fun f s h => by
  unfold sp0 at h
  split at h
  · rename_i hf
    subst hf
    cases h
    exact rootS_ok
  · cases h
noncomputable def cf0 (fu : Nat) : Cfg := cfgS sp0 fu
theorem cf0_ok (fu : Nat) : CfgOk (cf0 fu) := cfgS_ok (sp0_ok fu)
/-- A specification with one more function told. -/
def also (f : FuncId) (s : Nat → List D → (D → Option Res) → Option Res) (sp : Nat → FuncId → Option (List D → (D → Option Res) → Option Res)) (fu : Nat) (g : FuncId) : Option (List D → (D → Option Res) → Option Res) := if g = f then some (s fu) else sp fu g
theorem also_ok {f : FuncId} {s : Nat → List D → (D → Option Res) → Option Res} {sp : Nat → FuncId → Option (List D → (D → Option Res) → Option Res)} {fu : Nat} (h : SpecOk Try.prog f (s fu)) (h0 : ∀ g t, sp fu g = some t → SpecOk Try.prog g t) : ∀ g t, also f s sp fu g = some t → SpecOk Try.prog g t := fun g t e => by
  unfold also at e
  split at e
  · rename_i hf
    subst hf
    cases e
    exact h
  · exact h0 g t e
theorem w64_eq (n : Int) : w64 n = if n % 18446744073709551616 ≥ 9223372036854775808 then n % 18446744073709551616 - 18446744073709551616 else n % 18446744073709551616 := by
  show IntKind.i64.wrap n = _
  simp [IntKind.wrap, IntKind.bits, IntKind.signed]
theorem w_id {n : Int} (h1 : -9223372036854775808 ≤ n) (h2 : n ≤ 9223372036854775807) : w64 n = n := by
  rw [w64_eq]
  omega
theorem w_succ {i n : Nat} (h : i < n) (hn : n ≤ 9223372036854775807) : w64 ((i : Int) + 1) = ((i + 1 : Nat) : Int) := by
  rw [w_id (by omega) (by omega)]
  omega
theorem getD_nat {α : Type} {xs : List α} {d : α} (i : Nat) (h : i < xs.length) : xs.getD ((i : Int).toNat) d = xs[i] := by simp [List.getD, h]
theorem drop_cons {α : Type} {xs : List α} {i : Nat} (h : i < xs.length) : xs.drop i = xs[i] :: xs.drop (i + 1) := List.drop_eq_getElem_cons h
end Go.Proofs.Ytaheamdoldiojaa.P
namespace Go.Proofs.Ytaheamdoldiojaa.P
open Go Go.RowKit Go.Am
theorem take_snoc {α : Type} {xs : List α} {i : Nat} (h : i < xs.length) : xs.take (i + 1) = xs.take i ++ [xs[i]] := by
  rw [List.take_succ_eq_append_getElem h]
theorem tdiv_pos {a b : Int} (ha : 0 ≤ a) : a.tdiv b = a / b := Int.tdiv_eq_ediv_of_nonneg ha
theorem Rt.IsRoot.small {n r : Int} (h : Rt.IsRoot n r) (hn : n < 2305843009213693952) : r < 2147483648 := Rt.lt_of_sq (by omega) (by have := h.2.1; omega)
def Bo.v (lo hi : Int) : Prop := lo ≤ hi ∧ -1073741824 ≤ lo ∧ hi ≤ 1073741824
instance Bo.vDec (lo hi : Int) : Decidable (Bo.v lo hi) := inferInstanceAs (Decidable (lo ≤ hi ∧ -1073741824 ≤ lo ∧ hi ≤ 1073741824))
def Bo.res (lo hi : Int) : Int × Int × Int := if Bo.v lo hi then (lo, hi, 0) else (0, 0, 4)
theorem Bo.mxE (a b : Int) : mx a b = max a b := by unfold mx; omega
theorem Bo.mnE (a b : Int) : mn a b = min a b := by unfold mn; omega
def Bo.op2 (a0 a1 b0 b1 : Int) (r : Int × Int × Int) : Int × Int × Int := if Bo.v a0 a1 ∧ Bo.v b0 b1 then r else (0, 0, 2)
def Bo.add (a0 a1 b0 b1 : Int) : Int × Int × Int := Bo.op2 a0 a1 b0 b1 (Bo.res (a0 + b0) (a1 + b1))
def Bo.sub (a0 a1 b0 b1 : Int) : Int × Int × Int := Bo.op2 a0 a1 b0 b1 (Bo.res (a0 - b1) (a1 - b0))
def Bo.least : List Int → Int
  | [] => 0
  | a :: l => l.foldl min a
def Bo.most : List Int → Int
  | [] => 0
  | a :: l => l.foldl max a
theorem Bo.mul_le {a b : Int} (h1 : -1073741824 ≤ a) (h2 : a ≤ 1073741824) (h3 : -1073741824 ≤ b) (h4 : b ≤ 1073741824) : -1152921504606846976 ≤ a * b ∧ a * b ≤ 1152921504606846976 := by
  have h : (a * b).natAbs ≤ 1073741824 * 1073741824 := by
    rw [Int.natAbs_mul]
    exact Nat.mul_le_mul (by omega) (by omega)
  omega
def Bo.mul (a0 a1 b0 b1 : Int) : Int × Int × Int := Bo.op2 a0 a1 b0 b1 (Bo.res (min (min (min (a0 * b0) (a0 * b1)) (a1 * b0)) (a1 * b1)) (max (max (max (a0 * b0) (a0 * b1)) (a1 * b0)) (a1 * b1)))
theorem Bo.mul_w {a b : Int} (h1 : -1073741824 ≤ a) (h2 : a ≤ 1073741824) (h3 : -1073741824 ≤ b) (h4 : b ≤ 1073741824) : w64 (a * b) = a * b := by
  have := Bo.mul_le h1 h2 h3 h4
  exact w_id (by omega) (by omega)
def Bo.hull (a0 a1 b0 b1 : Int) : Int × Int × Int := Bo.op2 a0 a1 b0 b1 (min a0 b0, max a1 b1, 0)
def Bo.meet (a0 a1 b0 b1 : Int) : Int × Int × Int := Bo.op2 a0 a1 b0 b1 (if max a0 b0 ≤ min a1 b1 then (max a0 b0, min a1 b1, 0) else (0, 0, 5))
def Bo.fl (n d : Int) : Int := if d < 0 then (-n) / (-d) else n / d
def Bo.cl (n d : Int) : Int := -Bo.fl (-n) d
theorem Bo.fl_pos {d : Int} (h : 0 < d) (n : Int) : Bo.fl n d = n / d := by unfold Bo.fl; rw [if_neg (by omega)]
theorem Bo.fl_neg (n d : Int) (h : d ≠ 0) : Bo.fl (-n) (-d) = Bo.fl n d := by
  unfold Bo.fl
  by_cases q : d < 0
  · rw [if_pos q, if_neg (by omega)]
  · rw [if_neg q, if_pos (by omega), Int.neg_neg, Int.neg_neg]
theorem Bo.fl_le {d : Int} (h : 0 < d) (n : Int) : Bo.fl n d * d ≤ n := by rw [Bo.fl_pos h]; exact Int.ediv_mul_le _ (by omega)
theorem Bo.lt_fl {d : Int} (h : 0 < d) (n : Int) : n < (Bo.fl n d + 1) * d := by rw [Bo.fl_pos h]; exact Int.lt_ediv_add_one_mul_self _ h
theorem Bo.le_cl {d : Int} (h : 0 < d) (n : Int) : n ≤ Bo.cl n d * d := by
  have := Bo.fl_le h (-n)
  unfold Bo.cl
  rw [Int.neg_mul]
  omega
theorem Bo.cl_lt {d : Int} (h : 0 < d) (n : Int) : (Bo.cl n d - 1) * d < n := by
  have := Bo.lt_fl h (-n)
  unfold Bo.cl
  have e : (-Bo.fl (-n) d - 1) * d = -((Bo.fl (-n) d + 1) * d) := by rw [← Int.neg_mul]; congr 1; omega
  omega
theorem Bo.fl_abs {n d M : Int} (hd : d ≠ 0) (h1 : -M ≤ n) (h2 : n ≤ M) : -M ≤ Bo.fl n d ∧ Bo.fl n d ≤ M := by
  have key : ∀ n d : Int, 0 < d → -M ≤ n → n ≤ M → -M ≤ n / d ∧ n / d ≤ M := by
    intro n d hd h1 h2
    constructor
    · refine (Int.le_ediv_iff_mul_le hd).2 ?_
      have : -M * d ≤ -M * 1 := by
        have hM : 0 ≤ M := by omega
        have := Int.mul_le_mul_of_nonneg_left (show (1 : Int) ≤ d by omega) hM
        rw [Int.neg_mul, Int.neg_mul]
        omega
      omega
    · have h3 := Int.ediv_mul_le n (b := d) (by omega)
      by_cases q : n / d ≤ 0
      · omega
      · have := Int.mul_le_mul_of_nonneg_left (show (1 : Int) ≤ d by omega) (show 0 ≤ n / d by omega)
        omega
  unfold Bo.fl
  by_cases q : d < 0
  · rw [if_pos q]
    exact key _ _ (by omega) (by omega) (by omega)
  · rw [if_neg q]
    exact key _ _ (by omega) h1 h2
theorem Bo.tdiv_abs {n d M : Int} (hd : d ≠ 0) (h1 : -M ≤ n) (h2 : n ≤ M) : -M ≤ Int.tdiv n d ∧ Int.tdiv n d ≤ M := by
  have := Int.natAbs_tdiv_le_natAbs n d
  omega
theorem Bo.fl_of_rest {n d : Int} (hd : d ≠ 0) : Bo.fl n d = if Int.tmod n d ≠ 0 ∧ (Int.tmod n d < 0 ↔ 0 < d) then Int.tdiv n d - 1 else Int.tdiv n d := by
  have e1 := Int.mul_tdiv_add_tmod n d
  have key : ∀ (m d q r : Int), 0 < d → d * q + r = m → 0 ≤ r → r < d → m / d = q := by
    intro m d q r hd e h0 h1
    refine Int.ediv_eq_iff_of_pos hd |>.2 ?_
    have := Int.mul_comm d q
    have e2 : (q + 1) * d = q * d + d := by rw [Int.add_mul, Int.one_mul]
    omega
  by_cases q : d < 0
  · have hr : (Int.tmod n d).natAbs < d.natAbs := by
      rw [← Int.natAbs_neg d]
      have := Int.natAbs_tmod n d
      have h3 := Nat.mod_lt n.natAbs (show 0 < d.natAbs by omega)
      omega
    unfold Bo.fl
    rw [if_pos q]
    by_cases c : Int.tmod n d ≠ 0 ∧ (Int.tmod n d < 0 ↔ 0 < d)
    · rw [if_pos c]
      obtain ⟨c1, c2⟩ := c
      have c3 : ¬ Int.tmod n d < 0 := fun h => by have := c2.1 h; omega
      refine key (-n) (-d) _ (-d - Int.tmod n d) (by omega) ?_ (by omega) (by omega)
      have : -d * (Int.tdiv n d - 1) = -(d * Int.tdiv n d) + d := by
        rw [Int.mul_sub, Int.neg_mul]
        omega
      omega
    · rw [if_neg c]
      have c3 : Int.tmod n d ≤ 0 := by
        rcases Int.lt_trichotomy (Int.tmod n d) 0 with h | h | h
        · omega
        · omega
        · exact absurd ⟨by omega, by constructor <;> intro _ <;> omega⟩ c
      refine key (-n) (-d) _ (-Int.tmod n d) (by omega) ?_ (by omega) (by omega)
      rw [Int.neg_mul]
      omega
  · have hr : (Int.tmod n d).natAbs < d.natAbs := by
      have := Int.natAbs_tmod n d
      have h3 := Nat.mod_lt n.natAbs (show 0 < d.natAbs by omega)
      omega
    unfold Bo.fl
    rw [if_neg q]
    by_cases c : Int.tmod n d ≠ 0 ∧ (Int.tmod n d < 0 ↔ 0 < d)
    · rw [if_pos c]
      obtain ⟨c1, c2⟩ := c
      have c3 : Int.tmod n d < 0 := c2.2 (by omega)
      refine key n d _ (d + Int.tmod n d) (by omega) ?_ (by omega) (by omega)
      have : d * (Int.tdiv n d - 1) = d * Int.tdiv n d - d := by rw [Int.mul_sub, Int.mul_one]
      omega
    · rw [if_neg c]
      have c3 : 0 ≤ Int.tmod n d := by
        rcases Int.lt_trichotomy (Int.tmod n d) 0 with h | h | h
        · exact absurd ⟨by omega, by constructor <;> intro _ <;> omega⟩ c
        · omega
        · omega
      exact key n d _ (Int.tmod n d) (by omega) e1 (by omega) (by omega)
theorem Bo.cl_of_rest {n d : Int} (hd : d ≠ 0) : Bo.cl n d = if Int.tmod n d ≠ 0 ∧ (Int.tmod n d < 0 ↔ d < 0) then Int.tdiv n d + 1 else Int.tdiv n d := by
  unfold Bo.cl
  rw [Bo.fl_of_rest hd, Int.neg_tmod, Int.neg_tdiv]
  by_cases c : Int.tmod n d ≠ 0 ∧ (Int.tmod n d < 0 ↔ d < 0)
  · rw [if_pos c, if_pos (by omega)]
    omega
  · rw [if_neg c, if_neg (by omega)]
    omega
def Bo.div (a0 a1 b0 b1 : Int) : Int × Int × Int := Bo.op2 a0 a1 b0 b1 (if b0 ≤ 0 ∧ 0 ≤ b1 then (0, 0, 9) else
  Bo.res (min (min (min (Bo.fl a0 b0) (Bo.fl a0 b1)) (Bo.fl a1 b0)) (Bo.fl a1 b1)) (max (max (max (Bo.cl a0 b0) (Bo.cl a0 b1)) (Bo.cl a1 b0)) (Bo.cl a1 b1)))
def Bo.scale (a0 a1 n d : Int) : Int × Int × Int := if Bo.v a0 a1 then (if -1073741824 ≤ n ∧ n ≤ 1073741824 ∧ 1 ≤ d ∧ d ≤ 1073741824 then
  Bo.res (min (Bo.fl (a0 * n) d) (Bo.fl (a1 * n) d)) (max (Bo.cl (a0 * n) d) (Bo.cl (a1 * n) d)) else (0, 0, 3)) else (0, 0, 2)
theorem Bo.sq_lt {a b : Int} (h : 0 ≤ a) (h1 : a < b) : a * a < b * b := Int.lt_of_le_of_lt (Int.mul_le_mul_of_nonneg_left (show a ≤ b by omega) h) (Int.mul_lt_mul_of_pos_right h1 (by omega))
theorem Bo.root_is {n : Int} (h0 : 0 ≤ n) : 0 ≤ Rt.root n ∧ Rt.root n * Rt.root n ≤ n ∧ n < (Rt.root n + 1) * (Rt.root n + 1) := Rt.root_is h0
theorem Bo.root_le {n M : Int} (hM : 0 ≤ M) (h : n < (M + 1) * (M + 1)) (h0 : 0 ≤ n) : Rt.root n ≤ M := by
  have h1 := Bo.root_is h0
  have := Rt.lt_of_sq (a := Rt.root n) (b := M + 1) (by omega) (by omega)
  omega
theorem Bo.rootUp_le {n M : Int} (hM : 0 ≤ M) (h : n ≤ M * M) (h0 : 0 ≤ n) : 0 ≤ Rt.rootUp n ∧ Rt.rootUp n ≤ M := by
  have h1 := Bo.root_is h0
  unfold Rt.rootUp
  split
  · next h2 =>
    have := Rt.lt_of_sq (a := Rt.root n) (b := M) hM (by omega)
    omega
  · have h2 : M * M < (M + 1) * (M + 1) := Bo.sq_lt hM (by omega)
    have := Bo.root_le hM (by omega) h0
    omega
theorem Bo.rootUp_is {n : Int} (h0 : 0 ≤ n) : 0 ≤ Rt.rootUp n ∧ n ≤ Rt.rootUp n * Rt.rootUp n ∧ (0 < Rt.rootUp n → (Rt.rootUp n - 1) * (Rt.rootUp n - 1) < n) := by
  have h1 := Bo.root_is h0
  unfold Rt.rootUp
  split
  · next h =>
    refine ⟨by omega, by omega, fun _ => ?_⟩
    rw [show Rt.root n + 1 - 1 = Rt.root n by omega]
    exact h
  · next h =>
    refine ⟨by omega, by omega, fun hp => ?_⟩
    have : (Rt.root n - 1) * (Rt.root n - 1) < Rt.root n * Rt.root n := Bo.sq_lt (by omega) (by omega)
    omega
def Bo.root (a0 a1 : Int) : Int × Int × Int := if Bo.v a0 a1 then (if a0 < 0 then (0, 0, 3) else (Rt.root a0, Rt.rootUp a1, 0)) else (0, 0, 2)
theorem Bo.root_res {a0 a1 : Int} (h : Bo.v a0 a1) (h0 : ¬ a0 < 0) : Bo.res (Rt.root a0) (Rt.rootUp a1) = (Rt.root a0, Rt.rootUp a1, 0) := by
  obtain ⟨h1, h2, h3⟩ := h
  have r0 := Bo.root_is (n := a0) (by omega)
  have r1 := Bo.rootUp_le (n := a1) (M := 1073741824) (by omega) (by omega) (by omega)
  have r2 := Bo.rootUp_is (n := a1) (by omega)
  have r3 : Rt.root a0 ≤ Rt.rootUp a1 := by
    have := Rt.lt_of_sq (a := Rt.root a0) (b := Rt.rootUp a1 + 1) (by omega) (by
      have : Rt.rootUp a1 * Rt.rootUp a1 < (Rt.rootUp a1 + 1) * (Rt.rootUp a1 + 1) := Bo.sq_lt (by omega) (by omega)
      omega)
    omega
  unfold Bo.res
  rw [if_pos (by unfold Bo.v; omega)]
def Bo.grow (a0 a1 n : Int) : Int × Int × Int := if Bo.v a0 a1 then (if 0 ≤ n ∧ n ≤ 1073741824 then Bo.res (a0 - n) (a1 + n) else (0, 0, 3)) else (0, 0, 2)
def Bo.line (t0 a0 a1 t1 b0 b1 t : Int) : Int × Int × Int := Bo.op2 a0 a1 b0 b1 (if 0 ≤ t0 ∧ t1 ≤ 1073741824 ∧ t0 < t1 ∧ t0 ≤ t ∧ t ≤ t1 then
  Bo.res (Bo.fl (a0 * (t1 - t) + b0 * (t - t0)) (t1 - t0)) (Bo.cl (a1 * (t1 - t) + b1 * (t - t0)) (t1 - t0)) else (0, 0, 3))
def Bo.less (a0 a1 b0 b1 : Int) : Int × Int := if Bo.v a0 a1 ∧ Bo.v b0 b1 then (if a1 < b0 then (2, 0) else if b1 ≤ a0 then (0, 0) else (1, 0)) else (0, 2)
def Bo.inn (a0 a1 b0 b1 : Int) : Int × Int := if Bo.v a0 a1 ∧ Bo.v b0 b1 then (if b0 ≤ a0 ∧ a1 ≤ b1 then (2, 0) else if a1 < b0 ∨ b1 < a0 then (0, 0) else (1, 0)) else (0, 2)
def Bo.ansB (x : Int) : Bool := decide (0 ≤ x) && decide (x ≤ 2)
def Bo.ans (l : List Int) : Int := if (l.length : Int) > 256 then 6 else if l.all Bo.ansB = true then 0 else 2
def Bo.all (l : List Int) : Int × Int := if Bo.ans l = 0 then (l.foldl min 2, 0) else (0, Bo.ans l)
def Bo.any (l : List Int) : Int × Int := if Bo.ans l = 0 then (l.foldl max 0, 0) else (0, Bo.ans l)
theorem Bo.ans_small {xs : List Int} (h : Bo.ans xs = 0) : xs.length ≤ 256 := by
  unfold Bo.ans at h
  split at h <;> omega
def Bo.vb (a0 a1 a2 a3 : Int) : Prop := Bo.v a0 a1 ∧ Bo.v a2 a3 ∧ -268435456 ≤ a0 ∧ a1 ≤ 268435456 ∧ -268435456 ≤ a2 ∧ a3 ≤ 268435456
instance Bo.vbDec (a0 a1 a2 a3 : Int) : Decidable (Bo.vb a0 a1 a2 a3) := inferInstanceAs (Decidable (_ ∧ _))
def Bo.near (a0 a1 b0 b1 : Int) : Int := max (max 0 (a0 - b1)) (b0 - a1)
def Bo.far (a0 a1 b0 b1 : Int) : Int := max (a1 - b0) (b1 - a0)
def Bo.sqLo (a0 a1 a2 a3 b0 b1 b2 b3 : Int) : Int := Bo.near a0 a1 b0 b1 * Bo.near a0 a1 b0 b1 + Bo.near a2 a3 b2 b3 * Bo.near a2 a3 b2 b3
def Bo.sqHi (a0 a1 a2 a3 b0 b1 b2 b3 : Int) : Int := Bo.far a0 a1 b0 b1 * Bo.far a0 a1 b0 b1 + Bo.far a2 a3 b2 b3 * Bo.far a2 a3 b2 b3
def Bo.square (a0 a1 a2 a3 b0 b1 b2 b3 : Int) : Int × Int × Int := if Bo.vb a0 a1 a2 a3 ∧ Bo.vb b0 b1 b2 b3 then (Bo.sqLo a0 a1 a2 a3 b0 b1 b2 b3, Bo.sqHi a0 a1 a2 a3 b0 b1 b2 b3, 0) else (0, 0, 2)
theorem Bo.sq_range {x : Int} (h0 : 0 ≤ x) (h1 : x ≤ 536870912) : 0 ≤ x * x ∧ x * x ≤ 288230376151711744 := by
  refine ⟨Int.mul_nonneg h0 h0, ?_⟩
  have := Int.mul_le_mul h1 h1 h0 (by omega)
  omega
theorem Bo.near_range {a0 a1 b0 b1 : Int} (h1 : a0 ≤ a1) (h2 : b0 ≤ b1) (h3 : -268435456 ≤ a0) (h4 : a1 ≤ 268435456) (h5 : -268435456 ≤ b0) (h6 : b1 ≤ 268435456) : 0 ≤ Bo.near a0 a1 b0 b1 ∧ Bo.near a0 a1 b0 b1 ≤ 536870912 := by
  unfold Bo.near
  omega
theorem Bo.far_range {a0 a1 b0 b1 : Int} (h1 : a0 ≤ a1) (h2 : b0 ≤ b1) (h3 : -268435456 ≤ a0) (h4 : a1 ≤ 268435456) (h5 : -268435456 ≤ b0) (h6 : b1 ≤ 268435456) : 0 ≤ Bo.far a0 a1 b0 b1 ∧ Bo.far a0 a1 b0 b1 ≤ 536870912 := by
  unfold Bo.far
  omega
theorem Bo.near_far {a0 a1 b0 b1 : Int} (h1 : a0 ≤ a1) (h2 : b0 ≤ b1) : Bo.near a0 a1 b0 b1 ≤ Bo.far a0 a1 b0 b1 := by
  unfold Bo.near Bo.far
  omega
theorem Bo.square_core {a0 a1 a2 a3 b0 b1 b2 b3 : Int} (ha : Bo.vb a0 a1 a2 a3) (hb : Bo.vb b0 b1 b2 b3) :
    (some (mx (mx 0 (w64 (a0 - b1))) (w64 (b0 - a1)), mx (w64 (a1 - b0)) (w64 (b1 - a0))) : Option (Int × Int)) = some (Bo.near a0 a1 b0 b1, Bo.far a0 a1 b0 b1) := by
  obtain ⟨⟨h1, -, -⟩, -, h3, h4, -, -⟩ := ha
  obtain ⟨⟨g1, -, -⟩, -, g3, g4, -, -⟩ := hb
  rw [Bo.mxE, Bo.mxE, Bo.mxE, w_id (by omega) (by omega), w_id (by omega) (by omega), w_id (by omega) (by omega), w_id (by omega) (by omega)]
  rfl
theorem Bo.vb_swap {a0 a1 a2 a3 : Int} (h : Bo.vb a0 a1 a2 a3) : Bo.vb a2 a3 a0 a1 := ⟨h.2.1, h.1, h.2.2.2.2.1, h.2.2.2.2.2, h.2.2.1, h.2.2.2.1⟩
theorem Bo.square_w {a0 a1 a2 a3 b0 b1 b2 b3 : Int} (ha : Bo.vb a0 a1 a2 a3) (hb : Bo.vb b0 b1 b2 b3) :
    w64 (w64 (Bo.near a0 a1 b0 b1 * Bo.near a0 a1 b0 b1) + w64 (Bo.near a2 a3 b2 b3 * Bo.near a2 a3 b2 b3)) = Bo.sqLo a0 a1 a2 a3 b0 b1 b2 b3 ∧ w64 (w64 (Bo.far a0 a1 b0 b1 * Bo.far a0 a1 b0 b1) + w64 (Bo.far a2 a3 b2 b3 * Bo.far a2 a3 b2 b3)) = Bo.sqHi a0 a1 a2 a3 b0 b1 b2 b3 ∧
    0 ≤ Bo.sqLo a0 a1 a2 a3 b0 b1 b2 b3 ∧ Bo.sqLo a0 a1 a2 a3 b0 b1 b2 b3 ≤ Bo.sqHi a0 a1 a2 a3 b0 b1 b2 b3 ∧ Bo.sqHi a0 a1 a2 a3 b0 b1 b2 b3 ≤ 576460752303423488 := by
  obtain ⟨⟨h1, -, -⟩, ⟨h2, -, -⟩, h3, h4, h5, h6⟩ := ha
  obtain ⟨⟨g1, -, -⟩, ⟨g2, -, -⟩, g3, g4, g5, g6⟩ := hb
  have n1 := Bo.near_range h1 g1 h3 h4 g3 g4
  have n2 := Bo.near_range h2 g2 h5 h6 g5 g6
  have f1 := Bo.far_range h1 g1 h3 h4 g3 g4
  have f2 := Bo.far_range h2 g2 h5 h6 g5 g6
  have m1 := Bo.near_far h1 g1
  have m2 := Bo.near_far h2 g2
  have q1 := Bo.sq_range n1.1 n1.2
  have q2 := Bo.sq_range n2.1 n2.2
  have q3 := Bo.sq_range f1.1 f1.2
  have q4 := Bo.sq_range f2.1 f2.2
  have q5 := Rt.sq_le n1.1 m1
  have q6 := Rt.sq_le n2.1 m2
  unfold Bo.sqLo Bo.sqHi
  refine ⟨?_, ?_, by omega, by omega, by omega⟩
  · rw [w_id (n := Bo.near a0 a1 b0 b1 * Bo.near a0 a1 b0 b1) (by omega) (by omega), w_id (n := Bo.near a2 a3 b2 b3 * Bo.near a2 a3 b2 b3) (by omega) (by omega), w_id (by omega) (by omega)]
  · rw [w_id (n := Bo.far a0 a1 b0 b1 * Bo.far a0 a1 b0 b1) (by omega) (by omega), w_id (n := Bo.far a2 a3 b2 b3 * Bo.far a2 a3 b2 b3) (by omega) (by omega), w_id (by omega) (by omega)]
def Bo.distance (a0 a1 a2 a3 b0 b1 b2 b3 : Int) : Int × Int × Int := if Bo.vb a0 a1 a2 a3 ∧ Bo.vb b0 b1 b2 b3 then (Rt.root (Bo.sqLo a0 a1 a2 a3 b0 b1 b2 b3), Rt.rootUp (Bo.sqHi a0 a1 a2 a3 b0 b1 b2 b3), 0) else (0, 0, 2)
theorem Bo.lin {w0 w1 x b : Int} (h0 : w0 ≤ x) (h1 : x ≤ w1) : min (w0 * b) (w1 * b) ≤ x * b ∧ x * b ≤ max (w0 * b) (w1 * b) := by
  by_cases q : 0 ≤ b
  · have := Int.mul_le_mul_of_nonneg_right h0 q
    have := Int.mul_le_mul_of_nonneg_right h1 q
    omega
  · have := Int.mul_le_mul_of_nonpos_right h0 (show b ≤ 0 by omega)
    have := Int.mul_le_mul_of_nonpos_right h1 (show b ≤ 0 by omega)
    omega
theorem Bo.lin' {w0 w1 x b : Int} (h0 : w0 ≤ x) (h1 : x ≤ w1) : min (b * w0) (b * w1) ≤ b * x ∧ b * x ≤ max (b * w0) (b * w1) := by
  rw [Int.mul_comm b w0, Int.mul_comm b w1, Int.mul_comm b x]
  exact Bo.lin h0 h1
theorem Bo.corner {a0 a1 b0 b1 x y : Int} (x0 : a0 ≤ x) (x1 : x ≤ a1) (y0 : b0 ≤ y) (y1 : y ≤ b1) :
    min (min (min (a0 * b0) (a0 * b1)) (a1 * b0)) (a1 * b1) ≤ x * y ∧ x * y ≤ max (max (max (a0 * b0) (a0 * b1)) (a1 * b0)) (a1 * b1) := by
  have h := Bo.lin (b := y) x0 x1
  have p := Bo.lin' (b := a0) y0 y1
  have q := Bo.lin' (b := a1) y0 y1
  omega
theorem Bo.fl_mono {m n d : Int} (hd : 0 < d) (h : m ≤ n) : Bo.fl m d ≤ Bo.fl n d := by
  rw [Bo.fl_pos hd, Bo.fl_pos hd]
  exact Int.ediv_le_ediv hd h
theorem Bo.cl_mono {m n d : Int} (hd : 0 < d) (h : m ≤ n) : Bo.cl m d ≤ Bo.cl n d := by
  have := Bo.fl_mono hd (show -n ≤ -m by omega)
  unfold Bo.cl
  omega
theorem Bo.fl_anti {m n d : Int} (hd : d < 0) (h : m ≤ n) : Bo.fl n d ≤ Bo.fl m d := by
  rw [← Bo.fl_neg n d (by omega), ← Bo.fl_neg m d (by omega)]
  exact Bo.fl_mono (by omega) (by omega)
theorem Bo.cl_anti {m n d : Int} (hd : d < 0) (h : m ≤ n) : Bo.cl n d ≤ Bo.cl m d := by
  have := Bo.fl_anti hd (show -n ≤ -m by omega)
  unfold Bo.cl
  omega
theorem Bo.fl_lin {w0 w1 x d : Int} (hd : d ≠ 0) (h0 : w0 ≤ x) (h1 : x ≤ w1) : min (Bo.fl w0 d) (Bo.fl w1 d) ≤ Bo.fl x d := by
  by_cases q : 0 < d
  · have := Bo.fl_mono q h0
    omega
  · have := Bo.fl_anti (show d < 0 by omega) h1
    omega
theorem Bo.cl_lin {w0 w1 x d : Int} (hd : d ≠ 0) (h0 : w0 ≤ x) (h1 : x ≤ w1) : Bo.cl x d ≤ max (Bo.cl w0 d) (Bo.cl w1 d) := by
  by_cases q : 0 < d
  · have := Bo.cl_mono q h1
    omega
  · have := Bo.cl_anti (show d < 0 by omega) h0
    omega
theorem Bo.fl_scale {w0 w1 x n d : Int} (hd : 0 < d) (h0 : w0 ≤ x) (h1 : x ≤ w1) : min (Bo.fl (w0 * n) d) (Bo.fl (w1 * n) d) ≤ Bo.fl (x * n) d := by
  have h := (Bo.lin (b := n) h0 h1).1
  rcases (show w0 * n ≤ x * n ∨ w1 * n ≤ x * n by omega) with q | q
  · have := Bo.fl_mono hd q
    omega
  · have := Bo.fl_mono hd q
    omega
theorem Bo.cl_scale {w0 w1 x n d : Int} (hd : 0 < d) (h0 : w0 ≤ x) (h1 : x ≤ w1) : Bo.cl (x * n) d ≤ max (Bo.cl (w0 * n) d) (Bo.cl (w1 * n) d) := by
  have h := (Bo.lin (b := n) h0 h1).2
  rcases (show x * n ≤ w0 * n ∨ x * n ≤ w1 * n by omega) with q | q
  · have := Bo.cl_mono hd q
    omega
  · have := Bo.cl_mono hd q
    omega
theorem Bo.root_mono {m n : Int} (h0 : 0 ≤ m) (h : m ≤ n) : Rt.root m ≤ Rt.root n := by
  have hr := Bo.root_is (n := n) (by omega)
  exact Bo.root_le hr.1 (by omega) h0
theorem Bo.rootUp_mono {m n : Int} (h0 : 0 ≤ m) (h : m ≤ n) : Rt.rootUp m ≤ Rt.rootUp n := by
  have hr := Bo.rootUp_is (n := n) (by omega)
  exact (Bo.rootUp_le hr.1 (by omega) h0).2
theorem Bo.rootW {n : Int} (h0 : 0 ≤ n) (h1 : n ≤ 576460752303423488) : w64 (Rt.root n * Rt.root n) = Rt.root n * Rt.root n := by
  have r1 := Bo.root_is h0
  exact w_id (by have := Int.mul_nonneg r1.1 r1.1; omega) (by omega)
theorem Bo.rootUpW {n : Int} (h0 : 0 ≤ n) (h1 : n ≤ 576460752303423488) : w64 (Rt.rootUp n * Rt.rootUp n) = Rt.rootUp n * Rt.rootUp n := by
  have r3 := Bo.rootUp_le (n := n) (M := 1073741824) (by omega) (by omega) h0
  have r4 := Int.mul_le_mul r3.2 r3.2 r3.1 (by omega)
  exact w_id (by have := Int.mul_nonneg r3.1 r3.1; omega) (by omega)
def Sp.vb (b : (Int × Int × Int × Int)) : Bool := decide (Bo.vb b.1 b.2.1 b.2.2.1 b.2.2.2)
def Sp.nok (st : List (Int × Int × Int × Int)) (lo hi : Int) : Prop := 2 ≤ st.length ∧ st.length ≤ 8 ∧ Bo.v lo hi ∧ 1 ≤ lo ∧ hi ≤ 20000 ∧ st.all Sp.vb = true
instance (st : List (Int × Int × Int × Int)) (lo hi : Int) : Decidable (Sp.nok st lo hi) := by unfold Sp.nok Bo.v; infer_instance
def Sp.net (st : List (Int × Int × Int × Int)) (lo hi : Int) : Int := if Sp.nok st lo hi then 0 else 2
def Sp.trav (lo hi : Int) (a b : (Int × Int × Int × Int)) : Int × Int :=
  (Bo.fl (1000 * Rt.root (Bo.sqLo a.1 a.2.1 a.2.2.1 a.2.2.2 b.1 b.2.1 b.2.2.1 b.2.2.2)) hi, Bo.cl (1000 * Rt.rootUp (Bo.sqHi a.1 a.2.1 a.2.2.1 a.2.2.2 b.1 b.2.1 b.2.2.1 b.2.2.2)) lo)
theorem Sp.up_cl {n d : Int} (hd : 0 < d) : (n + d - 1) / d = Bo.cl n d := by
  have h1 := Bo.le_cl hd n
  have h2 := Bo.cl_lt hd n
  have h3 : (n + d - 1) / d * d ≤ n + d - 1 := Int.ediv_mul_le _ (by omega)
  have h4 : n + d - 1 < ((n + d - 1) / d + 1) * d := Int.lt_ediv_add_one_mul_self _ hd
  generalize (n + d - 1) / d = q at *
  generalize Bo.cl n d = c at *
  have a1 : (q - 1) * d < c * d := by
    rw [Int.sub_mul]
    omega
  have a2 : (c - 1) * d < q * d := by
    have : (q + 1) * d = q * d + d := by rw [Int.add_mul]; omega
    omega
  have b1 := Int.lt_of_mul_lt_mul_right a1 (by omega)
  have b2 := Int.lt_of_mul_lt_mul_right a2 (by omega)
  omega
structure Sp.Dist (a b : (Int × Int × Int × Int)) : Prop where
  lo0 : 0 ≤ Rt.root (Bo.sqLo a.1 a.2.1 a.2.2.1 a.2.2.2 b.1 b.2.1 b.2.2.1 b.2.2.2)
  lo1 : Rt.root (Bo.sqLo a.1 a.2.1 a.2.2.1 a.2.2.2 b.1 b.2.1 b.2.2.1 b.2.2.2) ≤ 1073741824
  hi0 : 0 ≤ Rt.rootUp (Bo.sqHi a.1 a.2.1 a.2.2.1 a.2.2.2 b.1 b.2.1 b.2.2.1 b.2.2.2)
  hi1 : Rt.rootUp (Bo.sqHi a.1 a.2.1 a.2.2.1 a.2.2.2 b.1 b.2.1 b.2.2.1 b.2.2.2) ≤ 1073741824
theorem Sp.dist {a b : (Int × Int × Int × Int)} (ha : Sp.vb a = true) (hb : Sp.vb b = true) : Sp.Dist a b := by
  have w := Bo.square_w (of_decide_eq_true ha) (of_decide_eq_true hb)
  have h1 := Bo.root_is (n := Bo.sqLo a.1 a.2.1 a.2.2.1 a.2.2.2 b.1 b.2.1 b.2.2.1 b.2.2.2) w.2.2.1
  have h2 := Bo.root_le (n := Bo.sqLo a.1 a.2.1 a.2.2.1 a.2.2.2 b.1 b.2.1 b.2.2.1 b.2.2.2) (M := 1073741824) (by omega) (by omega) w.2.2.1
  have h3 := Bo.rootUp_le (n := Bo.sqHi a.1 a.2.1 a.2.2.1 a.2.2.2 b.1 b.2.1 b.2.2.1 b.2.2.2) (M := 1073741824) (by omega) (by omega) (by omega)
  exact ⟨h1.1, h2, h3.1, h3.2⟩
theorem Sp.trav_bd {lo hi : Int} {a b : (Int × Int × Int × Int)} (ha : Sp.vb a = true) (hb : Sp.vb b = true) (h1 : 1 ≤ lo) (h2 : lo ≤ hi) : 0 ≤ (Sp.trav lo hi a b).1 ∧ (Sp.trav lo hi a b).1 ≤ 1073741824000 ∧ 0 ≤ (Sp.trav lo hi a b).2 ∧ (Sp.trav lo hi a b).2 ≤ 1073741824000 := by
  have D := Sp.dist ha hb
  have d1 := D.lo0
  have d2 := D.lo1
  have d3 := D.hi0
  have d4 := D.hi1
  unfold Sp.trav
  dsimp only
  generalize Rt.root (Bo.sqLo a.1 a.2.1 a.2.2.1 a.2.2.2 b.1 b.2.1 b.2.2.1 b.2.2.2) = x at *
  generalize Rt.rootUp (Bo.sqHi a.1 a.2.1 a.2.2.1 a.2.2.2 b.1 b.2.1 b.2.2.1 b.2.2.2) = y at *
  rw [Bo.fl_pos (by omega), ← Sp.up_cl (by omega)]
  refine ⟨Int.ediv_nonneg (by omega) (by omega), Int.ediv_le_of_le_mul (by omega) ?_, Int.ediv_nonneg (by omega) (by omega), ?_⟩
  · have : (1073741824000 : Int) * 1 ≤ 1073741824000 * hi := Int.mul_le_mul_of_nonneg_left (by omega) (by omega)
    omega
  · have h3 : (1000 * y + lo - 1) / lo * lo ≤ 1000 * y + lo - 1 := Int.ediv_mul_le _ (by omega)
    have h4 : (1000 * y + lo - 1) / lo ≤ 1000 * y := by
      rw [Int.ediv_le_iff_le_mul (by omega)]
      have : (1000 * y) * 1 ≤ 1000 * y * lo := Int.mul_le_mul_of_nonneg_left (by omega) (by omega)
      omega
    omega
theorem Sp.net_ok {st : List (Int × Int × Int × Int)} {lo hi : Int} (h : Sp.net st lo hi = 0) : Sp.nok st lo hi := by
  unfold Sp.net at h
  split at h
  · assumption
  · cases h
theorem Sp.all_get {st : List (Int × Int × Int × Int)} (h : st.all Sp.vb = true) (i : Nat) (hi : i < st.length) : Sp.vb st[i] = true := List.all_eq_true.1 h _ (List.getElem_mem hi)
def Sp.travel (st : List (Int × Int × Int × Int)) (lo hi : Int) (b : (Int × Int × Int × Int)) (i : Int) : Int × Int × Int :=
  if Sp.net st lo hi = 0 then (if Sp.vb b = true then (if h : 0 ≤ i ∧ i.toNat < st.length then ((Sp.trav lo hi b (st[i.toNat]'h.2)).1, (Sp.trav lo hi b (st[i.toNat]'h.2)).2, 0) else (0, 0, 3)) else (0, 0, 2)) else (0, 0, Sp.net st lo hi)
def Sp.inst (a : (Int × Int)) : Bool := decide (a.1 ≤ a.2 ∧ -1125899906842624 ≤ a.1 ∧ a.2 ≤ 1125899906842624)
def Sp.heard (st : List (Int × Int × Int × Int)) (lo hi : Int) (at_ : List (Int × Int)) (b : (Int × Int × Int × Int)) : Int :=
  if Sp.net st lo hi = 0 then (if at_.length = st.length then (if at_.all Sp.inst = true ∧ Sp.vb b = true then 0 else 2) else 17) else Sp.net st lo hi
structure Sp.Acc (st : List (Int × Int × Int × Int)) (lo hi : Int) (at_ : List (Int × Int)) : Prop where
  n2 : 2 ≤ st.length
  n8 : st.length ≤ 8
  lo1 : 1 ≤ lo
  lh : lo ≤ hi
  hi2 : hi ≤ 20000
  vb : st.all Sp.vb = true
  len : at_.length = st.length
  inst : at_.all Sp.inst = true
theorem Sp.heard_ok {st : List (Int × Int × Int × Int)} {lo hi : Int} {at_ : List (Int × Int)} {b : (Int × Int × Int × Int)} (h : Sp.heard st lo hi at_ b = 0) : Sp.Acc st lo hi at_ ∧ Sp.vb b = true := by
  unfold Sp.heard at h
  split at h
  · next h1 =>
    split at h
    · next h2 =>
      split at h
      · next h3 =>
        obtain ⟨g1, g2, g3, g4, g5, g6⟩ := Sp.net_ok h1
        exact ⟨⟨g1, g2, g4, g3.1, g5, g6, h2, h3.1⟩, h3.2⟩
      · cases h
    · cases h
  · next h1 => exact absurd h h1
theorem Sp.heard_of {st : List (Int × Int × Int × Int)} {lo hi : Int} {at_ : List (Int × Int)} {b : (Int × Int × Int × Int)} (h : Sp.Acc st lo hi at_) (hb : Sp.vb b = true) : Sp.heard st lo hi at_ b = 0 := by
  have a1 := h.lo1
  have a2 := h.lh
  have a3 := h.hi2
  have e : Sp.net st lo hi = 0 := by
    unfold Sp.net
    exact if_pos ⟨h.n2, h.n8, ⟨a2, by omega, by omega⟩, h.lo1, h.hi2, h.vb⟩
  unfold Sp.heard
  rw [if_pos e, if_pos h.len, if_pos ⟨h.inst, hb⟩]
def Sp.by1 (lo hi : Int) (b s : (Int × Int × Int × Int)) (a : (Int × Int)) : Int × Int := (a.1 - (Sp.trav lo hi b s).2, a.2 - (Sp.trav lo hi b s).1)
def Sp.by_ (st : List (Int × Int × Int × Int)) (lo hi : Int) (at_ : List (Int × Int)) (b : (Int × Int × Int × Int)) (i : Nat) : Int × Int := Sp.by1 lo hi b (st.getD i (0, 0, 0, 0)) (at_.getD i (0, 0))
theorem Sp.inst_of {a : (Int × Int)} (h : Sp.inst a = true) : a.1 ≤ a.2 ∧ -1125899906842624 ≤ a.1 ∧ a.2 ≤ 1125899906842624 := of_decide_eq_true h
def Sp.oLo (P : Nat → Int × Int) : Nat → Int
  | 0 => (P 0).1
  | n + 1 => max (Sp.oLo P n) (P n).1
def Sp.oHi (P : Nat → Int × Int) : Nat → Int
  | 0 => (P 0).2
  | n + 1 => min (Sp.oHi P n) (P n).2
def Sp.org (st : List (Int × Int × Int × Int)) (lo hi : Int) (at_ : List (Int × Int)) (b : (Int × Int × Int × Int)) : Int × Int := (Sp.oLo (Sp.by_ st lo hi at_ b) st.length, Sp.oHi (Sp.by_ st lo hi at_ b) st.length)
theorem Sp.oLo_ge (P : Nat → Int × Int) : ∀ (n i : Nat), i < n → (P i).1 ≤ Sp.oLo P n ∧ Sp.oHi P n ≤ (P i).2
  | 0, i, h => by omega
  | n + 1, i, h => by
    rw [Sp.oLo, Sp.oHi]
    by_cases e : i = n
    · subst e
      omega
    · have := Sp.oLo_ge P n i (by omega)
      omega
theorem Sp.oLo_le (P : Nat → Int × Int) (x : Int) : ∀ n : Nat, 0 < n → (∀ i, i < n → (P i).1 ≤ x) → Sp.oLo P n ≤ x
  | 0, h, _ => by omega
  | n + 1, _, h => by
    rw [Sp.oLo]
    have h1 := h n (by omega)
    cases n with
    | zero =>
      rw [Sp.oLo]
      omega
    | succ m =>
      have := Sp.oLo_le P x (m + 1) (by omega) (fun i hi => h i (by omega))
      omega
theorem Sp.le_oHi (P : Nat → Int × Int) (x : Int) : ∀ n : Nat, 0 < n → (∀ i, i < n → x ≤ (P i).2) → x ≤ Sp.oHi P n
  | 0, h, _ => by omega
  | n + 1, _, h => by
    rw [Sp.oHi]
    have h1 := h n (by omega)
    cases n with
    | zero =>
      rw [Sp.oHi]
      omega
    | succ m =>
      have := Sp.le_oHi P x (m + 1) (by omega) (fun i hi => h i (by omega))
      omega
def Sp.origin (st : List (Int × Int × Int × Int)) (lo hi : Int) (at_ : List (Int × Int)) (b : (Int × Int × Int × Int)) : Int × Int × Int :=
  if Sp.heard st lo hi at_ b = 0 then (if (Sp.org st lo hi at_ b).1 ≤ (Sp.org st lo hi at_ b).2 then ((Sp.org st lo hi at_ b).1, (Sp.org st lo hi at_ b).2, 0) else (0, 0, 5)) else (0, 0, Sp.heard st lo hi at_ b)
def Sp.half (a b : Int) : List (Int × Int) := if a = b then [⟨a, b⟩] else [⟨a, (a + b) / 2⟩, ⟨(a + b) / 2, b⟩]
def Sp.parts (b : (Int × Int × Int × Int)) : List (Int × Int × Int × Int) := (Sp.half b.2.2.1 b.2.2.2).flatMap fun y => (Sp.half b.1 b.2.1).map fun x => (x.1, x.2, y.1, y.2)
theorem Sp.vb_bd {b : (Int × Int × Int × Int)} (h : Sp.vb b = true) : b.1 ≤ b.2.1 ∧ b.2.2.1 ≤ b.2.2.2 ∧ -268435456 ≤ b.1 ∧ b.2.1 ≤ 268435456 ∧ -268435456 ≤ b.2.2.1 ∧ b.2.2.2 ≤ 268435456 := by
  have := (of_decide_eq_true h : Bo.vb b.1 b.2.1 b.2.2.1 b.2.2.2)
  exact ⟨this.1.1, this.2.1.1, this.2.2.1, this.2.2.2.1, this.2.2.2.2.1, this.2.2.2.2.2⟩
theorem Sp.vb_mk {b : (Int × Int × Int × Int)} (h : b.1 ≤ b.2.1 ∧ b.2.2.1 ≤ b.2.2.2 ∧ -268435456 ≤ b.1 ∧ b.2.1 ≤ 268435456 ∧ -268435456 ≤ b.2.2.1 ∧ b.2.2.2 ≤ 268435456) : Sp.vb b = true := by
  obtain ⟨h1, h2, h3, h4, h5, h6⟩ := h
  exact decide_eq_true ⟨⟨h1, by omega, by omega⟩, ⟨h2, by omega, by omega⟩, h3, h4, h5, h6⟩
theorem Sp.half_in {a b : Int} (h : a ≤ b) {s : (Int × Int)} (hs : s ∈ Sp.half a b) : a ≤ s.1 ∧ s.1 ≤ s.2 ∧ s.2 ≤ b := by
  unfold Sp.half at hs
  split at hs
  · simp at hs
    subst hs
    exact ⟨Int.le_refl _, h, Int.le_refl _⟩
  · simp at hs
    rcases hs with rfl | rfl
    · dsimp only
      omega
    · dsimp only
      omega
theorem Sp.part_in {b p : (Int × Int × Int × Int)} (h : Sp.vb b = true) (hp : p ∈ Sp.parts b) : b.1 ≤ p.1 ∧ p.1 ≤ p.2.1 ∧ p.2.1 ≤ b.2.1 ∧ b.2.2.1 ≤ p.2.2.1 ∧ p.2.2.1 ≤ p.2.2.2 ∧ p.2.2.2 ≤ b.2.2.2 := by
  have B := Sp.vb_bd h
  unfold Sp.parts at hp
  obtain ⟨y, hy, hp⟩ := List.mem_flatMap.1 hp
  obtain ⟨x, hx, rfl⟩ := List.mem_map.1 hp
  have h1 := Sp.half_in B.1 hx
  have h2 := Sp.half_in B.2.1 hy
  exact ⟨h1.1, h1.2.1, h1.2.2, h2.1, h2.2.1, h2.2.2⟩
theorem Sp.part_vb {b p : (Int × Int × Int × Int)} (h : Sp.vb b = true) (hp : p ∈ Sp.parts b) : Sp.vb p = true := by
  have B := Sp.vb_bd h
  have P := Sp.part_in h hp
  exact Sp.vb_mk (by omega)
theorem Sp.parts_len (b : (Int × Int × Int × Int)) : 1 ≤ (Sp.parts b).length ∧ (Sp.parts b).length ≤ 4 := by
  unfold Sp.parts Sp.half
  split <;> split <;> simp
def Sp.in_ (st : List (Int × Int × Int × Int)) (lo hi : Int) (at_ : List (Int × Int)) (b : (Int × Int × Int × Int)) : Bool := decide ((Sp.org st lo hi at_ b).1 ≤ (Sp.org st lo hi at_ b).2)
def Sp.reg (st : List (Int × Int × Int × Int)) (lo hi : Int) (at_ : List (Int × Int)) : Nat → (Int × Int × Int × Int) → List (Int × Int × Int × Int)
  | 0, b => if Sp.in_ st lo hi at_ b = true then [b] else []
  | d + 1, b => if Sp.in_ st lo hi at_ b = true then (Sp.parts b).flatMap (Sp.reg st lo hi at_ d) else []
theorem Sp.reg_len (st : List (Int × Int × Int × Int)) (lo hi : Int) (at_ : List (Int × Int)) : ∀ (d : Nat) (b : (Int × Int × Int × Int)), (Sp.reg st lo hi at_ d b).length ≤ 4 ^ d
  | 0, b => by
    rw [Sp.reg]
    split <;> simp
  | d + 1, b => by
    rw [Sp.reg]
    split
    · have hl := (Sp.parts_len b).2
      have : ∀ xs : List (Int × Int × Int × Int), (xs.flatMap (Sp.reg st lo hi at_ d)).length ≤ xs.length * 4 ^ d := by
        intro xs
        induction xs with
        | nil => simp
        | cons x xs ih =>
          have := Sp.reg_len st lo hi at_ d x
          rw [List.flatMap_cons, List.length_append, List.length_cons, Nat.succ_mul]
          omega
      have h2 := this (Sp.parts b)
      have h3 := Nat.mul_le_mul_right (4 ^ d) hl
      rw [Nat.pow_succ]
      omega
    · simp
def Sp.region (st : List (Int × Int × Int × Int)) (lo hi : Int) (at_ : List (Int × Int)) (b : (Int × Int × Int × Int)) (d : Int) : List (Int × Int × Int × Int) × Int :=
  if Sp.heard st lo hi at_ b = 0 then (if 0 ≤ d ∧ d ≤ 5 then (Sp.reg st lo hi at_ d.toNat b, 0) else ([], 3)) else ([], Sp.heard st lo hi at_ b)
def Sp.prow (xs : List (Int × Int)) (y : (Int × Int)) : List (Int × Int × Int × Int) := xs.map fun x => (x.1, x.2, y.1, y.2)
theorem Sp.half_len (a b : Int) : (Sp.half a b).length ≤ 2 := by
  unfold Sp.half
  split <;> simp
def Sp.part_ (P : Nat → Int × Int) (i j : Nat) : Bool := decide ((P i).1 > (P j).2) || decide ((P j).1 > (P i).2)
def Sp.inn (P : Nat → Int × Int) (m : Nat) : Nat → Nat → Option Nat
  | 0, _ => none
  | n + 1, i => if Sp.part_ P i m = true then some i else Sp.inn P m n (i + 1)
def Sp.exc (P : Nat → Int × Int) : Nat → Nat → Int × Int × Int
  | 0, _ => (0, 0, 5)
  | n + 1, m => match Sp.inn P m m 0 with
    | some i => ((i : Int), (m : Int), 0)
    | none => Sp.exc P n (m + 1)
def Sp.excluded (st : List (Int × Int × Int × Int)) (lo hi : Int) (at_ : List (Int × Int)) (b : (Int × Int × Int × Int)) : Int × Int × Int := if Sp.heard st lo hi at_ b = 0 then Sp.exc (Sp.by_ st lo hi at_ b) st.length 0 else (0, 0, Sp.heard st lo hi at_ b)
def Sp.chk (st : List (Int × Int × Int × Int)) (lo hi : Int) (at_ : List (Int × Int)) (b : (Int × Int × Int × Int)) (i j : Int) : Int := if Sp.heard st lo hi at_ b = 0 then (if 0 ≤ i ∧ i < (st.length : Int) ∧ 0 ≤ j ∧ j < (st.length : Int) then (if Sp.part_ (Sp.by_ st lo hi at_ b) i.toNat j.toNat = true then 0 else 16) else 3) else Sp.heard st lo hi at_ b
theorem Sp.inn_some {P : Nat → Int × Int} {m : Nat} : ∀ {n i j : Nat}, Sp.inn P m n i = some j → i ≤ j ∧ j < i + n ∧ Sp.part_ P j m = true
  | 0, i, j, h => by cases h
  | n + 1, i, j, h => by
    rw [Sp.inn] at h
    split at h
    · next c =>
      obtain rfl := Option.some.inj h
      exact ⟨Nat.le_refl _, by omega, c⟩
    · have := Sp.inn_some h
      exact ⟨by omega, by omega, this.2.2⟩
theorem Sp.inn_none {P : Nat → Int × Int} {m : Nat} : ∀ {n i : Nat}, Sp.inn P m n i = none → ∀ j, i ≤ j → j < i + n → Sp.part_ P j m = false
  | 0, i, _, j, h1, h2 => by omega
  | n + 1, i, h, j, h1, h2 => by
    rw [Sp.inn] at h
    split at h
    · cases h
    · next c =>
      by_cases e : j = i
      · subst e
        simpa using c
      · exact Sp.inn_none h j (by omega) (by omega)
theorem Sp.exc_cases (P : Nat → Int × Int) : ∀ (n m : Nat), (∃ i j : Nat, Sp.exc P n m = ((i : Int), (j : Int), 0) ∧ i < j ∧ j < m + n ∧ Sp.part_ P i j = true) ∨ (Sp.exc P n m = (0, 0, 5) ∧ ∀ i j, i < j → m ≤ j → j < m + n → Sp.part_ P i j = false)
  | 0, m => .inr ⟨rfl, fun i j h1 h2 h3 => by omega⟩
  | n + 1, m => by
    rw [Sp.exc]
    cases h : Sp.inn P m m 0 with
    | some i =>
      have := Sp.inn_some h
      exact .inl ⟨i, m, rfl, by omega, by omega, this.2.2⟩
    | none =>
      rcases Sp.exc_cases P n (m + 1) with ⟨i, j, e, h1, h2, h3⟩ | ⟨e, h1⟩
      · exact .inl ⟨i, j, e, h1, by omega, h3⟩
      · refine .inr ⟨e, fun i j g1 g2 g3 => ?_⟩
        by_cases e2 : j = m
        · subst e2
          exact Sp.inn_none h i (by omega) (by omega)
        · exact h1 i j g1 (by omega) (by omega)
theorem Sp.out_iff (P : Nat → Int × Int) (hP : ∀ i, (P i).1 ≤ (P i).2 ∨ True) (n : Nat) (hn : 0 < n) (hv : ∀ i, i < n → (P i).1 ≤ (P i).2) : Sp.oLo P n ≤ Sp.oHi P n ↔ ∀ i j, i < j → j < n → Sp.part_ P i j = false := by
  constructor
  · intro h i j h1 h2
    have a := Sp.oLo_ge P n i (by omega)
    have b := Sp.oLo_ge P n j h2
    unfold Sp.part_
    have c1 : ¬ (P i).1 > (P j).2 := by omega
    have c2 : ¬ (P j).1 > (P i).2 := by omega
    simp [c1, c2]
  · intro h
    refine Sp.oLo_le P _ n hn fun i hi => Sp.le_oHi P _ n hn fun j hj => ?_
    by_cases e : i = j
    · subst e
      exact hv i hi
    · rcases Nat.lt_or_gt_of_ne e with l | l
      · have := h i j l hj
        unfold Sp.part_ at this
        simp at this
        omega
      · have := h j i l hi
        unfold Sp.part_ at this
        simp at this
        omega
theorem Bo.near_part {a0 a1 b0 b1 p0 p1 : Int} (h1 : a0 ≤ p0) (h2 : p0 ≤ p1) (h3 : p1 ≤ a1) : Bo.near a0 a1 b0 b1 ≤ Bo.near p0 p1 b0 b1 ∧ Bo.far p0 p1 b0 b1 ≤ Bo.far a0 a1 b0 b1 := by
  unfold Bo.near Bo.far
  omega
theorem Sp.trav_part {lo hi : Int} {b p s : (Int × Int × Int × Int)} (hb : Sp.vb b = true) (hp : Sp.vb p = true) (hs : Sp.vb s = true) (h1 : 1 ≤ lo) (h2 : lo ≤ hi) (hin : b.1 ≤ p.1 ∧ p.2.1 ≤ b.2.1 ∧ b.2.2.1 ≤ p.2.2.1 ∧ p.2.2.2 ≤ b.2.2.2) : (Sp.trav lo hi b s).1 ≤ (Sp.trav lo hi p s).1 ∧ (Sp.trav lo hi p s).2 ≤ (Sp.trav lo hi b s).2 := by
  have B := Sp.vb_bd hb
  have P := Sp.vb_bd hp
  have S := Sp.vb_bd hs
  have x := Bo.near_part (b0 := s.1) (b1 := s.2.1) hin.1 P.1 hin.2.1
  have y := Bo.near_part (b0 := s.2.2.1) (b1 := s.2.2.2) hin.2.2.1 P.2.1 hin.2.2.2
  have wb := Bo.square_w (of_decide_eq_true hb) (of_decide_eq_true hs)
  have wp := Bo.square_w (of_decide_eq_true hp) (of_decide_eq_true hs)
  have nb1 := Bo.near_range B.1 S.1 B.2.2.1 B.2.2.2.1 S.2.2.1 S.2.2.2.1
  have nb2 := Bo.near_range B.2.1 S.2.1 B.2.2.2.2.1 B.2.2.2.2.2 S.2.2.2.2.1 S.2.2.2.2.2
  have fp1 := Bo.far_range P.1 S.1 P.2.2.1 P.2.2.2.1 S.2.2.1 S.2.2.2.1
  have fp2 := Bo.far_range P.2.1 S.2.1 P.2.2.2.2.1 P.2.2.2.2.2 S.2.2.2.2.1 S.2.2.2.2.2
  have e1 : Bo.sqLo b.1 b.2.1 b.2.2.1 b.2.2.2 s.1 s.2.1 s.2.2.1 s.2.2.2 ≤ Bo.sqLo p.1 p.2.1 p.2.2.1 p.2.2.2 s.1 s.2.1 s.2.2.1 s.2.2.2 := by
    unfold Bo.sqLo
    exact Int.add_le_add (Rt.sq_le nb1.1 x.1) (Rt.sq_le nb2.1 y.1)
  have e2 : Bo.sqHi p.1 p.2.1 p.2.2.1 p.2.2.2 s.1 s.2.1 s.2.2.1 s.2.2.2 ≤ Bo.sqHi b.1 b.2.1 b.2.2.1 b.2.2.2 s.1 s.2.1 s.2.2.1 s.2.2.2 := by
    unfold Bo.sqHi
    exact Int.add_le_add (Rt.sq_le fp1.1 x.2) (Rt.sq_le fp2.1 y.2)
  have r1 := Bo.root_mono wb.2.2.1 e1
  have r2 := Bo.rootUp_mono (by omega) e2
  unfold Sp.trav
  exact ⟨Bo.fl_mono (by omega) (by omega), Bo.cl_mono (by omega) (by omega)⟩
theorem Sp.org_part {st : List (Int × Int × Int × Int)} {lo hi : Int} {at_ : List (Int × Int)} {b p : (Int × Int × Int × Int)} (h : Sp.Acc st lo hi at_) (hb : Sp.vb b = true) (hp : Sp.vb p = true) (hin : b.1 ≤ p.1 ∧ p.2.1 ≤ b.2.1 ∧ b.2.2.1 ≤ p.2.2.1 ∧ p.2.2.2 ≤ b.2.2.2) : (Sp.org st lo hi at_ b).1 ≤ (Sp.org st lo hi at_ p).1 ∧ (Sp.org st lo hi at_ p).2 ≤ (Sp.org st lo hi at_ b).2 := by
  have n2 := h.n2
  have key : ∀ i, i < st.length → (Sp.by_ st lo hi at_ b i).1 ≤ (Sp.by_ st lo hi at_ p i).1 ∧ (Sp.by_ st lo hi at_ p i).2 ≤ (Sp.by_ st lo hi at_ b i).2 := fun i hi' => by
    have hs := Sp.all_get h.vb i hi'
    have e1 : st.getD i (0, 0, 0, 0) = st[i] := by simp [List.getD, hi']
    have t := Sp.trav_part hb hp hs h.lo1 h.lh hin
    unfold Sp.by_ Sp.by1
    rw [e1]
    dsimp only
    omega
  unfold Sp.org
  refine ⟨Sp.oLo_le _ _ _ (by omega) fun i hi' => ?_, Sp.le_oHi _ _ _ (by omega) fun i hi' => ?_⟩
  · have a := (key i hi').1
    have c := (Sp.oLo_ge (Sp.by_ st lo hi at_ p) st.length i hi').1
    omega
  · have a := (key i hi').2
    have c := (Sp.oLo_ge (Sp.by_ st lo hi at_ p) st.length i hi').2
    omega
theorem Sp.trav_le {lo hi : Int} {b s : (Int × Int × Int × Int)} (hb : Sp.vb b = true) (hs : Sp.vb s = true) (h1 : 1 ≤ lo) (h2 : lo ≤ hi) : (Sp.trav lo hi b s).1 ≤ (Sp.trav lo hi b s).2 := by
  have w := Bo.square_w (of_decide_eq_true hb) (of_decide_eq_true hs)
  have D := Sp.dist hb hs
  have r1 := Bo.root_is (n := Bo.sqLo b.1 b.2.1 b.2.2.1 b.2.2.2 s.1 s.2.1 s.2.2.1 s.2.2.2) w.2.2.1
  have r2 := Bo.rootUp_is (n := Bo.sqHi b.1 b.2.1 b.2.2.1 b.2.2.2 s.1 s.2.1 s.2.2.1 s.2.2.2) (by omega)
  have hxy : Rt.root (Bo.sqLo b.1 b.2.1 b.2.2.1 b.2.2.2 s.1 s.2.1 s.2.2.1 s.2.2.2) ≤ Rt.rootUp (Bo.sqHi b.1 b.2.1 b.2.2.1 b.2.2.2 s.1 s.2.1 s.2.2.1 s.2.2.2) := by
    apply Decidable.byContradiction
    intro hn
    have := Bo.sq_lt r2.1 (show Rt.rootUp (Bo.sqHi b.1 b.2.1 b.2.2.1 b.2.2.2 s.1 s.2.1 s.2.2.1 s.2.2.2) < Rt.root (Bo.sqLo b.1 b.2.1 b.2.2.1 b.2.2.2 s.1 s.2.1 s.2.2.1 s.2.2.2) by omega)
    have h3 := r1.2.1
    have h4 := r2.2.1
    omega
  have d0 := D.lo0
  unfold Sp.trav
  dsimp only
  generalize Rt.root (Bo.sqLo b.1 b.2.1 b.2.2.1 b.2.2.2 s.1 s.2.1 s.2.2.1 s.2.2.2) = x at *
  generalize Rt.rootUp (Bo.sqHi b.1 b.2.1 b.2.2.1 b.2.2.2 s.1 s.2.1 s.2.2.1 s.2.2.2) = y at *
  have a1 := Bo.fl_le (show 0 < hi by omega) (1000 * x)
  have a2 := Bo.le_cl (show 0 < lo by omega) (1000 * y)
  have a0 : 0 ≤ Bo.fl (1000 * x) hi := by rw [Bo.fl_pos (by omega)]; exact Int.ediv_nonneg (by omega) (by omega)
  apply Decidable.byContradiction
  intro hn
  have b1 : (Bo.cl (1000 * y) lo) * lo < Bo.fl (1000 * x) hi * lo := Int.mul_lt_mul_of_pos_right (by omega) (by omega)
  have b2 : Bo.fl (1000 * x) hi * lo ≤ Bo.fl (1000 * x) hi * hi := Int.mul_le_mul_of_nonneg_left h2 a0
  omega
theorem Sp.by_valid {st : List (Int × Int × Int × Int)} {lo hi : Int} {at_ : List (Int × Int)} {b : (Int × Int × Int × Int)} (h : Sp.Acc st lo hi at_) (hb : Sp.vb b = true) (i : Nat) (hi' : i < st.length) : (Sp.by_ st lo hi at_ b i).1 ≤ (Sp.by_ st lo hi at_ b i).2 := by
  have hs := Sp.all_get h.vb i hi'
  have hia : i < at_.length := by rw [h.len]; exact hi'
  have ha := Sp.inst_of (List.all_eq_true.1 h.inst _ (List.getElem_mem hia))
  have e1 : st.getD i (0, 0, 0, 0) = st[i] := by simp [List.getD, hi']
  have e2 : at_.getD i (0, 0) = at_[i] := by simp [List.getD, hia]
  have t := Sp.trav_le hb hs h.lo1 h.lh
  unfold Sp.by_ Sp.by1
  rw [e1, e2]
  dsimp only
  omega
theorem Sp.part_comm (P : Nat → Int × Int) (i j : Nat) : Sp.part_ P i j = Sp.part_ P j i := by
  unfold Sp.part_
  rw [Bool.or_comm]
def Sp.win (p q : (Int × Int × Int × Int)) : Prop := q.1 ≤ p.1 ∧ p.2.1 ≤ q.2.1 ∧ q.2.2.1 ≤ p.2.2.1 ∧ p.2.2.2 ≤ q.2.2.2
theorem Sp.win_rfl (p : (Int × Int × Int × Int)) : Sp.win p p := ⟨Int.le_refl _, Int.le_refl _, Int.le_refl _, Int.le_refl _⟩
theorem Sp.reg_near (st : List (Int × Int × Int × Int)) (lo hi : Int) (at_ : List (Int × Int)) : ∀ (d : Nat) (b : (Int × Int × Int × Int)), Sp.vb b = true → ∀ p ∈ Sp.reg st lo hi at_ (d + 1) b, ∃ q ∈ Sp.reg st lo hi at_ d b, Sp.win p q
  | 0, b, hb, p, hp => by
    rw [Sp.reg] at hp
    rw [Sp.reg]
    by_cases c : Sp.in_ st lo hi at_ b = true
    · rw [if_pos c] at hp
      rw [if_pos c]
      obtain ⟨x, hx, hp⟩ := List.mem_flatMap.1 hp
      rw [Sp.reg] at hp
      have h := Sp.part_in hb hx
      split at hp
      · rw [List.mem_singleton] at hp
        subst hp
        exact ⟨b, by simp, h.1, h.2.2.1, h.2.2.2.1, h.2.2.2.2.2⟩
      · cases hp
    · rw [if_neg c] at hp
      cases hp
  | d + 1, b, hb, p, hp => by
    rw [Sp.reg] at hp
    rw [Sp.reg]
    by_cases c : Sp.in_ st lo hi at_ b = true
    · rw [if_pos c] at hp
      rw [if_pos c]
      obtain ⟨x, hx, hp⟩ := List.mem_flatMap.1 hp
      obtain ⟨q, hq, w⟩ := Sp.reg_near st lo hi at_ d x (Sp.part_vb hb hx) p hp
      exact ⟨q, List.mem_flatMap.2 ⟨x, hx, hq⟩, w⟩
    · rw [if_neg c] at hp
      cases hp
theorem Sp.reg_sub {st st' : List (Int × Int × Int × Int)} {lo hi : Int} {at_ at' : List (Int × Int)} (h : ∀ b, Sp.in_ st' lo hi at' b = true → Sp.in_ st lo hi at_ b = true) : ∀ (d : Nat) (b p : (Int × Int × Int × Int)), p ∈ Sp.reg st' lo hi at' d b → p ∈ Sp.reg st lo hi at_ d b
  | 0, b, p, hp => by
    rw [Sp.reg] at hp
    rw [Sp.reg]
    split at hp
    · next c => rwa [if_pos (h b c)]
    · cases hp
  | d + 1, b, p, hp => by
    rw [Sp.reg] at hp
    rw [Sp.reg]
    split at hp
    · next c =>
      rw [if_pos (h b c)]
      obtain ⟨x, hx, hp⟩ := List.mem_flatMap.1 hp
      exact List.mem_flatMap.2 ⟨x, hx, Sp.reg_sub h d x p hp⟩
    · cases hp
theorem Sp.org_more {P Q : Nat → Int × Int} {n m : Nat} (hn : 0 < n) (hm : n ≤ m) (h : ∀ i, i < n → (P i).1 ≤ (Q i).1 ∧ (Q i).2 ≤ (P i).2) : Sp.oLo P n ≤ Sp.oLo Q m ∧ Sp.oHi Q m ≤ Sp.oHi P n :=
  ⟨Sp.oLo_le P _ n hn fun i hi => Int.le_trans (h i hi).1 (Sp.oLo_ge Q m i (by omega)).1, Sp.le_oHi P _ n hn fun i hi => Int.le_trans (Sp.oLo_ge Q m i (by omega)).2 (h i hi).2⟩
theorem Sp.in_more {st st' : List (Int × Int × Int × Int)} {lo hi : Int} {at_ at' : List (Int × Int)} {b : (Int × Int × Int × Int)} (hn : 0 < st.length) (hm : st.length ≤ st'.length) (h : ∀ i, i < st.length → (Sp.by_ st lo hi at_ b i).1 ≤ (Sp.by_ st' lo hi at' b i).1 ∧ (Sp.by_ st' lo hi at' b i).2 ≤ (Sp.by_ st lo hi at_ b i).2) (c : Sp.in_ st' lo hi at' b = true) : Sp.in_ st lo hi at_ b = true := by
  have g := Sp.org_more hn hm h
  unfold Sp.in_ Sp.org at c ⊢
  have c := of_decide_eq_true c
  dsimp only at c
  exact decide_eq_true (by dsimp only; omega)
def Sp.nar (w : Int) (a : (Int × Int)) : (Int × Int) := ⟨a.1 + min w ((a.2 - a.1) / 2), a.2 - min w ((a.2 - a.1) / 2)⟩
theorem Sp.in_nar {st : List (Int × Int × Int × Int)} {lo hi : Int} {at_ : List (Int × Int)} (h : Sp.Acc st lo hi at_) {w : Int} (hw : 0 ≤ w) (b : (Int × Int × Int × Int)) (c : Sp.in_ st lo hi (at_.map (Sp.nar w)) b = true) : Sp.in_ st lo hi at_ b = true := by
  have n2 := h.n2
  have hl := h.len
  refine Sp.in_more (by omega) (Nat.le_refl _) (fun i hi' => ?_) c
  have hia : i < at_.length := by omega
  have ha := Sp.inst_of (List.all_eq_true.1 h.inst _ (List.getElem_mem hia))
  have e2 : at_.getD i (0, 0) = at_[i] := by simp [List.getD, hia]
  have e3 : (at_.map (Sp.nar w)).getD i (0, 0) = Sp.nar w at_[i] := by simp [List.getD, hia]
  unfold Sp.by_ Sp.by1
  rw [e2, e3]
  unfold Sp.nar
  dsimp only
  omega
theorem Sp.nar_acc {st : List (Int × Int × Int × Int)} {lo hi : Int} {at_ : List (Int × Int)} (h : Sp.Acc st lo hi at_) {w : Int} (hw : 0 ≤ w) : Sp.Acc st lo hi (at_.map (Sp.nar w)) := by
  refine ⟨h.n2, h.n8, h.lo1, h.lh, h.hi2, h.vb, by simp [h.len], ?_⟩
  rw [List.all_map, List.all_eq_true]
  intro a ha
  have g := Sp.inst_of (List.all_eq_true.1 h.inst a ha)
  refine decide_eq_true ?_
  unfold Sp.nar
  dsimp only
  omega
theorem Sp.in_snoc {st : List (Int × Int × Int × Int)} {lo hi : Int} {at_ : List (Int × Int)} (h : Sp.Acc st lo hi at_) (s : (Int × Int × Int × Int)) (a : (Int × Int)) (b : (Int × Int × Int × Int)) (c : Sp.in_ (st ++ [s]) lo hi (at_ ++ [a]) b = true) : Sp.in_ st lo hi at_ b = true := by
  have n2 := h.n2
  have hl := h.len
  refine Sp.in_more (by omega) (by simp) (fun i hi' => ?_) c
  have hia : i < at_.length := by omega
  have e1 : (st ++ [s]).getD i (0, 0, 0, 0) = st.getD i (0, 0, 0, 0) := by simp [List.getD, hi', List.getElem?_append_left hi']
  have e2 : (at_ ++ [a]).getD i (0, 0) = at_.getD i (0, 0) := by simp [List.getD, hia, List.getElem?_append_left hia]
  unfold Sp.by_
  rw [e1, e2]
  exact ⟨Int.le_refl _, Int.le_refl _⟩
theorem Bo.in_sq {a0 a1 b0 b1 x y : Int} (x0 : a0 ≤ x) (x1 : x ≤ a1) (y0 : b0 ≤ y) (y1 : y ≤ b1) : Bo.near a0 a1 b0 b1 * Bo.near a0 a1 b0 b1 ≤ (y - x) * (y - x) ∧ (y - x) * (y - x) ≤ Bo.far a0 a1 b0 b1 * Bo.far a0 a1 b0 b1 := by
  have key : ∀ z : Int, 0 ≤ z → Bo.near a0 a1 b0 b1 ≤ z → z ≤ Bo.far a0 a1 b0 b1 → Bo.near a0 a1 b0 b1 * Bo.near a0 a1 b0 b1 ≤ z * z ∧ z * z ≤ Bo.far a0 a1 b0 b1 * Bo.far a0 a1 b0 b1 := fun z h0 h1 h2 =>
    ⟨Rt.sq_le (by unfold Bo.near; omega) h1, Rt.sq_le h0 h2⟩
  by_cases q : y ≤ x
  · have := key (x - y) (by omega) (by unfold Bo.near; omega) (by unfold Bo.far; omega)
    rwa [show (x - y) * (x - y) = (y - x) * (y - x) by rw [← Int.neg_sub y x, Int.neg_mul_neg]] at this
  · exact key (y - x) (by omega) (by unfold Bo.near; omega) (by unfold Bo.far; omega)
def Sp.has (b : (Int × Int × Int × Int)) (x y : Int) : Prop := b.1 ≤ x ∧ x ≤ b.2.1 ∧ b.2.2.1 ≤ y ∧ y ≤ b.2.2.2
theorem Bo.root_up {n : Int} (h : 0 ≤ n) : Rt.root n ≤ Rt.rootUp n := by
  have r1 := Bo.root_is h
  have r2 := Bo.rootUp_is h
  apply Decidable.byContradiction
  intro hn
  have := Bo.sq_lt r2.1 (show Rt.rootUp n < Rt.root n by omega)
  omega
theorem Sp.trav_has {lo hi v x y u z : Int} {b s : (Int × Int × Int × Int)} (hb : Sp.vb b = true) (hs : Sp.vb s = true) (h1 : 1 ≤ lo) (v1 : lo ≤ v) (v2 : v ≤ hi) (p : Sp.has b x y) (q : Sp.has s u z) : 0 ≤ (u - x) * (u - x) + (z - y) * (z - y) ∧ (u - x) * (u - x) + (z - y) * (z - y) ≤ 576460752303423488 ∧ (Sp.trav lo hi b s).1 ≤ Bo.fl (1000 * Rt.root ((u - x) * (u - x) + (z - y) * (z - y))) v ∧ Bo.fl (1000 * Rt.root ((u - x) * (u - x) + (z - y) * (z - y))) v ≤ Bo.cl (1000 * Rt.rootUp ((u - x) * (u - x) + (z - y) * (z - y))) v ∧ Bo.cl (1000 * Rt.rootUp ((u - x) * (u - x) + (z - y) * (z - y))) v ≤ (Sp.trav lo hi b s).2 := by
  have s1 := Bo.in_sq p.1 p.2.1 q.1 q.2.1
  have s2 := Bo.in_sq p.2.2.1 p.2.2.2 q.2.2.1 q.2.2.2
  have w := Bo.square_w (of_decide_eq_true hb) (of_decide_eq_true hs)
  have D := Sp.dist hb hs
  unfold Sp.trav
  dsimp only
  have e1 : Bo.sqLo b.1 b.2.1 b.2.2.1 b.2.2.2 s.1 s.2.1 s.2.2.1 s.2.2.2 ≤ (u - x) * (u - x) + (z - y) * (z - y) := by
    unfold Bo.sqLo
    exact Int.add_le_add s1.1 s2.1
  have e2 : (u - x) * (u - x) + (z - y) * (z - y) ≤ Bo.sqHi b.1 b.2.1 b.2.2.1 b.2.2.2 s.1 s.2.1 s.2.2.1 s.2.2.2 := by
    unfold Bo.sqHi
    exact Int.add_le_add s1.2 s2.2
  generalize (u - x) * (u - x) + (z - y) * (z - y) = n at *
  have w1 := w.2.2.1
  have w2 := w.2.2.2.2
  have n0 : 0 ≤ n := Int.le_trans w1 e1
  have r1 := Bo.root_mono w1 e1
  have r2 := Bo.rootUp_mono n0 e2
  have r0 := Bo.root_is n0
  have r3 := Bo.root_up n0
  have d0 := D.lo0
  have d2 := D.hi0
  refine ⟨n0, Int.le_trans e2 w2, ?_, ?_, ?_⟩
  · rw [Bo.fl_pos (show 0 < v by omega) (1000 * Rt.root n), Int.le_ediv_iff_mul_le (by omega)]
    have a := Bo.fl_le (show 0 < hi by omega) (1000 * Rt.root (Bo.sqLo b.1 b.2.1 b.2.2.1 b.2.2.2 s.1 s.2.1 s.2.2.1 s.2.2.2))
    have c : 0 ≤ Bo.fl (1000 * Rt.root (Bo.sqLo b.1 b.2.1 b.2.2.1 b.2.2.2 s.1 s.2.1 s.2.2.1 s.2.2.2)) hi := by
      rw [Bo.fl_pos (by omega)]
      exact Int.ediv_nonneg (by omega) (by omega)
    have := Int.mul_le_mul_of_nonneg_left v2 c
    omega
  · have a1 := Bo.fl_le (show 0 < v by omega) (1000 * Rt.root n)
    have a2 := Bo.le_cl (show 0 < v by omega) (1000 * Rt.rootUp n)
    exact Int.le_of_mul_le_mul_right (a := v) (by omega) (by omega)
  · have a1 := Bo.cl_lt (show 0 < v by omega) (1000 * Rt.rootUp n)
    have a2 := Bo.le_cl (show 0 < lo by omega) (1000 * Rt.rootUp (Bo.sqHi b.1 b.2.1 b.2.2.1 b.2.2.2 s.1 s.2.1 s.2.2.1 s.2.2.2))
    generalize Bo.cl (1000 * Rt.rootUp (Bo.sqHi b.1 b.2.1 b.2.2.1 b.2.2.2 s.1 s.2.1 s.2.2.1 s.2.2.2)) lo = c at *
    have c0 : 0 ≤ c := by
      apply Decidable.byContradiction
      intro hn
      have := Int.mul_le_mul_of_nonneg_right (show c ≤ -1 by omega) (show 0 ≤ lo by omega)
      omega
    have a3 := Int.mul_le_mul_of_nonneg_left v1 c0
    have a4 : (Bo.cl (1000 * Rt.rootUp n) v - 1) * v < c * v := by omega
    have := Int.lt_of_mul_lt_mul_right a4 (by omega)
    omega
def Sp.hit (lo hi x y t : Int) (s : (Int × Int × Int × Int)) (a : (Int × Int)) : Prop := Sp.inst a = true ∧ ∀ b, Sp.vb b = true → Sp.has b x y → (Sp.by1 lo hi b s a).1 ≤ t ∧ t ≤ (Sp.by1 lo hi b s a).2
theorem Sp.half_has {a b x : Int} (h1 : a ≤ x) (h2 : x ≤ b) : ∃ s ∈ Sp.half a b, s.1 ≤ x ∧ x ≤ s.2 := by
  unfold Sp.half
  split
  · exact ⟨⟨a, b⟩, by simp, h1, h2⟩
  · by_cases c : x ≤ (a + b) / 2
    · exact ⟨⟨a, (a + b) / 2⟩, by simp, h1, c⟩
    · exact ⟨⟨(a + b) / 2, b⟩, by simp, by dsimp only; omega, h2⟩
theorem Sp.parts_has {b : (Int × Int × Int × Int)} {x y : Int} (h : Sp.has b x y) : ∃ p ∈ Sp.parts b, Sp.has p x y := by
  obtain ⟨s, hs, s1, s2⟩ := Sp.half_has h.1 h.2.1
  obtain ⟨r, hr, r1, r2⟩ := Sp.half_has h.2.2.1 h.2.2.2
  exact ⟨(s.1, s.2, r.1, r.2), List.mem_flatMap.2 ⟨r, hr, List.mem_map.2 ⟨s, hs, rfl⟩⟩, s1, s2, r1, r2⟩
theorem Sp.reg_vb (st : List (Int × Int × Int × Int)) (lo hi : Int) (at_ : List (Int × Int)) : ∀ (d : Nat) (b : (Int × Int × Int × Int)), Sp.vb b = true → ∀ p ∈ Sp.reg st lo hi at_ d b, Sp.vb p = true
  | 0, b, hb, p, hp => by
    rw [Sp.reg] at hp
    split at hp
    · rw [List.mem_singleton] at hp
      subst hp
      exact hb
    · cases hp
  | d + 1, b, hb, p, hp => by
    rw [Sp.reg] at hp
    split at hp
    · obtain ⟨x, hx, hp⟩ := List.mem_flatMap.1 hp
      exact Sp.reg_vb st lo hi at_ d x (Sp.part_vb hb hx) p hp
    · cases hp
theorem Sp.org_hit {st : List (Int × Int × Int × Int)} {lo hi : Int} {at_ : List (Int × Int)} (h : Sp.Acc st lo hi at_) {x y t : Int} (hh : ∀ i, (h1 : i < st.length) → (h2 : i < at_.length) → Sp.hit lo hi x y t st[i] at_[i]) {b : (Int × Int × Int × Int)} (hb : Sp.vb b = true) (p : Sp.has b x y) : (Sp.org st lo hi at_ b).1 ≤ t ∧ t ≤ (Sp.org st lo hi at_ b).2 := by
  have n2 := h.n2
  have hl := h.len
  have key : ∀ i, i < st.length → (Sp.by_ st lo hi at_ b i).1 ≤ t ∧ t ≤ (Sp.by_ st lo hi at_ b i).2 := fun i hi' => by
    have hia : i < at_.length := by omega
    have e1 : st.getD i (0, 0, 0, 0) = st[i] := by simp [List.getD, hi']
    have e2 : at_.getD i (0, 0) = at_[i] := by simp [List.getD, hia]
    unfold Sp.by_
    rw [e1, e2]
    exact (hh i hi' hia).2 b hb p
  exact ⟨Sp.oLo_le _ _ _ (by omega) fun i hi' => (key i hi').1, Sp.le_oHi _ _ _ (by omega) fun i hi' => (key i hi').2⟩
theorem Sp.reg_has {st : List (Int × Int × Int × Int)} {lo hi : Int} {at_ : List (Int × Int)} {x y : Int} (h : ∀ b, Sp.vb b = true → Sp.has b x y → Sp.in_ st lo hi at_ b = true) : ∀ (d : Nat) (b : (Int × Int × Int × Int)), Sp.vb b = true → Sp.has b x y → ∃ p ∈ Sp.reg st lo hi at_ d b, Sp.has p x y
  | 0, b, hb, p => by
    rw [Sp.reg, if_pos (h b hb p)]
    exact ⟨b, by simp, p⟩
  | d + 1, b, hb, p => by
    rw [Sp.reg, if_pos (h b hb p)]
    obtain ⟨q, hq, r⟩ := Sp.parts_has p
    obtain ⟨s, hs, r⟩ := Sp.reg_has h d q (Sp.part_vb hb hq) r
    exact ⟨s, List.mem_flatMap.2 ⟨q, hq, hs⟩, r⟩
end Go.Proofs.Ytaheamdoldiojaa.P
namespace Go.Proofs.Ytaheamdoldiojaa.P
open Go Go.RowKit Go.Am
set_option maxRecDepth 100000
noncomputable def check_0 (fu m : Nat) (xs : List (Int × Int)) (y0 : Int) : Option Res := (cf0 fu).loop 60 117 [true, false, true] [] 0 m ⟨tmOf 27 [(2, D.int .i64 0), (5, D.sl SpR xs .no), (6, D.int .i64 ↑xs.length), (7, D.int .i64 y0)], []⟩
theorem check_0s (fu m : Nat) (xs : List (Int × Int)) (y0 : Int) : check_0 fu (m + 1) xs y0 =
  bif decide (y0 < ↑xs.length) then
   bif decide (0 ≤ y0) && decide (y0 < ↑xs.length) then
    bif decide ((xs.getD y0.toNat SpR.dflt).fst > (xs.getD y0.toNat SpR.dflt).snd) then
     some ((D.int .i64 2, []))
    else
     bif decide ((xs.getD y0.toNat SpR.dflt).fst < -1073741824) then
      some ((D.int .i64 2, []))
     else
      bif decide ((xs.getD y0.toNat SpR.dflt).snd > 1073741824) then
       some ((D.int .i64 2, []))
      else
       check_0 fu m xs (w64 (y0 + 1))
   else
    none
  else
   some ((D.int .i64 0, [])) := by kernel_rfl
theorem check_e (fu : Nat) (xs : List (Int × Int)) : (cf0 fu).call 61 0 117 [D.sl SpR xs .no] [] (fun d σ => some (d, σ)) =
  check_0 fu fu xs 0 := by kernel_rfl
noncomputable def sqrt_0 (fu m : Nat) (n : Int) (y0 : Int) (y1 : Int) : Option Res := (cf0 fu).loop 60 67 [true, true, false] [] 0 m ⟨tmOf 23 [(0, D.int .i64 n), (2, D.int .i64 0), (3, D.int .i64 y0), (4, D.int .i64 y1)], []⟩
theorem sqrt_0s (fu m : Nat) (n : Int) (y0 : Int) (y1 : Int) : sqrt_0 fu (m + 1) n y0 y1 =
  bif decide (y0 < y1) then
   bif decide (w64 (w64 ((w64 (w64 (y0 + y1) + 1)).tdiv 2) * w64 ((w64 (w64 (y0 + y1) + 1)).tdiv 2)) ≤ n) then
    sqrt_0 fu m n (w64 ((w64 (w64 (y0 + y1) + 1)).tdiv 2)) y1
   else
    sqrt_0 fu m n y0 (w64 (w64 ((w64 (w64 (y0 + y1) + 1)).tdiv 2) - 1))
  else
   some ((D.int .i64 y0, [])) := by kernel_rfl
theorem sqrt_e (fu : Nat) (n : Int) : (cf0 fu).call 61 0 67 [D.int .i64 n] [] (fun d σ => some (d, σ)) =
  sqrt_0 fu fu n 0 2147483648 := by kernel_rfl
end Go.Proofs.Ytaheamdoldiojaa.P
namespace Go.Proofs.Ytaheamdoldiojaa.P
open Go Go.RowKit Go.Am
/-! ### bound.check, Sqrt -/
def Ms.chk (xs : List (Int × Int)) : Int := if xs.all (fun x => decide (Bo.v x.1 x.2)) = true then 0 else 2
theorem check_l (fu : Nat) (xs : List (Int × Int)) (hl : xs.length ≤ 9223372036854775807) : ∀ n m i : Nat, i + n = xs.length → n < m → check_0 fu m xs (i : Int) = some (.int .i64 (Ms.chk (xs.drop i)), [])
  | 0, m, i, hi, hm => by
    obtain ⟨m, rfl⟩ : ∃ j, m = j + 1 := ⟨m - 1, by omega⟩
    rw [check_0s, cn (by omega), List.drop_eq_nil_of_le (by omega)]
    rfl
  | n + 1, m, i, hi, hm => by
    obtain ⟨m, rfl⟩ : ∃ j, m = j + 1 := ⟨m - 1, by omega⟩
    have hlt : i < xs.length := by omega
    have ih := check_l fu xs hl n m (i + 1) (by omega) (by omega)
    rw [check_0s, cp (by omega), ca ⟨by omega, by omega⟩, getD_nat i hlt, w_succ hlt hl, ih]
    unfold Ms.chk
    rw [drop_cons hlt, List.all_cons]
    by_cases h1 : xs[i].1 > xs[i].2
    · rw [cp h1, show decide (Bo.v xs[i].1 xs[i].2) = false from decide_eq_false (fun h => by have := h.1; have := h.2.1; have := h.2.2; omega), Bool.false_and, if_neg (by decide)]
    rw [cn h1]
    by_cases h2 : xs[i].1 < -1073741824
    · rw [cp h2, show decide (Bo.v xs[i].1 xs[i].2) = false from decide_eq_false (fun h => by have := h.1; have := h.2.1; have := h.2.2; omega), Bool.false_and, if_neg (by decide)]
    rw [cn h2]
    by_cases h3 : xs[i].2 > 1073741824
    · rw [cp h3, show decide (Bo.v xs[i].1 xs[i].2) = false from decide_eq_false (fun h => by have := h.1; have := h.2.1; have := h.2.2; omega), Bool.false_and, if_neg (by decide)]
    rw [cn h3, show decide (Bo.v xs[i].1 xs[i].2) = true from decide_eq_true ⟨by omega, by omega, by omega⟩, Bool.true_and]
def checkS (fu : Nat) (args : List D) (k : D → Option Res) : Option Res := match args with
  | [a] => match lst SpR a with
    | some xs => bif decide (xs.length < fu) && decide (fu ≤ 100000) then k (.int .i64 (Ms.chk xs)) else none
    | none => none
  | _ => none
theorem checkS_ok (fu : Nat) : SpecOk Try.prog 117 (checkS fu) := by
  refine ⟨⟨Try.f117, Try.func117, rfl⟩, fun args k r h => ?_⟩
  unfold checkS at h
  split at h
  · split at h
    · rename_i xs hx
      obtain ⟨h1, h2⟩ := cond_some h
      have hg := and_dec h1
      cases lst_eq hx
      refine ⟨_, h2, says_of (cf0_ok fu) ((check_e fu xs).trans ?_)⟩
      exact check_l fu xs (by omega) xs.length fu 0 (by omega) (by omega)
    · cases h
  · cases h
theorem sqrt_l {n : Int} (fu : Nat) (h0 : 0 ≤ n) : ∀ (d k : Nat) (lo hi : Int), 0 ≤ lo → lo ≤ hi → hi ≤ 2147483648 → hi - lo < 2 ^ d → d < k → lo * lo ≤ n → n < (hi + 1) * (hi + 1) → sqrt_0 fu k n lo hi = some (.int .i64 (Rt.root n), [])
  | d, k, lo, hi, h1, h2, h3, h4, hk, h5, h6 => by
    obtain ⟨k, rfl⟩ : ∃ j, k = j + 1 := ⟨k - 1, by omega⟩
    rw [sqrt_0s]
    by_cases c : lo < hi
    · rw [cp c, w_id (n := lo + hi) (by omega) (by omega), w_id (n := lo + hi + 1) (by omega) (by omega), tdiv_pos (by omega), w_id (n := (lo + hi + 1) / 2) (by omega) (by omega)]
      have hm1 : lo < (lo + hi + 1) / 2 := by omega
      have hm2 : (lo + hi + 1) / 2 ≤ hi := by omega
      have hm3 : lo + hi ≤ 2 * ((lo + hi + 1) / 2) ∧ 2 * ((lo + hi + 1) / 2) ≤ lo + hi + 1 := by omega
      generalize (lo + hi + 1) / 2 = m at *
      have hmm : m * m ≤ 2147483648 * 2147483648 := Int.mul_le_mul (by omega) (by omega) (by omega) (by omega)
      have hm0 : 0 ≤ m * m := Int.mul_nonneg (by omega) (by omega)
      rw [w_id (n := m * m) (by omega) (by omega), w_id (n := m - 1) (by omega) (by omega)]
      cases d with
      | zero => omega
      | succ d =>
        have hp : (2 : Int) ^ (d + 1) = 2 * 2 ^ d := by rw [Int.pow_succ]; omega
        by_cases q : m * m ≤ n
        · rw [cp q]
          exact sqrt_l fu h0 d k m hi (by omega) hm2 h3 (by omega) (by omega) q h6
        · rw [cn q]
          exact sqrt_l fu h0 d k lo (m - 1) h1 (by omega) (by omega) (by omega) (by omega) h5 (by rw [show m - 1 + 1 = m by omega]; omega)
    · have : lo = hi := by omega
      subst this
      rw [cn c, Rt.root_of ⟨h1, h5, h6⟩ h0]
def sqrtS (fu : Nat) (args : List D) (k : D → Option Res) : Option Res := match args with
  | [.int .i64 n] => bif decide (0 ≤ n ∧ n ≤ 4611686018427387904) && decide (40 ≤ fu) then k (.int .i64 (Rt.root n)) else none
  | _ => none
theorem sqrtS_ok (fu : Nat) : SpecOk Try.prog 67 (sqrtS fu) := by
  refine ⟨⟨Try.f67, Try.func67, rfl⟩, fun args k r h => ?_⟩
  unfold sqrtS at h
  split at h
  · rename_i n
    obtain ⟨h1, h2⟩ := cond_some h
    have hg := and_dec h1
    refine ⟨_, h2, says_of (cf0_ok fu) ((sqrt_e fu n).trans ?_)⟩
    exact sqrt_l fu hg.1.1 33 fu 0 2147483648 (by omega) (by omega) (by omega) (by decide) (by omega) (by omega) (by omega)
  · cases h
def sp1 : Nat → FuncId → Option (List D → (D → Option Res) → Option Res) := also 117 checkS (also 67 sqrtS sp0)
theorem sp1_ok (fu : Nat) : ∀ f s, sp1 fu f = some s → SpecOk Try.prog f s := also_ok (checkS_ok fu) (also_ok (sqrtS_ok fu) (sp0_ok fu))
noncomputable def cf1 (fu : Nat) : Cfg := cfgS sp1 fu
theorem cf1_ok (fu : Nat) : CfgOk (cf1 fu) := cfgS_ok (sp1_ok fu)
end Go.Proofs.Ytaheamdoldiojaa.P
namespace Go.Proofs.Ytaheamdoldiojaa.P
open Go Go.RowKit Go.Am
/-- Not told, and not run. -/
def cutS (_ : Nat) (_ : List D) (_ : D → Option Res) : Option Res := none
theorem cutS_ok (fu : Nat) {f : FuncId} (h : ∃ fn, Try.prog.funcs[f]? = some fn ∧ fn.body.isSome = true) : SpecOk Try.prog f (cutS fu) := ⟨h, fun _ _ _ e => by cases e⟩
noncomputable def cf1n (fu : Nat) : Cfg := cfgS (also 66 cutS sp1) fu
theorem cf1n_ok (fu : Nat) : CfgOk (cf1n fu) := cfgS_ok (also_ok (cutS_ok fu ⟨Try.f66, Try.func66, rfl⟩) (sp1_ok fu))
abbrev bxD (a b c d : Int) : D := .agg [.int .i64 a, .int .i64 b, .int .i64 c, .int .i64 d]
abbrev spD (a b : Int) : D := .agg [.int .i64 a, .int .i64 b]
end Go.Proofs.Ytaheamdoldiojaa.P
namespace Go.Proofs.Ytaheamdoldiojaa.P
open Go Go.RowKit Go.Am
set_option maxRecDepth 100000
theorem checkBox_e (fu : Nat) (a : Int) (b : Int) (c : Int) (d : Int) : (cf1 fu).call 61 0 79 [bxD a b c d] [] (fun d σ => some (d, σ)) =
  bif decide ([(a, b), (c, d)].length < fu) && decide (fu ≤ 100000) then
   bif Ms.chk [(a, b), (c, d)] != 0 then
    some ((D.int .i64 (Ms.chk [(a, b), (c, d)]), []))
   else
    bif decide (mx (mx (mx (mx a (w64 (0 - a))) (mx b (w64 (0 - b)))) (mx c (w64 (0 - c)))) (mx d (w64 (0 - d))) > 268435456) then
     some ((D.int .i64 2, []))
    else
     some ((D.int .i64 0, []))
  else
   none := by kernel_rfl
theorem check1_e (fu : Nat) (a : Int) (b : Int) : (cf1 fu).call 61 0 96 [spD a b] [] (fun d σ => some (d, σ)) =
  bif decide ([(a, b)].length < fu) && decide (fu ≤ 100000) then
   some ((D.int .i64 (Ms.chk [(a, b)]), []))
  else
   none := by kernel_rfl
theorem validBox_e (fu : Nat) (a : Int) (b : Int) (c : Int) (d : Int) : (cf1 fu).call 61 0 25 [bxD a b c d] [] (fun d σ => some (d, σ)) =
  bif decide (a ≤ b) then
   bif decide (a ≥ -1073741824) then
    bif decide (a ≤ 1073741824) then
     bif decide (b ≥ -1073741824) then
      bif decide (b ≤ 1073741824) then
       bif decide (c ≤ d) then
        bif decide (c ≥ -1073741824) then
         bif decide (c ≤ 1073741824) then
          bif decide (d ≥ -1073741824) then
           bif decide (d ≤ 1073741824) then
            bif decide (a ≥ -268435456) then
             bif decide (a ≤ 268435456) then
              bif decide (b ≥ -268435456) then
               bif decide (b ≤ 268435456) then
                bif decide (c ≥ -268435456) then
                 bif decide (c ≤ 268435456) then
                  bif decide (d ≥ -268435456) then
                   some ((D.bool (decide (d ≤ 268435456)), []))
                  else
                   some ((D.bool false, []))
                 else
                  some ((D.bool false, []))
                else
                 some ((D.bool false, []))
               else
                some ((D.bool false, []))
              else
               some ((D.bool false, []))
             else
              some ((D.bool false, []))
            else
             some ((D.bool false, []))
           else
            some ((D.bool false, []))
          else
           some ((D.bool false, []))
         else
          some ((D.bool false, []))
        else
         some ((D.bool false, []))
       else
        some ((D.bool false, []))
      else
       some ((D.bool false, []))
     else
      some ((D.bool false, []))
    else
     some ((D.bool false, []))
   else
    some ((D.bool false, []))
  else
   some ((D.bool false, [])) := by kernel_rfl
theorem valid_e (fu : Nat) (a : Int) (b : Int) : (cf1 fu).call 61 0 18 [spD a b] [] (fun d σ => some (d, σ)) =
  bif decide (a ≤ b) then
   bif decide (a ≥ -1073741824) then
    bif decide (a ≤ 1073741824) then
     bif decide (b ≥ -1073741824) then
      some ((D.bool (decide (b ≤ 1073741824)), []))
     else
      some ((D.bool false, []))
    else
     some ((D.bool false, []))
   else
    some ((D.bool false, []))
  else
   some ((D.bool false, [])) := by kernel_rfl
theorem down_e (fu : Nat) (n : Int) (d : Int) : (cf1n fu).call 61 0 66 [D.int .i64 n, D.int .i64 d] [] (fun d σ => some (d, σ)) =
  bif decide (d < 0) then
   none
  else
   bif decide (d = 0) then
    none
   else
    bif decide (d = 0) then
     none
    else
     bif decide (n.tmod d < 0) then
      some ((D.int .i64 (w64 (w64 (n.tdiv d) - 1)), []))
     else
      some ((D.int .i64 (w64 (n.tdiv d)), [])) := by kernel_rfl
end Go.Proofs.Ytaheamdoldiojaa.P
namespace Go.Proofs.Ytaheamdoldiojaa.P
open Go Go.RowKit Go.Am
/-! ### CheckBox, Check, ValidBox, Valid, Down -/
/-- Told by a table: whether it is told, and the answer. -/
def tabS (g : List D → Option (Bool × D)) (args : List D) (k : D → Option Res) : Option Res := match g args with
  | some (b, d) => bif b then k d else none
  | none => none
theorem tab_ok {f : FuncId} {g : List D → Option (Bool × D)} (hb : ∃ fn, Try.prog.funcs[f]? = some fn ∧ fn.body.isSome = true) (h : ∀ args d, g args = some (true, d) → Says Try.prog f args d) : SpecOk Try.prog f (tabS g) := by
  refine ⟨hb, fun args k r e => ?_⟩
  unfold tabS at e
  split at e
  · rename_i b d hg
    obtain ⟨rfl, e⟩ := cond_some e
    exact ⟨d, e, h args d hg⟩
  · cases e
theorem map_some' {α β : Type} {o : Option α} {f : α → β} {b : β} (h : o.map f = some b) : ∃ a, o = some a ∧ f a = b := by
  cases o
  · cases h
  · exact ⟨_, rfl, Option.some.inj h⟩
/-- No error, or a wrong argument. -/
def e02 (b : Bool) : Int := if b = true then 0 else 2
theorem chk1 (a b : Int) : Ms.chk [(a, b)] = if Bo.v a b then 0 else 2 := by
  unfold Ms.chk
  by_cases h : Bo.v a b <;> simp [h]
theorem chk2 (a b c d : Int) : Ms.chk [(a, b), (c, d)] = if Bo.v a b ∧ Bo.v c d then 0 else 2 := by
  unfold Ms.chk
  by_cases h : Bo.v a b <;> by_cases h' : Bo.v c d <;> simp [h, h']
theorem checkBox_i {fu : Nat} (h1 : 2 < fu) (h2 : fu ≤ 100000) (a b c d : Int) : (cf1 fu).call 61 0 79 [bxD a b c d] [] (fun d σ => some (d, σ)) = some (.int .i64 (if Sp.vb (a, b, c, d) = true then 0 else 2), []) := by
  rw [checkBox_e, ca ⟨by simpa using h1, h2⟩, chk2]
  by_cases h : Bo.v a b ∧ Bo.v c d
  · obtain ⟨⟨a1, a2, a3⟩, c1, c2, c3⟩ := id h
    simp only [Bo.mxE]
    rw [if_pos h, w_id (n := 0 - a) (by omega) (by omega), w_id (n := 0 - b) (by omega) (by omega), w_id (n := 0 - c) (by omega) (by omega), w_id (n := 0 - d) (by omega) (by omega)]
    by_cases q : max (max (max (max a (0 - a)) (max b (0 - b))) (max c (0 - c))) (max d (0 - d)) > 268435456
    · rw [cp q, if_neg (by
        intro e
        have := of_decide_eq_true e
        have := this.2.2
        dsimp only at this
        omega)]
      rfl
    · rw [cn q, if_pos (c := Sp.vb (a, b, c, d) = true) (decide_eq_true ⟨h.1, h.2, by dsimp only; omega, by dsimp only; omega, by dsimp only; omega, by dsimp only; omega⟩)]
      rfl
  · rw [if_neg h, if_neg (fun e => h ⟨(of_decide_eq_true e).1, (of_decide_eq_true e).2.1⟩)]
    rfl
theorem cb (b c : Bool) : (bif b then some (D.bool c, ([] : List Ent)) else some (D.bool false, [])) = some (D.bool (b && c), []) := by cases b <;> rfl
theorem bool_some {b c : Bool} (h : b = true ↔ c = true) : (some (D.bool b, ([] : List Ent)) : Option Res) = some (D.bool c, []) := by rw [Bool.eq_iff_iff.2 h]
theorem validBox_i (fu : Nat) (a b c d : Int) : (cf1 fu).call 61 0 25 [bxD a b c d] [] (fun d σ => some (d, σ)) = some (.bool (Sp.vb (a, b, c, d)), []) := by
  rw [validBox_e]
  simp only [cb]
  refine bool_some (Iff.trans ?_ (decide_eq_true_iff (p := Bo.vb a b c d)).symm)
  simp only [Bool.and_eq_true, decide_eq_true_eq, Bo.vb, Bo.v]
  exact ⟨fun h => by omega, fun h => by omega⟩
theorem valid_i (fu : Nat) (a b : Int) : (cf1 fu).call 61 0 18 [spD a b] [] (fun d σ => some (d, σ)) = some (.bool (decide (Bo.v a b)), []) := by
  rw [valid_e]
  simp only [cb]
  refine bool_some (Iff.trans ?_ (decide_eq_true_iff (p := Bo.v a b)).symm)
  simp only [Bool.and_eq_true, decide_eq_true_eq, Bo.v]
  exact ⟨fun h => by omega, fun h => by omega⟩
theorem down_i (fu : Nat) {n d : Int} (hd : 0 < d) (h1 : -4611686018427387904 ≤ n) (h2 : n ≤ 4611686018427387904) : (cf1n fu).call 61 0 66 [.int .i64 n, .int .i64 d] [] (fun d σ => some (d, σ)) = some (.int .i64 (Bo.fl n d), []) := by
  have ta := Bo.tdiv_abs (n := n) (d := d) (M := 4611686018427387904) (by omega) h1 h2
  rw [down_e, cn (by omega), cn (by omega), cn (by omega), Bo.fl_of_rest (by omega), w_id (n := n.tdiv d) (by omega) (by omega), w_id (n := n.tdiv d - 1) (by omega) (by omega)]
  by_cases q : n.tmod d < 0
  · rw [cp q, if_pos ⟨by omega, ⟨fun _ => hd, fun _ => q⟩⟩]
  · rw [cn q, if_neg (fun e => q (e.2.2 hd))]
def checkBoxS (fu : Nat) : List D → (D → Option Res) → Option Res := tabS fun
  | [.agg [.int .i64 a, .int .i64 b, .int .i64 c, .int .i64 d]] => some (decide (2 < fu ∧ fu ≤ 100000), .int .i64 (e02 (Sp.vb (a, b, c, d))))
  | _ => none
theorem checkBoxS_ok (fu : Nat) : SpecOk Try.prog 79 (checkBoxS fu) := tab_ok ⟨Try.f79, Try.func79, rfl⟩ fun args d h => by
  split at h
  · simp only [Option.some.injEq, Prod.mk.injEq, decide_eq_true_eq] at h
    obtain ⟨h1, rfl⟩ := h
    exact says_of (cf1_ok fu) (checkBox_i h1.1 h1.2 _ _ _ _)
  · cases h
def check1S (fu : Nat) : List D → (D → Option Res) → Option Res := tabS fun
  | [.agg [.int .i64 a, .int .i64 b]] => some (decide (2 < fu ∧ fu ≤ 100000), .int .i64 (e02 (decide (Bo.v a b))))
  | _ => none
theorem check1S_ok (fu : Nat) : SpecOk Try.prog 96 (check1S fu) := tab_ok ⟨Try.f96, Try.func96, rfl⟩ fun args d h => by
  split at h
  · simp only [Option.some.injEq, Prod.mk.injEq, decide_eq_true_eq] at h
    obtain ⟨h1, rfl⟩ := h
    exact says_of (cf1_ok fu) ((check1_e fu _ _).trans (by rw [ca ⟨by simp; omega, h1.2⟩, chk1]; unfold e02; simp only [decide_eq_true_eq]))
  · cases h
def validBoxS (_ : Nat) : List D → (D → Option Res) → Option Res := tabS fun
  | [.agg [.int .i64 a, .int .i64 b, .int .i64 c, .int .i64 d]] => some (true, .bool (Sp.vb (a, b, c, d)))
  | _ => none
theorem validBoxS_ok (fu : Nat) : SpecOk Try.prog 25 (validBoxS fu) := tab_ok ⟨Try.f25, Try.func25, rfl⟩ fun args d h => by
  split at h
  · simp only [Option.some.injEq, Prod.mk.injEq, true_and] at h
    subst h
    exact says_of (cf1_ok fu) (validBox_i fu _ _ _ _)
  · cases h
def validS (_ : Nat) : List D → (D → Option Res) → Option Res := tabS fun
  | [.agg [.int .i64 a, .int .i64 b]] => some (true, .bool (decide (Bo.v a b)))
  | _ => none
theorem validS_ok (fu : Nat) : SpecOk Try.prog 18 (validS fu) := tab_ok ⟨Try.f18, Try.func18, rfl⟩ fun args d h => by
  split at h
  · simp only [Option.some.injEq, Prod.mk.injEq, true_and] at h
    subst h
    exact says_of (cf1_ok fu) (valid_i fu _ _)
  · cases h
def downS (_ : Nat) : List D → (D → Option Res) → Option Res := tabS fun
  | [.int .i64 n, .int .i64 d] => some (decide (0 < d) && decide (-4611686018427387904 ≤ n ∧ n ≤ 4611686018427387904), .int .i64 (Bo.fl n d))
  | _ => none
theorem downS_ok (fu : Nat) : SpecOk Try.prog 66 (downS fu) := tab_ok ⟨Try.f66, Try.func66, rfl⟩ fun args d h => by
  split at h
  · simp only [Option.some.injEq, Prod.mk.injEq] at h
    obtain ⟨h1, rfl⟩ := h
    have h1 := and_dec h1
    exact says_of (cf1n_ok fu) (down_i fu h1.1 h1.2.1 h1.2.2)
  · cases h
def sp2 : Nat → FuncId → Option (List D → (D → Option Res) → Option Res) := also 79 checkBoxS (also 96 check1S (also 25 validBoxS (also 18 validS (also 66 downS sp1))))
theorem sp2_ok (fu : Nat) : ∀ f s, sp2 fu f = some s → SpecOk Try.prog f s := also_ok (checkBoxS_ok fu) (also_ok (check1S_ok fu) (also_ok (validBoxS_ok fu) (also_ok (validS_ok fu) (also_ok (downS_ok fu) (sp1_ok fu)))))
noncomputable def cf2 (fu : Nat) : Cfg := cfgS sp2 fu
theorem cf2_ok (fu : Nat) : CfgOk (cf2 fu) := cfgS_ok (sp2_ok fu)
end Go.Proofs.Ytaheamdoldiojaa.P
namespace Go.Proofs.Ytaheamdoldiojaa.P
open Go.RowKit Go.Am
def isq (n : Nat) : Nat := Nat.rec (motive := fun _ => Nat → Nat) (fun x => x) (fun _ ih x => (fun y => if y < x then ih y else x) ((x + n / x) / 2)) 200 (n + 1)
/-- The root, told by its contract. -/
def rootSpec (args : List D) (k : D → Option Res) : Option Res := match args with
  | [.agg [.bool up], .int .i64 n] =>
    if 0 ≤ n ∧ n < 2305843009213693952 ∧ (isq n.toNat : Int) * (isq n.toNat : Int) ≤ n ∧ n < ((isq n.toNat : Int) + 1) * ((isq n.toNat : Int) + 1) then
      k (.int .i64 (if up && decide ((isq n.toNat : Int) * (isq n.toNat : Int) < n) then (isq n.toNat : Int) + 1 else (isq n.toNat : Int)))
    else none
  | _ => none
theorem rootSpec_ok : SpecOk Try.prog 133 rootSpec := by
  refine ⟨⟨Try.f133, Try.func133, rfl⟩, fun args k r h => ?_⟩
  unfold rootSpec at h
  split at h
  case h_2 => cases h
  rename_i up n
  split at h
  case isFalse => cases h
  rename_i hc
  have hq : (0 : Int) ≤ (isq n.toNat : Int) := Int.natCast_nonneg _
  generalize (isq n.toNat : Int) = q at h hc hq
  have hr : Rt.root n = q := Rt.root_of ⟨hq, hc.2.2.1, hc.2.2.2⟩ hc.1
  refine ⟨_, h, fun Y w vs hY hv => ?_⟩
  obtain ⟨v1, rest1, rfl, ⟨x, rfl, ⟨vb, r0, rfl, hb, h0⟩⟩, ⟨v2, rest2, rfl, h2, h3⟩⟩ := hv
  have h0 : r0 = [] := h0
  have h3 : rest2 = [] := h3
  have hb : vb = .bool up := hb
  have h2 : v2 = .int .i64 n := h2
  subst h0 h3 hb h2
  refine (bound_round_root.calls up n (if up && decide (q * q < n) then q + 1 else q) w ?_).mono fun e w' ⟨he, hb⟩ => ⟨_, he, rfl, hb⟩
  unfold bound_round_root.f
  rw [if_pos ⟨hc.1, hc.2.1⟩]
  unfold Rt.rootUp
  rw [hr]
  cases up
  · simp
  · by_cases q2 : q * q < n
    · simp [q2]
    · simp [q2]

noncomputable def cfgW0 : Cfg :=
  { P := Try.prog
    spec := fun f => if f = 133 then some rootSpec else none
    keep := fun _ _ => none
    keepTok := fun f => f == 59
    dyn := fun f => f == 112
    eqOk := eqTypes
    fuel := 60 }
theorem cfgW0_ok : CfgOk cfgW0 := ⟨eq_ok, names_ok, by kernel_rfl, (fun f sp h => by
  simp only [cfgW0] at h
  split at h
  · rename_i hf
    subst hf
    cases h
    exact rootSpec_ok
  · cases h), fun _ _ h => by cases h⟩
def xBox : Row := .cons (.int .i64) (.cons (.int .i64) (.cons (.int .i64) (.one (.int .i64))))
def xSpan : Row := .cons (.int .i64) (.one (.int .i64))
def xInt : Row := .one (.int .i64)
def xNet (a b : Int) : D := .agg [.sl xBox [(0, 0, 0, 0), (3000, 3000, 0, 0), (0, 0, 4000, 4000)] .no, .int .i64 a, .int .i64 b]
def xArr : D := .sl xSpan [(100, 100), (2100, 2100), (2767, 2767)] .no
def xGau : D := .sl (.one (.sl xSpan)) [[(0, 1), (20, 30), (25, 40)], [(0, 5), (5, 25), (21, 22)]] .no
def xRul : D := .agg [.int .i64 20, .int .i64 2, .int .i64 1]
def xB (a b c d : Int) : D := .agg [.int .i64 a, .int .i64 b, .int .i64 c, .int .i64 d]
def xS (a b : Int) : D := .agg [.int .i64 a, .int .i64 b]
def xI (a : Int) : D := .int .i64 a
def xL (l : List Int) : D := .sl xInt l .no

def fExample : List (List D × D) := [([], .tup [xNet 1500 1500, xArr])]
def fGauges : List (List D × D) := [([], .tup [xGau, xRul])]
def fRegion : List (List D × D) := [([xNet 1500 1500, xArr, xB 0 4000 0 4000, xI 1], .tup [.sl xBox [(0, 2000, 0, 2000)] .no, xI 0])]
def fFirst : List (List D × D) := [([xGau, xRul], .tup [xI 2, xI 2, xI 0])]

set_option maxRecDepth 100000
theorem sCount2 : Says Try.prog 30 [xL [2, 1, 2, 0, 1], xI 1] (.tup [xS 1 3, xI 0]) := says_of cfgW0_ok (m := 60) (by kernel_rfl)
theorem sExample : ∀ x ∈ fExample, Says Try.prog 55 x.1 x.2 := by
  simp only [fExample, List.mem_singleton, forall_eq]
  exact says_of cfgW0_ok (m := 60) (by kernel_rfl)
theorem sGauges : ∀ x ∈ fGauges, Says Try.prog 57 x.1 x.2 := by
  simp only [fGauges, List.mem_singleton, forall_eq]
  exact says_of cfgW0_ok (m := 60) (by kernel_rfl)
theorem sRegion : ∀ x ∈ fRegion, Says Try.prog 15 x.1 x.2 := by
  simp only [fRegion, List.mem_singleton, forall_eq]
  exact says_of cfgW0_ok (m := 60) (by kernel_rfl)
theorem sFirst : ∀ x ∈ fFirst, Says Try.prog 23 x.1 x.2 := by
  simp only [fFirst, List.mem_singleton, forall_eq]
  exact says_of cfgW0_ok (m := 60) (by kernel_rfl)

def fCount1 : List (List D × D) := [([xL [2, 1, 2, 0, 1], xI 1], .tup [xS 1 3, xI 0])]
theorem sCountW : ∀ x ∈ fCount1, Says Try.prog 30 x.1 x.2 := by
  simp only [fCount1, List.mem_singleton, forall_eq]
  exact sCount2
noncomputable def tblW (f : FuncId) : Option (List D → (D → Option Res) → Option Res) :=
  if f = 30 then some (told fCount1) else if f = 55 then some (told fExample) else if f = 57 then some (told fGauges) else if f = 15 then some (told fRegion) else if f = 23 then some (told fFirst) else none
noncomputable def cfgW1 : Cfg := { cfgW0 with spec := tblW }
theorem cfgW1_ok : CfgOk cfgW1 := ⟨eq_ok, names_ok, cfgW0_ok.mixed, (fun f sp h => by
  have h : tblW f = some sp := h
  unfold tblW at h
  repeat' split at h
  all_goals first | (cases h; done) | skip
  all_goals (rename_i hf; subst hf; cases h)
  · exact told_ok ⟨Try.f30, Try.func30, rfl⟩ sCountW
  · exact told_ok ⟨Try.f55, Try.func55, rfl⟩ sExample
  · exact told_ok ⟨Try.f57, Try.func57, rfl⟩ sGauges
  · exact told_ok ⟨Try.f15, Try.func15, rfl⟩ sRegion
  · exact told_ok ⟨Try.f23, Try.func23, rfl⟩ sFirst), fun _ _ h => by cases h⟩
/-- The layer's examples hold. -/
theorem says_works : Says Try.prog 14 [] (.bool true) := says_of cfgW1_ok (m := 60) (by kernel_rfl)
end Go.Proofs.Ytaheamdoldiojaa.P
namespace Go.Proofs.Ytaheamdoldiojaa.P
open Go Go.RowKit Go.Am
set_option maxRecDepth 100000
theorem distance_e (fu : Nat) (a0 : Int) (a1 : Int) (a2 : Int) (a3 : Int) (b0 : Int) (b1 : Int) (b2 : Int) (b3 : Int) : (cf2 fu).call 61 0 120 [bxD a0 a1 a2 a3, bxD b0 b1 b2 b3] [] (fun d σ => some (d, σ)) =
  bif decide (2 < fu ∧ fu ≤ 100000) then
   bif e02 (Sp.vb (a0, a1, a2, a3)) != 0 then
    some ((D.tup [D.agg [D.int .i64 0, D.int .i64 0], D.int .i64 2], []))
   else
    bif decide (2 < fu ∧ fu ≤ 100000) then
     bif e02 (Sp.vb (b0, b1, b2, b3)) != 0 then
      some ((D.tup [D.agg [D.int .i64 0, D.int .i64 0], D.int .i64 2], []))
     else
      bif decide (0 ≤ w64 (w64 (mx (mx 0 (w64 (a0 - b1))) (w64 (b0 - a1)) * mx (mx 0 (w64 (a0 - b1))) (w64 (b0 - a1))) + w64 (mx (mx 0 (w64 (a2 - b3))) (w64 (b2 - a3)) * mx (mx 0 (w64 (a2 - b3))) (w64 (b2 - a3))))) && decide (w64 (w64 (mx (mx 0 (w64 (a0 - b1))) (w64 (b0 - a1)) * mx (mx 0 (w64 (a0 - b1))) (w64 (b0 - a1))) + w64 (mx (mx 0 (w64 (a2 - b3))) (w64 (b2 - a3)) * mx (mx 0 (w64 (a2 - b3))) (w64 (b2 - a3)))) < 2305843009213693952) then
       bif decide (0 ≤ w64 (w64 (mx (w64 (a1 - b0)) (w64 (b1 - a0)) * mx (w64 (a1 - b0)) (w64 (b1 - a0))) + w64 (mx (w64 (a3 - b2)) (w64 (b3 - a2)) * mx (w64 (a3 - b2)) (w64 (b3 - a2))))) && decide (w64 (w64 (mx (w64 (a1 - b0)) (w64 (b1 - a0)) * mx (w64 (a1 - b0)) (w64 (b1 - a0))) + w64 (mx (w64 (a3 - b2)) (w64 (b3 - a2)) * mx (w64 (a3 - b2)) (w64 (b3 - a2)))) < 2305843009213693952) then
        some ((D.tup [D.agg [D.int .i64 (Rt.root (w64 (w64 (mx (mx 0 (w64 (a0 - b1))) (w64 (b0 - a1)) * mx (mx 0 (w64 (a0 - b1))) (w64 (b0 - a1))) + w64 (mx (mx 0 (w64 (a2 - b3))) (w64 (b2 - a3)) * mx (mx 0 (w64 (a2 - b3))) (w64 (b2 - a3)))))), D.int .i64 (Rt.rootUp (w64 (w64 (mx (w64 (a1 - b0)) (w64 (b1 - a0)) * mx (w64 (a1 - b0)) (w64 (b1 - a0))) + w64 (mx (w64 (a3 - b2)) (w64 (b3 - a2)) * mx (w64 (a3 - b2)) (w64 (b3 - a2))))))], D.int .i64 0], []))
       else
        none
      else
       none
    else
     none
  else
   none := by kernel_rfl
theorem distanceR_e (fu : Nat) (a0 : Int) (a1 : Int) (a2 : Int) (a3 : Int) (b0 : Int) (b1 : Int) (b2 : Int) (b3 : Int) : (cf2 fu).call 61 0 121 [bxD a0 a1 a2 a3, bxD b0 b1 b2 b3] [] (fun d σ => some (d, σ)) =
  bif !Sp.vb (a0, a1, a2, a3) then
   some ((D.tup [D.agg [D.int .i64 0, D.int .i64 0], D.int .i64 2], []))
  else
   bif !Sp.vb (b0, b1, b2, b3) then
    some ((D.tup [D.agg [D.int .i64 0, D.int .i64 0], D.int .i64 2], []))
   else
    bif decide (0 ≤ w64 (w64 (mx (mx 0 (w64 (a0 - b1))) (w64 (b0 - a1)) * mx (mx 0 (w64 (a0 - b1))) (w64 (b0 - a1))) + w64 (mx (mx 0 (w64 (a2 - b3))) (w64 (b2 - a3)) * mx (mx 0 (w64 (a2 - b3))) (w64 (b2 - a3)))) ∧ w64 (w64 (mx (mx 0 (w64 (a0 - b1))) (w64 (b0 - a1)) * mx (mx 0 (w64 (a0 - b1))) (w64 (b0 - a1))) + w64 (mx (mx 0 (w64 (a2 - b3))) (w64 (b2 - a3)) * mx (mx 0 (w64 (a2 - b3))) (w64 (b2 - a3)))) ≤ 4611686018427387904) && decide (40 ≤ fu) then
     bif decide (0 ≤ w64 (w64 (mx (w64 (a1 - b0)) (w64 (b1 - a0)) * mx (w64 (a1 - b0)) (w64 (b1 - a0))) + w64 (mx (w64 (a3 - b2)) (w64 (b3 - a2)) * mx (w64 (a3 - b2)) (w64 (b3 - a2)))) ∧ w64 (w64 (mx (w64 (a1 - b0)) (w64 (b1 - a0)) * mx (w64 (a1 - b0)) (w64 (b1 - a0))) + w64 (mx (w64 (a3 - b2)) (w64 (b3 - a2)) * mx (w64 (a3 - b2)) (w64 (b3 - a2)))) ≤ 4611686018427387904) && decide (40 ≤ fu) then
      bif decide (w64 (Rt.root (w64 (w64 (mx (w64 (a1 - b0)) (w64 (b1 - a0)) * mx (w64 (a1 - b0)) (w64 (b1 - a0))) + w64 (mx (w64 (a3 - b2)) (w64 (b3 - a2)) * mx (w64 (a3 - b2)) (w64 (b3 - a2))))) * Rt.root (w64 (w64 (mx (w64 (a1 - b0)) (w64 (b1 - a0)) * mx (w64 (a1 - b0)) (w64 (b1 - a0))) + w64 (mx (w64 (a3 - b2)) (w64 (b3 - a2)) * mx (w64 (a3 - b2)) (w64 (b3 - a2)))))) < w64 (w64 (mx (w64 (a1 - b0)) (w64 (b1 - a0)) * mx (w64 (a1 - b0)) (w64 (b1 - a0))) + w64 (mx (w64 (a3 - b2)) (w64 (b3 - a2)) * mx (w64 (a3 - b2)) (w64 (b3 - a2))))) then
       some ((D.tup [D.agg [D.int .i64 (Rt.root (w64 (w64 (mx (mx 0 (w64 (a0 - b1))) (w64 (b0 - a1)) * mx (mx 0 (w64 (a0 - b1))) (w64 (b0 - a1))) + w64 (mx (mx 0 (w64 (a2 - b3))) (w64 (b2 - a3)) * mx (mx 0 (w64 (a2 - b3))) (w64 (b2 - a3)))))), D.int .i64 (w64 (Rt.root (w64 (w64 (mx (w64 (a1 - b0)) (w64 (b1 - a0)) * mx (w64 (a1 - b0)) (w64 (b1 - a0))) + w64 (mx (w64 (a3 - b2)) (w64 (b3 - a2)) * mx (w64 (a3 - b2)) (w64 (b3 - a2))))) + 1))], D.int .i64 0], []))
      else
       some ((D.tup [D.agg [D.int .i64 (Rt.root (w64 (w64 (mx (mx 0 (w64 (a0 - b1))) (w64 (b0 - a1)) * mx (mx 0 (w64 (a0 - b1))) (w64 (b0 - a1))) + w64 (mx (mx 0 (w64 (a2 - b3))) (w64 (b2 - a3)) * mx (mx 0 (w64 (a2 - b3))) (w64 (b2 - a3)))))), D.int .i64 (Rt.root (w64 (w64 (mx (w64 (a1 - b0)) (w64 (b1 - a0)) * mx (w64 (a1 - b0)) (w64 (b1 - a0))) + w64 (mx (w64 (a3 - b2)) (w64 (b3 - a2)) * mx (w64 (a3 - b2)) (w64 (b3 - a2))))))], D.int .i64 0], []))
     else
      none
    else
     none := by kernel_rfl
noncomputable def idxBox_0 (fu m : Nat) (xs : List (Int × Int × Int × Int)) (y0 : Int) (y1 : Int) : Option Res := (cf2 fu).loop 60 124 [true, false, true] [] 0 m ⟨tmOf 19 [(0, D.sl BxR xs .no), (1, D.fn 98 [] []), (4, D.int .i64 0), (7, D.int .i64 y0), (8, D.int .i64 y1)], []⟩
theorem idxBox_0s (fu m : Nat) (xs : List (Int × Int × Int × Int)) (y0 : Int) (y1 : Int) : idxBox_0 fu (m + 1) xs y0 y1 =
  bif decide (y1 < y0) then
   bif decide (0 ≤ y1) && decide (y1 < (↑xs.length : Int)) then
    bif decide (2 < fu ∧ fu ≤ 100000) then
     bif e02 (Sp.vb (xs.getD y1.toNat BxR.dflt)) != 0 then
      some ((D.int .i64 y1, []))
     else
      idxBox_0 fu m xs y0 (w64 (y1 + 1))
    else
     none
   else
    none
  else
   some ((D.int .i64 (-1), [])) := by kernel_rfl
theorem idxBox_e (fu : Nat) (xs : List (Int × Int × Int × Int)) : (cf2 fu).call 61 0 124 [D.sl BxR xs .no, D.fn 98 [] []] [] (fun d σ => some (d, σ)) =
  idxBox_0 fu fu xs (↑xs.length : Int) 0 := by kernel_rfl
noncomputable def idxSpan_0 (fu m : Nat) (xs : List (Int × Int)) (y0 : Int) (y1 : Int) : Option Res := (cf2 fu).loop 60 125 [true, false, true] [] 0 m ⟨tmOf 19 [(0, D.sl SpR xs .no), (1, D.fn 100 [] []), (4, D.int .i64 0), (7, D.int .i64 y0), (8, D.int .i64 y1)], []⟩
theorem idxSpan_0s (fu m : Nat) (xs : List (Int × Int)) (y0 : Int) (y1 : Int) : idxSpan_0 fu (m + 1) xs y0 y1 =
  bif decide (y1 < y0) then
   bif decide (0 ≤ y1) && decide (y1 < (↑xs.length : Int)) then
    bif decide ((xs.getD y1.toNat SpR.dflt).fst ≤ (xs.getD y1.toNat SpR.dflt).snd) then
     bif decide ((xs.getD y1.toNat SpR.dflt).fst ≥ -1125899906842624) then
      bif !decide ((xs.getD y1.toNat SpR.dflt).snd ≤ 1125899906842624) then
       some ((D.int .i64 y1, []))
      else
       idxSpan_0 fu m xs y0 (w64 (y1 + 1))
     else
      some ((D.int .i64 y1, []))
    else
     some ((D.int .i64 y1, []))
   else
    none
  else
   some ((D.int .i64 (-1), [])) := by kernel_rfl
theorem idxSpan_e (fu : Nat) (xs : List (Int × Int)) : (cf2 fu).call 61 0 125 [D.sl SpR xs .no, D.fn 100 [] []] [] (fun d σ => some (d, σ)) =
  idxSpan_0 fu fu xs (↑xs.length : Int) 0 := by kernel_rfl
noncomputable def netR_0 (fu m : Nat) (y0 : Int) (st : List (Int × Int × Int × Int)) (lo : Int) (hi : Int) : Option Res := (cf2 fu).loop 60 24 [true, true, false, true] [] 1 m ⟨tmOf 46 [(1, D.ptr 0 0), (2, D.int .i64 0), (3, D.int .i64 y0)], [Ent.box [D.sl BxR st .no, D.int .i64 lo, D.int .i64 hi]]⟩
theorem netR_0s (fu m : Nat) (y0 : Int) (st : List (Int × Int × Int × Int)) (lo : Int) (hi : Int) : netR_0 fu (m + 1) y0 st lo hi =
  bif decide (y0 < (↑st.length : Int)) then
   bif decide (0 ≤ y0) && decide (y0 < (↑st.length : Int)) then
    bif !Sp.vb (st.getD y0.toNat BxR.dflt) then
     some ((D.int .i64 2, []))
    else
     netR_0 fu m (w64 (y0 + 1)) st lo hi
   else
    none
  else
   some ((D.int .i64 0, [])) := by kernel_rfl
theorem netR_e (fu : Nat) (st : List (Int × Int × Int × Int)) (lo : Int) (hi : Int) : (cf2 fu).call 61 0 24 [D.agg [D.sl BxR st .no, D.int .i64 lo, D.int .i64 hi]] [] (fun d σ => some (d, σ)) =
  bif decide ((↑st.length : Int) < 2) then
   some ((D.int .i64 2, []))
  else
   bif decide ((↑st.length : Int) > 8) then
    some ((D.int .i64 2, []))
   else
    bif !decide (Bo.v lo hi) then
     some ((D.int .i64 2, []))
    else
     bif decide (lo < 1) then
      some ((D.int .i64 2, []))
     else
      bif decide (hi > 20000) then
       some ((D.int .i64 2, []))
      else
       netR_0 fu fu 0 st lo hi := by kernel_rfl
end Go.Proofs.Ytaheamdoldiojaa.P
namespace Go.Proofs.Ytaheamdoldiojaa.P
open Go Go.RowKit Go.Am
/-! ### Distance, IndexFunc, the reference's CheckNet -/
theorem near_far_e {a0 a1 a2 a3 b0 b1 b2 b3 : Int} (ha : Bo.vb a0 a1 a2 a3) (hb : Bo.vb b0 b1 b2 b3) : mx (mx 0 (w64 (a0 - b1))) (w64 (b0 - a1)) = Bo.near a0 a1 b0 b1 ∧ mx (w64 (a1 - b0)) (w64 (b1 - a0)) = Bo.far a0 a1 b0 b1 := by
  have h := Option.some.inj (Bo.square_core ha hb)
  exact ⟨congrArg Prod.fst h, congrArg Prod.snd h⟩
theorem distance_i {fu : Nat} (h1 : 2 < fu) (h2 : fu ≤ 100000) {a0 a1 a2 a3 b0 b1 b2 b3 : Int} (ha : Sp.vb (a0, a1, a2, a3) = true) (hb : Sp.vb (b0, b1, b2, b3) = true) : (cf2 fu).call 61 0 120 [bxD a0 a1 a2 a3, bxD b0 b1 b2 b3] [] (fun d σ => some (d, σ)) = some (.tup [spD (Rt.root (Bo.sqLo a0 a1 a2 a3 b0 b1 b2 b3)) (Rt.rootUp (Bo.sqHi a0 a1 a2 a3 b0 b1 b2 b3)), .int .i64 0], []) := by
  have va : Bo.vb a0 a1 a2 a3 := of_decide_eq_true ha
  have vb : Bo.vb b0 b1 b2 b3 := of_decide_eq_true hb
  have x := near_far_e va vb
  have y := near_far_e (Bo.vb_swap va) (Bo.vb_swap vb)
  have w := Bo.square_w va vb
  rw [distance_e, cp ⟨h1, h2⟩, cp ⟨h1, h2⟩, ha, hb, x.1, x.2, y.1, y.2, w.1, w.2.1]
  have w1 := w.2.2.1
  have w2 := w.2.2.2.1
  have w3 := w.2.2.2.2
  rw [ca ⟨by omega, by omega⟩, ca ⟨by omega, by omega⟩]
  rfl
theorem distanceR_i {fu : Nat} (h1 : 40 ≤ fu) {a0 a1 a2 a3 b0 b1 b2 b3 : Int} (ha : Sp.vb (a0, a1, a2, a3) = true) (hb : Sp.vb (b0, b1, b2, b3) = true) : (cf2 fu).call 61 0 121 [bxD a0 a1 a2 a3, bxD b0 b1 b2 b3] [] (fun d σ => some (d, σ)) = some (.tup [spD (Rt.root (Bo.sqLo a0 a1 a2 a3 b0 b1 b2 b3)) (Rt.rootUp (Bo.sqHi a0 a1 a2 a3 b0 b1 b2 b3)), .int .i64 0], []) := by
  have va : Bo.vb a0 a1 a2 a3 := of_decide_eq_true ha
  have vb : Bo.vb b0 b1 b2 b3 := of_decide_eq_true hb
  have x := near_far_e va vb
  have y := near_far_e (Bo.vb_swap va) (Bo.vb_swap vb)
  have w := Bo.square_w va vb
  rw [distanceR_e, ha, hb, x.1, x.2, y.1, y.2, w.1, w.2.1]
  have w1 := w.2.2.1
  have w2 := w.2.2.2.1
  have w3 := w.2.2.2.2
  have r1 := Bo.root_is (n := Bo.sqHi a0 a1 a2 a3 b0 b1 b2 b3) (by omega)
  have r3 := Int.mul_nonneg r1.1 r1.1
  have r2 := Bo.root_le (n := Bo.sqHi a0 a1 a2 a3 b0 b1 b2 b3) (M := 1073741824) (by omega) (by omega) (by omega)
  simp only [Bool.not_true, cond_false]
  rw [ca ⟨⟨by omega, by omega⟩, h1⟩, ca ⟨⟨by omega, by omega⟩, h1⟩, w_id (n := Rt.root _ * Rt.root _) (by omega) (by omega), w_id (n := Rt.root _ + 1) (by omega) (by omega)]
  unfold Rt.rootUp
  by_cases q : Rt.root (Bo.sqHi a0 a1 a2 a3 b0 b1 b2 b3) * Rt.root (Bo.sqHi a0 a1 a2 a3 b0 b1 b2 b3) < Bo.sqHi a0 a1 a2 a3 b0 b1 b2 b3
  · rw [cp q, if_pos q]
  · rw [cn q, if_neg q]
theorem pair_true {p : Prop} [Decidable p] {x d : D} (h : (decide p, x) = (true, d)) : p ∧ x = d := ⟨of_decide_eq_true (congrArg Prod.fst h), congrArg Prod.snd h⟩
def distS (g : Nat → Bool) (fu : Nat) : List D → (D → Option Res) → Option Res := tabS fun
  | [.agg [.int .i64 a0, .int .i64 a1, .int .i64 a2, .int .i64 a3], .agg [.int .i64 b0, .int .i64 b1, .int .i64 b2, .int .i64 b3]] => some (decide (g fu = true ∧ Sp.vb (a0, a1, a2, a3) = true ∧ Sp.vb (b0, b1, b2, b3) = true), .tup [.agg [.int .i64 (Rt.root (Bo.sqLo a0 a1 a2 a3 b0 b1 b2 b3)), .int .i64 (Rt.rootUp (Bo.sqHi a0 a1 a2 a3 b0 b1 b2 b3))], .int .i64 0])
  | _ => none
/-- Few rounds enough, and not too many. -/
def gf (fu : Nat) : Bool := decide (40 ≤ fu ∧ fu ≤ 100000)
theorem gf_2 {fu : Nat} (h : gf fu = true) : 40 ≤ fu ∧ fu ≤ 100000 := of_decide_eq_true h
theorem distS_ok (fu : Nat) : SpecOk Try.prog 120 (distS gf fu) := tab_ok ⟨Try.f120, Try.func120, rfl⟩ fun args d h => by
  split at h
  · simp only [Option.some.injEq, Prod.mk.injEq, decide_eq_true_eq] at h
    obtain ⟨h1, rfl⟩ := h
    have g := gf_2 h1.1
    exact says_of (cf2_ok fu) (distance_i (by omega) (by omega) h1.2.1 h1.2.2)
  · cases h
theorem distRS_ok (fu : Nat) : SpecOk Try.prog 121 (distS gf fu) := tab_ok ⟨Try.f121, Try.func121, rfl⟩ fun args d h => by
  split at h
  · simp only [Option.some.injEq, Prod.mk.injEq, decide_eq_true_eq] at h
    obtain ⟨h1, rfl⟩ := h
    have g := gf_2 h1.1
    exact says_of (cf2_ok fu) (distanceR_i (by omega) h1.2.1 h1.2.2)
  · cases h
/-- The place of the first of which it is so, from a place on. -/
def Ms.idx {α : Type} (p : α → Bool) : List α → Int → Int
  | [], _ => -1
  | x :: l, i => if p x = true then i else Ms.idx p l (i + 1)
theorem Ms.idx_ge {α : Type} (p : α → Bool) : ∀ (l : List α) (i : Int), 0 ≤ i → (decide (Ms.idx p l i ≥ 0) = l.any p)
  | [], i, h => by simp [Ms.idx]
  | x :: l, i, h => by
    unfold Ms.idx
    by_cases c : p x = true
    · rw [if_pos c, List.any_cons, c, Bool.true_or]
      exact decide_eq_true h
    · rw [if_neg c, Ms.idx_ge p l (i + 1) (by omega), List.any_cons]
      simp [c]
theorem idxBox_l {fu : Nat} (hf : 40 ≤ fu ∧ fu ≤ 100000) (xs : List (Int × Int × Int × Int)) (hl : xs.length ≤ 9223372036854775807) : ∀ n m i : Nat, i + n = xs.length → n < m → idxBox_0 fu m xs (xs.length : Int) (i : Int) = some (.int .i64 (Ms.idx (fun b => !Sp.vb b) (xs.drop i) (i : Int)), [])
  | 0, m, i, hi, hm => by
    obtain ⟨m, rfl⟩ : ∃ j, m = j + 1 := ⟨m - 1, by omega⟩
    rw [idxBox_0s, cn (by omega), List.drop_eq_nil_of_le (by omega)]
    rfl
  | n + 1, m, i, hi, hm => by
    obtain ⟨m, rfl⟩ : ∃ j, m = j + 1 := ⟨m - 1, by omega⟩
    have hlt : i < xs.length := by omega
    have ih := idxBox_l hf xs hl n m (i + 1) (by omega) (by omega)
    rw [idxBox_0s, cp (by omega), ca ⟨by omega, by omega⟩, cp ⟨by omega, by omega⟩, getD_nat i hlt, w_succ hlt hl, ih, drop_cons hlt, Ms.idx]
    by_cases c : Sp.vb xs[i] = true
    · rw [show Sp.vb (xs[i].1, xs[i].2.1, xs[i].2.2.1, xs[i].2.2.2) = true from c, if_neg (by simp [c])]
      rfl
    · rw [show Sp.vb (xs[i].1, xs[i].2.1, xs[i].2.2.1, xs[i].2.2.2) = false from by simpa using c, if_pos (by simp [c])]
      rfl
theorem idxSpan_l {fu : Nat} (xs : List (Int × Int)) (hl : xs.length ≤ 9223372036854775807) : ∀ n m i : Nat, i + n = xs.length → n < m → idxSpan_0 fu m xs (xs.length : Int) (i : Int) = some (.int .i64 (Ms.idx (fun b => !Sp.inst b) (xs.drop i) (i : Int)), [])
  | 0, m, i, hi, hm => by
    obtain ⟨m, rfl⟩ : ∃ j, m = j + 1 := ⟨m - 1, by omega⟩
    rw [idxSpan_0s, cn (by omega), List.drop_eq_nil_of_le (by omega)]
    rfl
  | n + 1, m, i, hi, hm => by
    obtain ⟨m, rfl⟩ : ∃ j, m = j + 1 := ⟨m - 1, by omega⟩
    have hlt : i < xs.length := by omega
    have ih := idxSpan_l (fu := fu) xs hl n m (i + 1) (by omega) (by omega)
    rw [idxSpan_0s, cp (by omega), ca ⟨by omega, by omega⟩, getD_nat i hlt, w_succ hlt hl, ih, drop_cons hlt, Ms.idx]
    by_cases c : Sp.inst xs[i] = true
    · have g := Sp.inst_of c
      rw [cp g.1, cp g.2.1, decide_eq_true g.2.2, if_neg (by simp [c])]
      rfl
    · have g : ¬ (xs[i].1 ≤ xs[i].2 ∧ -1125899906842624 ≤ xs[i].1 ∧ xs[i].2 ≤ 1125899906842624) := fun g => c (decide_eq_true g)
      rw [if_pos (by simp [c])]
      by_cases q1 : xs[i].1 ≤ xs[i].2
      · rw [cp q1]
        by_cases q2 : xs[i].1 ≥ -1125899906842624
        · rw [cp q2, decide_eq_false (by omega)]
          rfl
        · rw [cn q2]
      · rw [cn q1]
def idxBoxS (fu : Nat) : List D → (D → Option Res) → Option Res := tabS fun
  | [a, .fn 98 [] []] => (lst BxR a).map fun xs => (decide (gf fu = true ∧ xs.length < fu), .int .i64 (Ms.idx (fun b => !Sp.vb b) xs 0))
  | _ => none
theorem idxBoxS_ok (fu : Nat) : SpecOk Try.prog 124 (idxBoxS fu) := tab_ok ⟨Try.f124, Try.func124, rfl⟩ fun args d h => by
  split at h
  · obtain ⟨xs, hx, h'⟩ := map_some' h
    cases lst_eq hx
    obtain ⟨h1, rfl⟩ := pair_true h'
    have g := gf_2 h1.1
    exact says_of (cf2_ok fu) ((idxBox_e fu xs).trans (idxBox_l g xs (by omega) xs.length fu 0 (by omega) (by omega)))
  · cases h
def idxSpanS (fu : Nat) : List D → (D → Option Res) → Option Res := tabS fun
  | [a, .fn 100 [] []] => (lst SpR a).map fun xs => (decide (gf fu = true ∧ xs.length < fu), .int .i64 (Ms.idx (fun b => !Sp.inst b) xs 0))
  | _ => none
theorem idxSpanS_ok (fu : Nat) : SpecOk Try.prog 125 (idxSpanS fu) := tab_ok ⟨Try.f125, Try.func125, rfl⟩ fun args d h => by
  split at h
  · obtain ⟨xs, hx, h'⟩ := map_some' h
    cases lst_eq hx
    obtain ⟨h1, rfl⟩ := pair_true h'
    have g := gf_2 h1.1
    exact says_of (cf2_ok fu) ((idxSpan_e fu xs).trans (idxSpan_l xs (by omega) xs.length fu 0 (by omega) (by omega)))
  · cases h
theorem netR_l {fu : Nat} (st : List (Int × Int × Int × Int)) (lo hi : Int) (hl : st.length ≤ 9223372036854775807) : ∀ n m i : Nat, i + n = st.length → n < m → netR_0 fu m (i : Int) st lo hi = some (.int .i64 (if (st.drop i).all Sp.vb = true then 0 else 2), [])
  | 0, m, i, hi', hm => by
    obtain ⟨m, rfl⟩ : ∃ j, m = j + 1 := ⟨m - 1, by omega⟩
    rw [netR_0s, cn (by omega), List.drop_eq_nil_of_le (by omega)]
    rfl
  | n + 1, m, i, hi', hm => by
    obtain ⟨m, rfl⟩ : ∃ j, m = j + 1 := ⟨m - 1, by omega⟩
    have hlt : i < st.length := by omega
    have ih := netR_l (fu := fu) st lo hi hl n m (i + 1) (by omega) (by omega)
    rw [netR_0s, cp (by omega), ca ⟨by omega, by omega⟩, getD_nat i hlt, w_succ hlt hl, ih, drop_cons hlt, List.all_cons]
    by_cases c : Sp.vb st[i] = true
    · rw [show Sp.vb (st[i].1, st[i].2.1, st[i].2.2.1, st[i].2.2.2) = true from c, Bool.true_and]
      rfl
    · rw [show Sp.vb (st[i].1, st[i].2.1, st[i].2.2.1, st[i].2.2.2) = false from by simpa using c, Bool.false_and]
      rfl
theorem netR_i {fu : Nat} (hf : 40 ≤ fu) (st : List (Int × Int × Int × Int)) (lo hi : Int) : (cf2 fu).call 61 0 24 [.agg [.sl BxR st .no, .int .i64 lo, .int .i64 hi]] [] (fun d σ => some (d, σ)) = some (.int .i64 (Sp.net st lo hi), []) := by
  rw [netR_e]
  unfold Sp.net
  by_cases h1 : (st.length : Int) < 2
  · rw [cp h1, if_neg (fun h => by have := h.1; omega)]
  rw [cn h1]
  by_cases h2 : (st.length : Int) > 8
  · rw [cp h2, if_neg (fun h => by have := h.2.1; omega)]
  rw [cn h2]
  by_cases h3 : Bo.v lo hi
  · rw [decide_eq_true h3, show (!true) = false from rfl, cond_false]
    by_cases h4 : lo < 1
    · rw [cp h4, if_neg (fun h => by have := h.2.2.2.1; omega)]
    rw [cn h4]
    by_cases h5 : hi > 20000
    · rw [cp h5, if_neg (fun h => by have := h.2.2.2.2.1; omega)]
    have e := netR_l (fu := fu) st lo hi (by omega) st.length fu 0 (by omega) (by omega)
    rw [show ((0 : Nat) : Int) = 0 from rfl, List.drop_zero] at e
    rw [cn h5, e]
    by_cases c : st.all Sp.vb = true
    · rw [if_pos c, if_pos ⟨by omega, by omega, h3, by omega, by omega, c⟩]
    · rw [if_neg c, if_neg (fun h => c h.2.2.2.2.2)]
  · rw [decide_eq_false h3, show (!false) = true from rfl, cond_true, if_neg (fun h => h3 h.2.2.1)]
def netS (fu : Nat) : List D → (D → Option Res) → Option Res := tabS fun
  | [.agg [a, .int .i64 lo, .int .i64 hi]] => (lst BxR a).map fun st => (decide (gf fu = true ∧ st.length < fu), .int .i64 (Sp.net st lo hi))
  | _ => none
theorem netRS_ok (fu : Nat) : SpecOk Try.prog 24 (netS fu) := tab_ok ⟨Try.f24, Try.func24, rfl⟩ fun args d h => by
  split at h
  · obtain ⟨xs, hx, h'⟩ := map_some' h
    cases lst_eq hx
    obtain ⟨h1, rfl⟩ := pair_true h'
    have g := gf_2 h1.1
    exact says_of (cf2_ok fu) (netR_i (by omega) _ _ _)
  · cases h
def sp3 : Nat → FuncId → Option (List D → (D → Option Res) → Option Res) := also 120 (distS gf) (also 121 (distS gf) (also 124 idxBoxS (also 125 idxSpanS (also 24 netS sp2))))
theorem sp3_ok (fu : Nat) : ∀ f s, sp3 fu f = some s → SpecOk Try.prog f s := also_ok (distS_ok fu) (also_ok (distRS_ok fu) (also_ok (idxBoxS_ok fu) (also_ok (idxSpanS_ok fu) (also_ok (netRS_ok fu) (sp2_ok fu)))))
noncomputable def cf3 (fu : Nat) : Cfg := cfgS sp3 fu
theorem cf3_ok (fu : Nat) : CfgOk (cf3 fu) := cfgS_ok (sp3_ok fu)
end Go.Proofs.Ytaheamdoldiojaa.P
namespace Go.Proofs.Ytaheamdoldiojaa.P
open Go Go.RowKit Go.Am
set_option maxRecDepth 100000
theorem net_e (fu : Nat) (st : List (Int × Int × Int × Int)) (lo : Int) (hi : Int) : (cf3 fu).call 61 0 52 [D.agg [D.sl BxR st .no, D.int .i64 lo, D.int .i64 hi]] [] (fun d σ => some (d, σ)) =
  bif decide ((↑st.length : Int) < 2) then
   some ((D.int .i64 2, []))
  else
   bif decide ((↑st.length : Int) > 8) then
    some ((D.int .i64 2, []))
   else
    bif decide (2 < fu ∧ fu ≤ 100000) then
     bif e02 (decide (Bo.v lo hi)) != 0 then
      some ((D.int .i64 2, []))
     else
      bif decide (lo < 1) then
       some ((D.int .i64 2, []))
      else
       bif decide (hi > 20000) then
        some ((D.int .i64 2, []))
       else
        bif decide (gf fu = true ∧ st.length < fu) then
         bif decide (Ms.idx (fun b => !Sp.vb b) st 0 ≥ 0) then
          some ((D.int .i64 2, []))
         else
          some ((D.int .i64 0, []))
        else
         none
    else
     none := by kernel_rfl
theorem travel_e (fu : Nat) (lo : Int) (hi : Int) (a0 : Int) (a1 : Int) (a2 : Int) (a3 : Int) (b0 : Int) (b1 : Int) (b2 : Int) (b3 : Int) : (cf3 fu).call 61 0 83 [spD lo hi, bxD a0 a1 a2 a3, bxD b0 b1 b2 b3] [] (fun d σ => some (d, σ)) =
  bif decide (gf fu = true ∧ Sp.vb (a0, a1, a2, a3) = true ∧ Sp.vb (b0, b1, b2, b3) = true) then
   bif decide (hi = 0) then
    none
   else
    bif decide (lo = 0) then
     none
    else
     some ((D.agg [D.int .i64 (w64 ((w64 (1000 * Rt.root (Bo.sqLo a0 a1 a2 a3 b0 b1 b2 b3))).tdiv hi)), D.int .i64 (w64 ((w64 (w64 (w64 (1000 * Rt.rootUp (Bo.sqHi a0 a1 a2 a3 b0 b1 b2 b3)) + lo) - 1)).tdiv lo))], []))
  else
   none := by kernel_rfl
theorem travelR_e (fu : Nat) (lo : Int) (hi : Int) (a0 : Int) (a1 : Int) (a2 : Int) (a3 : Int) (b0 : Int) (b1 : Int) (b2 : Int) (b3 : Int) : (cf3 fu).call 61 0 85 [spD lo hi, bxD a0 a1 a2 a3, bxD b0 b1 b2 b3] [] (fun d σ => some (d, σ)) =
  bif decide (gf fu = true ∧ Sp.vb (a0, a1, a2, a3) = true ∧ Sp.vb (b0, b1, b2, b3) = true) then
   bif decide (0 < hi) && decide (-4611686018427387904 ≤ w64 (1000 * Rt.root (Bo.sqLo a0 a1 a2 a3 b0 b1 b2 b3)) ∧ w64 (1000 * Rt.root (Bo.sqLo a0 a1 a2 a3 b0 b1 b2 b3)) ≤ 4611686018427387904) then
    bif decide (0 < lo) && decide (-4611686018427387904 ≤ w64 (0 - w64 (1000 * Rt.rootUp (Bo.sqHi a0 a1 a2 a3 b0 b1 b2 b3))) ∧ w64 (0 - w64 (1000 * Rt.rootUp (Bo.sqHi a0 a1 a2 a3 b0 b1 b2 b3))) ≤ 4611686018427387904) then
     some ((D.agg [D.int .i64 (Bo.fl (w64 (1000 * Rt.root (Bo.sqLo a0 a1 a2 a3 b0 b1 b2 b3))) hi), D.int .i64 (w64 (0 - Bo.fl (w64 (0 - w64 (1000 * Rt.rootUp (Bo.sqHi a0 a1 a2 a3 b0 b1 b2 b3)))) lo))], []))
    else
     none
   else
    none
  else
   none := by kernel_rfl
noncomputable def arrR_0 (fu m : Nat) (at_ : List (Int × Int)) (y0 : Int) (st : List (Int × Int × Int × Int)) (lo : Int) (hi : Int) : Option Res := (cf3 fu).loop 60 122 [true, true, true, false, true] [] 1 m ⟨tmOf 29 [(1, D.sl SpR at_ .no), (4, D.int .i64 0), (5, D.int .i64 y0)], [Ent.box [D.sl BxR st .no, D.int .i64 lo, D.int .i64 hi]]⟩
theorem arrR_0s (fu m : Nat) (at_ : List (Int × Int)) (y0 : Int) (st : List (Int × Int × Int × Int)) (lo : Int) (hi : Int) : arrR_0 fu (m + 1) at_ y0 st lo hi =
  bif decide (y0 < (↑at_.length : Int)) then
   bif decide (0 ≤ y0) && decide (y0 < (↑at_.length : Int)) then
    bif decide ((at_.getD y0.toNat SpR.dflt).fst ≤ (at_.getD y0.toNat SpR.dflt).snd) then
     bif decide ((at_.getD y0.toNat SpR.dflt).fst ≥ -1125899906842624) then
      bif !decide ((at_.getD y0.toNat SpR.dflt).snd ≤ 1125899906842624) then
       some ((D.int .i64 2, []))
      else
       arrR_0 fu m at_ (w64 (y0 + 1)) st lo hi
     else
      some ((D.int .i64 2, []))
    else
     some ((D.int .i64 2, []))
   else
    none
  else
   some ((D.int .i64 0, [])) := by kernel_rfl
theorem arrR_e (fu : Nat) (st : List (Int × Int × Int × Int)) (lo : Int) (hi : Int) (at_ : List (Int × Int)) : (cf3 fu).call 61 0 122 [D.agg [D.sl BxR st .no, D.int .i64 lo, D.int .i64 hi], D.sl SpR at_ .no] [] (fun d σ => some (d, σ)) =
  bif decide (gf fu = true ∧ st.length < fu) then
   bif Sp.net st lo hi != 0 then
    bif decide (gf fu = true ∧ st.length < fu) then
     some ((D.int .i64 (Sp.net st lo hi), []))
    else
     none
   else
    bif (↑at_.length : Int) != (↑st.length : Int) then
     some ((D.int .i64 17, []))
    else
     arrR_0 fu fu at_ 0 st lo hi
  else
   none := by kernel_rfl
end Go.Proofs.Ytaheamdoldiojaa.P
namespace Go.Proofs.Ytaheamdoldiojaa.P
open Go Go.RowKit Go.Am
/-! ### CheckNet, travel, arrivals -/
theorem any_not {α : Type} (p : α → Bool) : ∀ l : List α, l.any (fun s => !p s) = !(l.all p)
  | [] => rfl
  | x :: l => by rw [List.any_cons, List.all_cons, any_not p l, Bool.not_and]
theorem net_i {fu : Nat} (hf : gf fu = true) (st : List (Int × Int × Int × Int)) (hs : st.length < fu) (lo hi : Int) : (cf3 fu).call 61 0 52 [.agg [.sl BxR st .no, .int .i64 lo, .int .i64 hi]] [] (fun d σ => some (d, σ)) = some (.int .i64 (Sp.net st lo hi), []) := by
  have g := gf_2 hf
  rw [net_e]
  unfold Sp.net
  by_cases h1 : (st.length : Int) < 2
  · rw [cp h1, if_neg (fun h => by have := h.1; omega)]
  rw [cn h1]
  by_cases h2 : (st.length : Int) > 8
  · rw [cp h2, if_neg (fun h => by have := h.2.1; omega)]
  rw [cn h2, cp ⟨by omega, g.2⟩]
  by_cases h3 : Bo.v lo hi
  · rw [decide_eq_true h3, show (e02 true != 0) = false from rfl, cond_false]
    by_cases h4 : lo < 1
    · rw [cp h4, if_neg (fun h => by have := h.2.2.2.1; omega)]
    rw [cn h4]
    by_cases h5 : hi > 20000
    · rw [cp h5, if_neg (fun h => by have := h.2.2.2.2.1; omega)]
    rw [cn h5, cp ⟨hf, hs⟩, Ms.idx_ge _ _ _ (by omega), any_not]
    by_cases c : st.all Sp.vb = true
    · rw [c, if_pos ⟨by omega, by omega, h3, by omega, by omega, c⟩]
      rfl
    · rw [show st.all Sp.vb = false by simpa using c, if_neg (fun h => c h.2.2.2.2.2)]
      rfl
  · rw [decide_eq_false h3, show (e02 false != 0) = true from rfl, cond_true, if_neg (fun h => h3 h.2.2.1)]
theorem netS_ok (fu : Nat) : SpecOk Try.prog 52 (netS fu) := tab_ok ⟨Try.f52, Try.func52, rfl⟩ fun args d h => by
  split at h
  · obtain ⟨xs, hx, h'⟩ := map_some' h
    cases lst_eq hx
    obtain ⟨h1, rfl⟩ := pair_true h'
    exact says_of (cf3_ok fu) (net_i h1.1 _ h1.2 _ _)
  · cases h
/-- What travel times are asked for. -/
def Ms.tg (fu : Nat) (lo hi : Int) (a b : Int × Int × Int × Int) : Prop := gf fu = true ∧ Sp.vb a = true ∧ Sp.vb b = true ∧ 1 ≤ lo ∧ lo ≤ hi ∧ hi ≤ 20000
instance (fu : Nat) (lo hi : Int) (a b : Int × Int × Int × Int) : Decidable (Ms.tg fu lo hi a b) := by unfold Ms.tg; infer_instance
theorem travel_i {fu : Nat} {lo hi a0 a1 a2 a3 b0 b1 b2 b3 : Int} (h : Ms.tg fu lo hi (a0, a1, a2, a3) (b0, b1, b2, b3)) : (cf3 fu).call 61 0 83 [spD lo hi, bxD a0 a1 a2 a3, bxD b0 b1 b2 b3] [] (fun d σ => some (d, σ)) = some (spD (Sp.trav lo hi (a0, a1, a2, a3) (b0, b1, b2, b3)).1 (Sp.trav lo hi (a0, a1, a2, a3) (b0, b1, b2, b3)).2, []) := by
  obtain ⟨hf, ha, hb, h1, h2, h3⟩ := h
  have D := Sp.dist ha hb
  have d1 := D.lo0
  have d2 := D.lo1
  have d3 := D.hi0
  have d4 := D.hi1
  have B := Sp.trav_bd ha hb h1 h2
  rw [travel_e, cp ⟨hf, ha, hb⟩, cn (by omega), cn (by omega)]
  unfold Sp.trav at *
  dsimp only at *
  generalize Rt.root (Bo.sqLo a0 a1 a2 a3 b0 b1 b2 b3) = x at *
  generalize Rt.rootUp (Bo.sqHi a0 a1 a2 a3 b0 b1 b2 b3) = y at *
  rw [w_id (n := 1000 * x) (by omega) (by omega), w_id (n := 1000 * y) (by omega) (by omega), w_id (n := 1000 * y + lo) (by omega) (by omega), w_id (n := 1000 * y + lo - 1) (by omega) (by omega), tdiv_pos (by omega), tdiv_pos (by omega), Sp.up_cl (by omega), ← Bo.fl_pos (by omega), w_id (by omega) (by omega), w_id (by omega) (by omega)]
theorem travelR_i {fu : Nat} {lo hi a0 a1 a2 a3 b0 b1 b2 b3 : Int} (h : Ms.tg fu lo hi (a0, a1, a2, a3) (b0, b1, b2, b3)) : (cf3 fu).call 61 0 85 [spD lo hi, bxD a0 a1 a2 a3, bxD b0 b1 b2 b3] [] (fun d σ => some (d, σ)) = some (spD (Sp.trav lo hi (a0, a1, a2, a3) (b0, b1, b2, b3)).1 (Sp.trav lo hi (a0, a1, a2, a3) (b0, b1, b2, b3)).2, []) := by
  obtain ⟨hf, ha, hb, h1, h2, h3⟩ := h
  have D := Sp.dist ha hb
  have d1 := D.lo0
  have d2 := D.lo1
  have d3 := D.hi0
  have d4 := D.hi1
  have B := Sp.trav_bd ha hb h1 h2
  rw [travelR_e, cp ⟨hf, ha, hb⟩]
  unfold Sp.trav at *
  dsimp only at *
  generalize Rt.root (Bo.sqLo a0 a1 a2 a3 b0 b1 b2 b3) = x at *
  generalize Rt.rootUp (Bo.sqHi a0 a1 a2 a3 b0 b1 b2 b3) = y at *
  unfold Bo.cl at *
  rw [w_id (n := 1000 * x) (by omega) (by omega), w_id (n := 1000 * y) (by omega) (by omega), show (0 : Int) - 1000 * y = -(1000 * y) by omega, w_id (n := -(1000 * y)) (by omega) (by omega), ca ⟨by omega, by omega⟩, ca ⟨by omega, by omega⟩, show (0 : Int) - Bo.fl (-(1000 * y)) lo = -Bo.fl (-(1000 * y)) lo by omega, w_id (by omega) (by omega)]
def travS (fu : Nat) : List D → (D → Option Res) → Option Res := tabS fun
  | [.agg [.int .i64 lo, .int .i64 hi], .agg [.int .i64 a0, .int .i64 a1, .int .i64 a2, .int .i64 a3], .agg [.int .i64 b0, .int .i64 b1, .int .i64 b2, .int .i64 b3]] => some (decide (Ms.tg fu lo hi (a0, a1, a2, a3) (b0, b1, b2, b3)), .agg [.int .i64 (Sp.trav lo hi (a0, a1, a2, a3) (b0, b1, b2, b3)).1, .int .i64 (Sp.trav lo hi (a0, a1, a2, a3) (b0, b1, b2, b3)).2])
  | _ => none
theorem travS_ok (fu : Nat) : SpecOk Try.prog 83 (travS fu) := tab_ok ⟨Try.f83, Try.func83, rfl⟩ fun args d h => by
  split at h
  · obtain ⟨h1, rfl⟩ := pair_true (Option.some.inj h)
    exact says_of (cf3_ok fu) (travel_i h1)
  · cases h
theorem travRS_ok (fu : Nat) : SpecOk Try.prog 85 (travS fu) := tab_ok ⟨Try.f85, Try.func85, rfl⟩ fun args d h => by
  split at h
  · obtain ⟨h1, rfl⟩ := pair_true (Option.some.inj h)
    exact says_of (cf3_ok fu) (travelR_i h1)
  · cases h
/-- The errors of a net and arrivals. -/
def Ms.arr (st : List (Int × Int × Int × Int)) (lo hi : Int) (at_ : List (Int × Int)) : Int := if Sp.net st lo hi = 0 then (if at_.length = st.length then (if at_.all Sp.inst = true then 0 else 2) else 17) else Sp.net st lo hi
theorem arrR_l {fu : Nat} (st : List (Int × Int × Int × Int)) (lo hi : Int) (at_ : List (Int × Int)) (hl : at_.length ≤ 9223372036854775807) : ∀ n m i : Nat, i + n = at_.length → n < m → arrR_0 fu m at_ (i : Int) st lo hi = some (.int .i64 (if (at_.drop i).all Sp.inst = true then 0 else 2), [])
  | 0, m, i, hi', hm => by
    obtain ⟨m, rfl⟩ : ∃ j, m = j + 1 := ⟨m - 1, by omega⟩
    rw [arrR_0s, cn (by omega), List.drop_eq_nil_of_le (by omega)]
    rfl
  | n + 1, m, i, hi', hm => by
    obtain ⟨m, rfl⟩ : ∃ j, m = j + 1 := ⟨m - 1, by omega⟩
    have hlt : i < at_.length := by omega
    have ih := arrR_l (fu := fu) st lo hi at_ hl n m (i + 1) (by omega) (by omega)
    rw [arrR_0s, cp (by omega), ca ⟨by omega, by omega⟩, getD_nat i hlt, w_succ hlt hl, ih, drop_cons hlt, List.all_cons]
    by_cases c : Sp.inst at_[i] = true
    · have g := Sp.inst_of c
      rw [cp g.1, cp g.2.1, decide_eq_true g.2.2, c, Bool.true_and]
      rfl
    · have g : ¬ (at_[i].1 ≤ at_[i].2 ∧ -1125899906842624 ≤ at_[i].1 ∧ at_[i].2 ≤ 1125899906842624) := fun g => c (decide_eq_true g)
      rw [show Sp.inst at_[i] = false by simpa using c, Bool.false_and]
      by_cases q1 : at_[i].1 ≤ at_[i].2
      · rw [cp q1]
        by_cases q2 : at_[i].1 ≥ -1125899906842624
        · rw [cp q2, decide_eq_false (by omega)]
          rfl
        · rw [cn q2]
          rfl
      · rw [cn q1]
        rfl
theorem arrR_i {fu : Nat} (hf : gf fu = true) (st : List (Int × Int × Int × Int)) (hs : st.length < fu) (lo hi : Int) (at_ : List (Int × Int)) (ha : at_.length < fu) : (cf3 fu).call 61 0 122 [.agg [.sl BxR st .no, .int .i64 lo, .int .i64 hi], .sl SpR at_ .no] [] (fun d σ => some (d, σ)) = some (.int .i64 (Ms.arr st lo hi at_), []) := by
  have g := gf_2 hf
  rw [arrR_e, cp ⟨hf, hs⟩, cp ⟨hf, hs⟩]
  unfold Ms.arr
  by_cases h : Sp.net st lo hi = 0
  · rw [if_pos h, h, show ((0 : Int) != 0) = false from rfl, cond_false]
    by_cases hl : at_.length = st.length
    · have e := arrR_l (fu := fu) st lo hi at_ (by omega) at_.length fu 0 (by omega) (by omega)
      rw [show ((0 : Nat) : Int) = 0 from rfl, List.drop_zero] at e
      rw [if_pos hl, hl, bne_self_eq_false, cond_false, e]
    · rw [if_neg hl, show ((at_.length : Int) != (st.length : Int)) = true by simp; omega, cond_true]
  · rw [if_neg h, show (Sp.net st lo hi != 0) = true by simpa using h, cond_true]
def arrS (fu : Nat) : List D → (D → Option Res) → Option Res := tabS fun
  | [.agg [a, .int .i64 lo, .int .i64 hi], b] => match lst BxR a, lst SpR b with
    | some st, some at_ => some (decide (gf fu = true ∧ st.length < fu ∧ at_.length < fu), .int .i64 (Ms.arr st lo hi at_))
    | _, _ => none
  | _ => none
theorem arrS_ok (fu : Nat) : SpecOk Try.prog 122 (arrS fu) := tab_ok ⟨Try.f122, Try.func122, rfl⟩ fun args d h => by
  split at h
  · split at h
    · rename_i hx hy
      cases lst_eq hx
      cases lst_eq hy
      obtain ⟨h1, rfl⟩ := pair_true (Option.some.inj h)
      exact says_of (cf3_ok fu) (arrR_i h1.1 _ h1.2.1 _ _ _ h1.2.2)
    · cases h
  · cases h
def sp4 : Nat → FuncId → Option (List D → (D → Option Res) → Option Res) := also 52 netS (also 83 travS (also 85 travS (also 122 arrS sp3)))
theorem sp4_ok (fu : Nat) : ∀ f s, sp4 fu f = some s → SpecOk Try.prog f s := also_ok (netS_ok fu) (also_ok (travS_ok fu) (also_ok (travRS_ok fu) (also_ok (arrS_ok fu) (sp3_ok fu))))
noncomputable def cf4 (fu : Nat) : Cfg := cfgS sp4 fu
theorem cf4_ok (fu : Nat) : CfgOk (cf4 fu) := cfgS_ok (sp4_ok fu)
abbrev HrR : Row := .cons (.sl BxR) (.cons (.int .i64) (.cons (.int .i64) (.one (.sl SpR))))
end Go.Proofs.Ytaheamdoldiojaa.P
namespace Go.Proofs.Ytaheamdoldiojaa.P
open Go Go.RowKit Go.Am
set_option maxRecDepth 100000
theorem newHeard_e (fu : Nat) (st : List (Int × Int × Int × Int)) (lo : Int) (hi : Int) (at_ : List (Int × Int)) (b0 : Int) (b1 : Int) (b2 : Int) (b3 : Int) : (cf4 fu).call 61 0 58 [D.agg [D.sl BxR st .no, D.int .i64 lo, D.int .i64 hi], D.sl SpR at_ .no, bxD b0 b1 b2 b3] [] (fun d σ => some (d, σ)) =
  bif decide (gf fu = true ∧ st.length < fu) then
   bif Sp.net st lo hi != 0 then
    some ((D.tup [D.nilp, D.int .i64 (Sp.net st lo hi)], []))
   else
    bif (↑at_.length : Int) != (↑st.length : Int) then
     some ((D.tup [D.nilp, D.int .i64 17], []))
    else
     bif decide (gf fu = true ∧ at_.length < fu) then
      bif decide (Ms.idx (fun b => !Sp.inst b) at_ 0 ≥ 0) then
       some ((D.tup [D.nilp, D.int .i64 2], []))
      else
       bif decide (2 < fu ∧ fu ≤ 100000) then
        bif e02 (Sp.vb (b0, b1, b2, b3)) != 0 then
         some ((D.tup [D.nilp, D.int .i64 2], []))
        else
         some ((D.tup [D.ep HrR (st, lo, hi, at_) 0, D.int .i64 0], []))
       else
        none
     else
      none
  else
   none := by kernel_rfl
theorem hby_e (fu : Nat) (st : List (Int × Int × Int × Int)) (lo : Int) (hi : Int) (at_ : List (Int × Int)) (b0 : Int) (b1 : Int) (b2 : Int) (b3 : Int) (i : Int) : (cf4 fu).call 61 0 108 [D.ep HrR (st, lo, hi, at_) 0, bxD b0 b1 b2 b3, D.int .i64 i] [] (fun d σ => some (d, σ)) =
  bif decide (0 ≤ i) && decide (i < (↑st.length : Int)) then
   bif decide (Ms.tg fu lo hi (b0, b1, b2, b3) (st.getD i.toNat BxR.dflt)) then
    bif decide (0 ≤ i) && decide (i < (↑at_.length : Int)) then
     bif decide (0 ≤ i) && decide (i < (↑at_.length : Int)) then
      some ((D.agg [D.int .i64 (w64 ((at_.getD i.toNat SpR.dflt).fst - (Sp.trav lo hi (b0, b1, b2, b3) (st.getD i.toNat BxR.dflt)).snd)), D.int .i64 (w64 ((at_.getD i.toNat SpR.dflt).snd - (Sp.trav lo hi (b0, b1, b2, b3) (st.getD i.toNat BxR.dflt)).fst))], []))
     else
      none
    else
     none
   else
    none
  else
   none := by kernel_rfl
noncomputable def horg_0 (fu m : Nat) (st : List (Int × Int × Int × Int)) (lo : Int) (hi : Int) (at_ : List (Int × Int)) (y0 : Int) (y3 : Int) (b0 : Int) (b1 : Int) (b2 : Int) (b3 : Int) (y1 : Int) (y2 : Int) : Option Res := (cf4 fu).loop 60 70 [true, true, false, true] [] 3 m ⟨tmOf 43 [(0, D.ep HrR (st, lo, hi, at_) 0), (3, D.ptr 0 0), (4, D.ptr 1 0), (5, D.bool false), (6, D.ptr 2 0), (16, D.int .i64 y0), (17, D.int .i64 y3)], [Ent.box [D.int .i64 b0, D.int .i64 b1, D.int .i64 b2, D.int .i64 b3], Ent.box [D.int .i64 0, D.int .i64 0], Ent.box [D.int .i64 y1, D.int .i64 y2]]⟩
theorem horg_0s (fu m : Nat) (st : List (Int × Int × Int × Int)) (lo : Int) (hi : Int) (at_ : List (Int × Int)) (y0 : Int) (y3 : Int) (b0 : Int) (b1 : Int) (b2 : Int) (b3 : Int) (y1 : Int) (y2 : Int) : horg_0 fu (m + 1) st lo hi at_ y0 y3 b0 b1 b2 b3 y1 y2 =
  bif decide (y3 < y0) then
   bif decide (0 ≤ y3) && decide (y3 < (↑st.length : Int)) then
    bif decide (Ms.tg fu lo hi (b0, b1, b2, b3) (st.getD y3.toNat BxR.dflt)) then
     bif decide (0 ≤ y3) && decide (y3 < (↑at_.length : Int)) then
      bif decide (0 ≤ y3) && decide (y3 < (↑at_.length : Int)) then
       horg_0 fu m st lo hi at_ y0 (w64 (y3 + 1)) b0 b1 b2 b3 (mx y1 (w64 ((at_.getD y3.toNat SpR.dflt).fst - (Sp.trav lo hi (b0, b1, b2, b3) (st.getD y3.toNat BxR.dflt)).snd))) (mn y2 (w64 ((at_.getD y3.toNat SpR.dflt).snd - (Sp.trav lo hi (b0, b1, b2, b3) (st.getD y3.toNat BxR.dflt)).fst)))
      else
       none
     else
      none
    else
     none
   else
    none
  else
   some ((D.tup [D.agg [D.int .i64 y1, D.int .i64 y2], D.bool (decide (y1 ≤ y2))], [])) := by kernel_rfl
theorem horg_e (fu : Nat) (st : List (Int × Int × Int × Int)) (lo : Int) (hi : Int) (at_ : List (Int × Int)) (b0 : Int) (b1 : Int) (b2 : Int) (b3 : Int) : (cf4 fu).call 61 0 70 [D.ep HrR (st, lo, hi, at_) 0, bxD b0 b1 b2 b3] [] (fun d σ => some (d, σ)) =
  bif decide (0 ≤ 0) && decide (0 < (↑st.length : Int)) then
   bif decide (Ms.tg fu lo hi (b0, b1, b2, b3) (st.getD (Int.toNat 0) BxR.dflt)) then
    bif decide (0 ≤ 0) && decide (0 < (↑at_.length : Int)) then
     bif decide (0 ≤ 0) && decide (0 < (↑at_.length : Int)) then
      horg_0 fu fu st lo hi at_ (↑at_.length : Int) 0 b0 b1 b2 b3 (w64 ((at_.getD (Int.toNat 0) SpR.dflt).fst - (Sp.trav lo hi (b0, b1, b2, b3) (st.getD (Int.toNat 0) BxR.dflt)).snd)) (w64 ((at_.getD (Int.toNat 0) SpR.dflt).snd - (Sp.trav lo hi (b0, b1, b2, b3) (st.getD (Int.toNat 0) BxR.dflt)).fst))
     else
      none
    else
     none
   else
    none
  else
   none := by kernel_rfl
theorem boxedR_e (fu : Nat) (st : List (Int × Int × Int × Int)) (lo : Int) (hi : Int) (at_ : List (Int × Int)) (b0 : Int) (b1 : Int) (b2 : Int) (b3 : Int) : (cf4 fu).call 61 0 91 [D.agg [D.sl BxR st .no, D.int .i64 lo, D.int .i64 hi], D.sl SpR at_ .no, bxD b0 b1 b2 b3] [] (fun d σ => some (d, σ)) =
  bif decide (gf fu = true ∧ st.length < fu ∧ at_.length < fu) then
   bif Ms.arr st lo hi at_ != 0 then
    bif decide (gf fu = true ∧ st.length < fu ∧ at_.length < fu) then
     some ((D.int .i64 (Ms.arr st lo hi at_), []))
    else
     none
   else
    bif !Sp.vb (b0, b1, b2, b3) then
     some ((D.int .i64 2, []))
    else
     some ((D.int .i64 0, []))
  else
   none := by kernel_rfl
theorem byR_e (fu : Nat) (st : List (Int × Int × Int × Int)) (lo : Int) (hi : Int) (at_ : List (Int × Int)) (b0 : Int) (b1 : Int) (b2 : Int) (b3 : Int) (i : Int) : (cf4 fu).call 61 0 123 [D.agg [D.sl BxR st .no, D.int .i64 lo, D.int .i64 hi], D.sl SpR at_ .no, bxD b0 b1 b2 b3, D.int .i64 i] [] (fun d σ => some (d, σ)) =
  bif decide (0 ≤ i) && decide (i < (↑st.length : Int)) then
   bif decide (Ms.tg fu lo hi (b0, b1, b2, b3) (st.getD i.toNat BxR.dflt)) then
    bif decide (0 ≤ i) && decide (i < (↑at_.length : Int)) then
     bif decide (0 ≤ i) && decide (i < (↑at_.length : Int)) then
      some ((D.agg [D.int .i64 (w64 ((at_.getD i.toNat SpR.dflt).fst - (Sp.trav lo hi (b0, b1, b2, b3) (st.getD i.toNat BxR.dflt)).snd)), D.int .i64 (w64 ((at_.getD i.toNat SpR.dflt).snd - (Sp.trav lo hi (b0, b1, b2, b3) (st.getD i.toNat BxR.dflt)).fst))], []))
     else
      none
    else
     none
   else
    none
  else
   none := by kernel_rfl
noncomputable def orgR_0 (fu m : Nat) (at_ : List (Int × Int)) (y2 : Int) (st : List (Int × Int × Int × Int)) (lo : Int) (hi : Int) (b0 : Int) (b1 : Int) (b2 : Int) (b3 : Int) (y0 : Int) (y1 : Int) : Option Res := (cf4 fu).loop 60 93 [true, true, false, true] [] 4 m ⟨tmOf 37 [(1, D.sl SpR at_ .no), (3, D.ptr 0 0), (5, D.ptr 1 0), (6, D.ptr 2 0), (7, D.ptr 3 0), (8, D.int .i64 y2)], [Ent.box [D.sl BxR st .no, D.int .i64 lo, D.int .i64 hi], Ent.box [D.int .i64 b0, D.int .i64 b1, D.int .i64 b2, D.int .i64 b3], Ent.box [D.int .i64 0, D.int .i64 0], Ent.box [D.int .i64 y0, D.int .i64 y1]]⟩
theorem orgR_0s (fu m : Nat) (at_ : List (Int × Int)) (y2 : Int) (st : List (Int × Int × Int × Int)) (lo : Int) (hi : Int) (b0 : Int) (b1 : Int) (b2 : Int) (b3 : Int) (y0 : Int) (y1 : Int) : orgR_0 fu (m + 1) at_ y2 st lo hi b0 b1 b2 b3 y0 y1 =
  bif decide (y2 < (↑at_.length : Int)) then
   bif decide (0 ≤ y2) && decide (y2 < (↑st.length : Int)) then
    bif decide (Ms.tg fu lo hi (b0, b1, b2, b3) (st.getD y2.toNat BxR.dflt)) then
     bif decide (0 ≤ y2) && decide (y2 < (↑at_.length : Int)) then
      bif decide (0 ≤ y2) && decide (y2 < (↑at_.length : Int)) then
       orgR_0 fu m at_ (w64 (y2 + 1)) st lo hi b0 b1 b2 b3 (mx y0 (w64 ((at_.getD y2.toNat SpR.dflt).fst - (Sp.trav lo hi (b0, b1, b2, b3) (st.getD y2.toNat BxR.dflt)).snd))) (mn y1 (w64 ((at_.getD y2.toNat SpR.dflt).snd - (Sp.trav lo hi (b0, b1, b2, b3) (st.getD y2.toNat BxR.dflt)).fst)))
      else
       none
     else
      none
    else
     none
   else
    none
  else
   some ((D.agg [D.int .i64 y0, D.int .i64 y1], [])) := by kernel_rfl
theorem orgR_e (fu : Nat) (st : List (Int × Int × Int × Int)) (lo : Int) (hi : Int) (at_ : List (Int × Int)) (b0 : Int) (b1 : Int) (b2 : Int) (b3 : Int) : (cf4 fu).call 61 0 93 [D.agg [D.sl BxR st .no, D.int .i64 lo, D.int .i64 hi], D.sl SpR at_ .no, bxD b0 b1 b2 b3] [] (fun d σ => some (d, σ)) =
  bif decide (0 ≤ 0) && decide (0 < (↑st.length : Int)) then
   bif decide (Ms.tg fu lo hi (b0, b1, b2, b3) (st.getD (Int.toNat 0) BxR.dflt)) then
    bif decide (0 ≤ 0) && decide (0 < (↑at_.length : Int)) then
     bif decide (0 ≤ 0) && decide (0 < (↑at_.length : Int)) then
      orgR_0 fu fu at_ 1 st lo hi b0 b1 b2 b3 (w64 ((at_.getD (Int.toNat 0) SpR.dflt).fst - (Sp.trav lo hi (b0, b1, b2, b3) (st.getD (Int.toNat 0) BxR.dflt)).snd)) (w64 ((at_.getD (Int.toNat 0) SpR.dflt).snd - (Sp.trav lo hi (b0, b1, b2, b3) (st.getD (Int.toNat 0) BxR.dflt)).fst))
     else
      none
    else
     none
   else
    none
  else
   none := by kernel_rfl
theorem travelP_e (fu : Nat) (st : List (Int × Int × Int × Int)) (lo : Int) (hi : Int) (b0 : Int) (b1 : Int) (b2 : Int) (b3 : Int) (i : Int) : (cf4 fu).call 61 0 47 [D.agg [D.sl BxR st .no, D.int .i64 lo, D.int .i64 hi], bxD b0 b1 b2 b3, D.int .i64 i] [] (fun d σ => some (d, σ)) =
  bif decide (gf fu = true ∧ st.length < fu) then
   bif Sp.net st lo hi != 0 then
    some ((D.tup [D.agg [D.int .i64 0, D.int .i64 0], D.int .i64 (Sp.net st lo hi)], []))
   else
    bif decide (2 < fu ∧ fu ≤ 100000) then
     bif e02 (Sp.vb (b0, b1, b2, b3)) != 0 then
      some ((D.tup [D.agg [D.int .i64 0, D.int .i64 0], D.int .i64 2], []))
     else
      bif decide (i < 0) then
       some ((D.tup [D.agg [D.int .i64 0, D.int .i64 0], D.int .i64 3], []))
      else
       bif decide (i ≥ (↑st.length : Int)) then
        some ((D.tup [D.agg [D.int .i64 0, D.int .i64 0], D.int .i64 3], []))
       else
        bif decide (0 ≤ i) && decide (i < (↑st.length : Int)) then
         bif decide (Ms.tg fu lo hi (b0, b1, b2, b3) (st.getD i.toNat BxR.dflt)) then
          some ((D.tup [D.agg [D.int .i64 (Sp.trav lo hi (b0, b1, b2, b3) (st.getD i.toNat BxR.dflt)).fst, D.int .i64 (Sp.trav lo hi (b0, b1, b2, b3) (st.getD i.toNat BxR.dflt)).snd], D.int .i64 0], []))
         else
          none
        else
         none
    else
     none
  else
   none := by kernel_rfl
theorem travelQ_e (fu : Nat) (st : List (Int × Int × Int × Int)) (lo : Int) (hi : Int) (b0 : Int) (b1 : Int) (b2 : Int) (b3 : Int) (i : Int) : (cf4 fu).call 61 0 48 [D.agg [D.sl BxR st .no, D.int .i64 lo, D.int .i64 hi], bxD b0 b1 b2 b3, D.int .i64 i] [] (fun d σ => some (d, σ)) =
  bif decide (gf fu = true ∧ st.length < fu) then
   bif Sp.net st lo hi != 0 then
    bif decide (gf fu = true ∧ st.length < fu) then
     some ((D.tup [D.agg [D.int .i64 0, D.int .i64 0], D.int .i64 (Sp.net st lo hi)], []))
    else
     none
   else
    bif !Sp.vb (b0, b1, b2, b3) then
     some ((D.tup [D.agg [D.int .i64 0, D.int .i64 0], D.int .i64 2], []))
    else
     bif decide (i < 0) then
      some ((D.tup [D.agg [D.int .i64 0, D.int .i64 0], D.int .i64 3], []))
     else
      bif decide (i ≥ (↑st.length : Int)) then
       some ((D.tup [D.agg [D.int .i64 0, D.int .i64 0], D.int .i64 3], []))
      else
       bif decide (0 ≤ i) && decide (i < (↑st.length : Int)) then
        bif decide (Ms.tg fu lo hi (b0, b1, b2, b3) (st.getD i.toNat BxR.dflt)) then
         some ((D.tup [D.agg [D.int .i64 (Sp.trav lo hi (b0, b1, b2, b3) (st.getD i.toNat BxR.dflt)).fst, D.int .i64 (Sp.trav lo hi (b0, b1, b2, b3) (st.getD i.toNat BxR.dflt)).snd], D.int .i64 0], []))
        else
         none
       else
        none
  else
   none := by kernel_rfl
end Go.Proofs.Ytaheamdoldiojaa.P
namespace Go.Proofs.Ytaheamdoldiojaa.P
open Go Go.RowKit Go.Am
/-! ### newHeard, origins, Travel -/
abbrev ntD (st : List (Int × Int × Int × Int)) (lo hi : Int) : D := .agg [.sl BxR st .no, .int .i64 lo, .int .i64 hi]
/-- The first of which it is so. -/
def pickK (k : D → Option Res) : List (Bool × D) → Option Res
  | [] => none
  | (b, d) :: l => bif b then k d else pickK k l
def pickD : List (Bool × D) → Option D
  | [] => none
  | (b, d) :: l => bif b then some d else pickD l
theorem pick_eq (k : D → Option Res) : ∀ l : List (Bool × D), pickK k l = (pickD l).bind k
  | [] => rfl
  | (b, d) :: l => by cases b <;> simp [pickK, pickD, pick_eq k l]
/-- Told by a table, in ways. -/
def tabLS (g : List D → Option (Bool × List (Bool × D))) (args : List D) (k : D → Option Res) : Option Res := match g args with
  | some (b, l) => bif b then pickK k l else none
  | none => none
theorem tabL_ok {f : FuncId} {g : List D → Option (Bool × List (Bool × D))} (hb : ∃ fn, Try.prog.funcs[f]? = some fn ∧ fn.body.isSome = true) (h : ∀ args l d, g args = some (true, l) → pickD l = some d → Says Try.prog f args d) : SpecOk Try.prog f (tabLS g) := by
  refine ⟨hb, fun args k r e => ?_⟩
  unfold tabLS at e
  split at e
  · rename_i b l hg
    obtain ⟨rfl, e⟩ := cond_some e
    rw [pick_eq] at e
    obtain ⟨d, h1, h2⟩ := Option.bind_eq_some_iff.1 e
    exact ⟨d, h2, h args l d hg h1⟩
  · cases e
theorem pairL_true {p : Prop} [Decidable p] {x d : List (Bool × D)} (h : (decide p, x) = (true, d)) : p ∧ x = d := ⟨of_decide_eq_true (congrArg Prod.fst h), congrArg Prod.snd h⟩
/-- A row, as one of another name. -/
def rowC {r s : Row} (h : r = s) (x : r.T) : s.T := h ▸ x
theorem e02_0 {b : Bool} : (e02 b != 0) = !b := by cases b <;> rfl
theorem newHeard_i {fu : Nat} (hf : gf fu = true) (st : List (Int × Int × Int × Int)) (hs : st.length < fu) (lo hi : Int) (at_ : List (Int × Int)) (ha : at_.length < fu) (b0 b1 b2 b3 : Int) : (cf4 fu).call 61 0 58 [ntD st lo hi, .sl SpR at_ .no, bxD b0 b1 b2 b3] [] (fun d σ => some (d, σ)) = some (bif decide (Sp.heard st lo hi at_ (b0, b1, b2, b3) = 0) then .tup [.ep HrR (st, lo, hi, at_) 0, .int .i64 0] else .tup [.nilp, .int .i64 (Sp.heard st lo hi at_ (b0, b1, b2, b3))], []) := by
  have g := gf_2 hf
  rw [newHeard_e, cp ⟨hf, hs⟩]
  unfold Sp.heard
  by_cases h : Sp.net st lo hi = 0
  · rw [if_pos h, h, show ((0 : Int) != 0) = false from rfl, cond_false]
    by_cases hl : at_.length = st.length
    · rw [if_pos hl, hl, bne_self_eq_false, cond_false, cp ⟨hf, by omega⟩, Ms.idx_ge _ _ _ (by omega), any_not]
      by_cases c : at_.all Sp.inst = true
      · rw [c, show (!true) = false from rfl, cond_false, cp ⟨by omega, g.2⟩, e02_0]
        by_cases hb : Sp.vb (b0, b1, b2, b3) = true
        · rw [hb, if_pos ⟨rfl, rfl⟩]
          rfl
        · have hb' : Sp.vb (b0, b1, b2, b3) = false := by simpa using hb
          rw [hb', if_neg (by simp)]
          rfl
      · have c' : at_.all Sp.inst = false := by simpa using c
        rw [c', if_neg (by simp)]
        rfl
    · rw [if_neg hl, show ((at_.length : Int) != (st.length : Int)) = true by simp; omega, cond_true]
      rfl
  · rw [if_neg h, show (Sp.net st lo hi != 0) = true by simpa using h, cond_true, cn h]
theorem heard_cases (st : List (Int × Int × Int × Int)) (lo hi : Int) (at_ : List (Int × Int)) (b : Int × Int × Int × Int) : Sp.heard st lo hi at_ b = 0 ∨ Sp.heard st lo hi at_ b = 17 ∨ Sp.heard st lo hi at_ b = 2 := by
  unfold Sp.heard Sp.net
  repeat' split
  all_goals first | exact .inl rfl | exact .inr (.inl rfl) | exact .inr (.inr rfl) | contradiction
theorem heard_pick {x : Int} {d0 d : D} (h : x = 0 ∨ x = 17 ∨ x = 2) (hd : pickD [(decide (x = 0), d0), (decide (x = 17), .tup [.nilp, .int .i64 17]), (decide (x = 2), .tup [.nilp, .int .i64 2])] = some d) : (bif decide (x = 0) then d0 else .tup [.nilp, .int .i64 x]) = d := by
  rcases h with rfl | rfl | rfl <;> exact Option.some.inj hd
def newHeardS (fu : Nat) : List D → (D → Option Res) → Option Res := tabLS fun
  | [.agg [a, .int .i64 lo, .int .i64 hi], b, .agg [.int .i64 b0, .int .i64 b1, .int .i64 b2, .int .i64 b3]] => match lst BxR a, lst SpR b with
    | some st, some at_ => some (decide (gf fu = true ∧ st.length < fu ∧ at_.length < fu), [(decide (Sp.heard st lo hi at_ (b0, b1, b2, b3) = 0), .tup [.ep HrR (st, lo, hi, at_) 0, .int .i64 0]), (decide (Sp.heard st lo hi at_ (b0, b1, b2, b3) = 17), .tup [.nilp, .int .i64 17]), (decide (Sp.heard st lo hi at_ (b0, b1, b2, b3) = 2), .tup [.nilp, .int .i64 2])])
    | _, _ => none
  | _ => none
theorem newHeardS_ok (fu : Nat) : SpecOk Try.prog 58 (newHeardS fu) := tabL_ok ⟨Try.f58, Try.func58, rfl⟩ fun args l d h hd => by
  split at h
  · split at h
    · rename_i hx hy
      cases lst_eq hx
      cases lst_eq hy
      obtain ⟨h1, rfl⟩ := pairL_true (Option.some.inj h)
      exact says_of (cf4_ok fu) ((newHeard_i h1.1 _ h1.2.1 _ _ _ h1.2.2 _ _ _ _).trans (by rw [heard_pick (heard_cases _ _ _ _ _) hd]))
    · cases h
  · cases h
theorem boxedR_i {fu : Nat} (hf : gf fu = true) (st : List (Int × Int × Int × Int)) (hs : st.length < fu) (lo hi : Int) (at_ : List (Int × Int)) (ha : at_.length < fu) (b0 b1 b2 b3 : Int) : (cf4 fu).call 61 0 91 [ntD st lo hi, .sl SpR at_ .no, bxD b0 b1 b2 b3] [] (fun d σ => some (d, σ)) = some (.int .i64 (Sp.heard st lo hi at_ (b0, b1, b2, b3)), []) := by
  rw [boxedR_e, cp ⟨hf, hs, ha⟩, cp ⟨hf, hs, ha⟩]
  unfold Ms.arr Sp.heard
  by_cases h : Sp.net st lo hi = 0
  · rw [if_pos h, if_pos h]
    by_cases hl : at_.length = st.length
    · rw [if_pos hl, if_pos hl]
      by_cases c : at_.all Sp.inst = true
      · rw [if_pos c]
        by_cases hb : Sp.vb (b0, b1, b2, b3) = true
        · rw [hb, if_pos ⟨c, rfl⟩]
          rfl
        · have hb' : Sp.vb (b0, b1, b2, b3) = false := by simpa using hb
          rw [hb', if_neg (by simp)]
          rfl
      · rw [if_neg c, if_neg (fun q => c q.1)]
        rfl
    · rw [if_neg hl, if_neg hl]
      rfl
  · rw [if_neg h, if_neg h, show (Sp.net st lo hi != 0) = true by simpa using h, cond_true]
def boxedS (fu : Nat) : List D → (D → Option Res) → Option Res := tabS fun
  | [.agg [a, .int .i64 lo, .int .i64 hi], b, .agg [.int .i64 b0, .int .i64 b1, .int .i64 b2, .int .i64 b3]] => match lst BxR a, lst SpR b with
    | some st, some at_ => some (decide (gf fu = true ∧ st.length < fu ∧ at_.length < fu), .int .i64 (Sp.heard st lo hi at_ (b0, b1, b2, b3)))
    | _, _ => none
  | _ => none
theorem boxedS_ok (fu : Nat) : SpecOk Try.prog 91 (boxedS fu) := tab_ok ⟨Try.f91, Try.func91, rfl⟩ fun args d h => by
  split at h
  · split at h
    · rename_i hx hy
      cases lst_eq hx
      cases lst_eq hy
      obtain ⟨h1, rfl⟩ := pair_true (Option.some.inj h)
      exact says_of (cf4_ok fu) (boxedR_i h1.1 _ h1.2.1 _ _ _ h1.2.2 _ _ _ _)
    · cases h
  · cases h
/-- What origins by a station are asked for. -/
def Ms.hg (fu : Nat) (st : List (Int × Int × Int × Int)) (lo hi : Int) (at_ : List (Int × Int)) (b : Int × Int × Int × Int) : Prop := gf fu = true ∧ Sp.heard st lo hi at_ b = 0
instance (fu : Nat) (st : List (Int × Int × Int × Int)) (lo hi : Int) (at_ : List (Int × Int)) (b : Int × Int × Int × Int) : Decidable (Ms.hg fu st lo hi at_ b) := by unfold Ms.hg; infer_instance
/-- One origin, as both texts compute it. -/
theorem by_core {fu : Nat} {st : List (Int × Int × Int × Int)} {lo hi : Int} {at_ : List (Int × Int)} {b0 b1 b2 b3 : Int} (h : Ms.hg fu st lo hi at_ (b0, b1, b2, b3)) (i : Nat) (hi' : i < st.length) : Ms.tg fu lo hi (b0, b1, b2, b3) st[i] ∧ ∃ hia : i < at_.length, (w64 (at_[i].1 - (Sp.trav lo hi (b0, b1, b2, b3) st[i]).2) = (Sp.by_ st lo hi at_ (b0, b1, b2, b3) i).1 ∧ w64 (at_[i].2 - (Sp.trav lo hi (b0, b1, b2, b3) st[i]).1) = (Sp.by_ st lo hi at_ (b0, b1, b2, b3) i).2) := by
  obtain ⟨A, hb⟩ := Sp.heard_ok h.2
  have hs := Sp.all_get A.vb i hi'
  have hia : i < at_.length := by rw [A.len]; exact hi'
  have ha := Sp.inst_of (List.all_eq_true.1 A.inst _ (List.getElem_mem hia))
  have B := Sp.trav_bd hb hs A.lo1 A.lh
  have e1 : st.getD i (0, 0, 0, 0) = st[i] := by simp [List.getD, hi']
  have e2 : at_.getD i (0, 0) = at_[i] := by simp [List.getD, hia]
  refine ⟨⟨h.1, hb, hs, A.lo1, A.lh, A.hi2⟩, hia, ?_⟩
  unfold Sp.by_ Sp.by1
  rw [e1, e2, w_id (by omega) (by omega), w_id (by omega) (by omega)]
  exact ⟨rfl, rfl⟩
theorem hby_i {fu : Nat} {st : List (Int × Int × Int × Int)} {lo hi : Int} {at_ : List (Int × Int)} {b0 b1 b2 b3 : Int} (h : Ms.hg fu st lo hi at_ (b0, b1, b2, b3)) (i : Nat) (hi' : i < st.length) : (cf4 fu).call 61 0 108 [.ep HrR (st, lo, hi, at_) 0, bxD b0 b1 b2 b3, .int .i64 (i : Int)] [] (fun d σ => some (d, σ)) = some (spD (Sp.by_ st lo hi at_ (b0, b1, b2, b3) i).1 (Sp.by_ st lo hi at_ (b0, b1, b2, b3) i).2, []) := by
  obtain ⟨t, hia, e1, e2⟩ := by_core h i hi'
  rw [hby_e, ca ⟨by omega, by omega⟩, getD_nat i hi', cp t, ca ⟨by omega, by omega⟩, ca ⟨by omega, by omega⟩, getD_nat i hia, e1, e2]
theorem byR_i {fu : Nat} {st : List (Int × Int × Int × Int)} {lo hi : Int} {at_ : List (Int × Int)} {b0 b1 b2 b3 : Int} (h : Ms.hg fu st lo hi at_ (b0, b1, b2, b3)) (i : Nat) (hi' : i < st.length) : (cf4 fu).call 61 0 123 [ntD st lo hi, .sl SpR at_ .no, bxD b0 b1 b2 b3, .int .i64 (i : Int)] [] (fun d σ => some (d, σ)) = some (spD (Sp.by_ st lo hi at_ (b0, b1, b2, b3) i).1 (Sp.by_ st lo hi at_ (b0, b1, b2, b3) i).2, []) := by
  obtain ⟨t, hia, e1, e2⟩ := by_core h i hi'
  rw [byR_e, ca ⟨by omega, by omega⟩, getD_nat i hi', cp t, ca ⟨by omega, by omega⟩, ca ⟨by omega, by omega⟩, getD_nat i hia, e1, e2]
theorem horg_l {fu : Nat} {st : List (Int × Int × Int × Int)} {lo hi : Int} {at_ : List (Int × Int)} {b0 b1 b2 b3 : Int} (h : Ms.hg fu st lo hi at_ (b0, b1, b2, b3)) : ∀ n m i : Nat, i + n = st.length → n < m → horg_0 fu m st lo hi at_ (at_.length : Int) (i : Int) b0 b1 b2 b3 (Sp.oLo (Sp.by_ st lo hi at_ (b0, b1, b2, b3)) i) (Sp.oHi (Sp.by_ st lo hi at_ (b0, b1, b2, b3)) i) = some (.tup [spD (Sp.org st lo hi at_ (b0, b1, b2, b3)).1 (Sp.org st lo hi at_ (b0, b1, b2, b3)).2, .bool (decide ((Sp.org st lo hi at_ (b0, b1, b2, b3)).1 ≤ (Sp.org st lo hi at_ (b0, b1, b2, b3)).2))], [])
  | 0, m, i, hi', hm => by
    obtain ⟨m, rfl⟩ : ∃ j, m = j + 1 := ⟨m - 1, by omega⟩
    have A := (Sp.heard_ok h.2).1
    have hl := A.len
    obtain rfl : i = st.length := by omega
    rw [horg_0s, cn (by omega)]
    rfl
  | n + 1, m, i, hi', hm => by
    obtain ⟨m, rfl⟩ : ∃ j, m = j + 1 := ⟨m - 1, by omega⟩
    have A := (Sp.heard_ok h.2).1
    have hl := A.len
    have n8 := A.n8
    have hlt : i < st.length := by omega
    have ih := horg_l h n m (i + 1) (by omega) (by omega)
    obtain ⟨t, hia, e1, e2⟩ := by_core h i hlt
    rw [horg_0s, cp (by omega), ca ⟨by omega, by omega⟩, getD_nat i hlt, cp t, ca ⟨by omega, by omega⟩, ca ⟨by omega, by omega⟩, getD_nat i hia, e1, e2, w_succ hlt (by omega), Bo.mxE, Bo.mnE]
    exact ih
theorem horg_i {fu : Nat} {st : List (Int × Int × Int × Int)} {lo hi : Int} {at_ : List (Int × Int)} {b0 b1 b2 b3 : Int} (h : Ms.hg fu st lo hi at_ (b0, b1, b2, b3)) : (cf4 fu).call 61 0 70 [.ep HrR (st, lo, hi, at_) 0, bxD b0 b1 b2 b3] [] (fun d σ => some (d, σ)) = some (.tup [spD (Sp.org st lo hi at_ (b0, b1, b2, b3)).1 (Sp.org st lo hi at_ (b0, b1, b2, b3)).2, .bool (decide ((Sp.org st lo hi at_ (b0, b1, b2, b3)).1 ≤ (Sp.org st lo hi at_ (b0, b1, b2, b3)).2))], []) := by
  have A := (Sp.heard_ok h.2).1
  have hl := A.len
  have n2 := A.n2
  have n8 := A.n8
  have g := gf_2 h.1
  obtain ⟨t, hia, e1, e2⟩ := by_core h 0 (by omega)
  have z : ∀ {α : Type} {xs : List α} {d : α} (h : 0 < xs.length), xs.getD (Int.toNat 0) d = xs[0] := fun h => getD_nat 0 h
  rw [horg_e, ca ⟨by omega, by omega⟩, z (by omega), cp t, ca ⟨by omega, by omega⟩, ca ⟨by omega, by omega⟩, z hia, e1, e2]
  exact horg_l h st.length fu 0 (by omega) (by omega)
theorem orgR_l {fu : Nat} {st : List (Int × Int × Int × Int)} {lo hi : Int} {at_ : List (Int × Int)} {b0 b1 b2 b3 : Int} (h : Ms.hg fu st lo hi at_ (b0, b1, b2, b3)) : ∀ n m i : Nat, i + n = st.length → n < m → orgR_0 fu m at_ (i : Int) st lo hi b0 b1 b2 b3 (Sp.oLo (Sp.by_ st lo hi at_ (b0, b1, b2, b3)) i) (Sp.oHi (Sp.by_ st lo hi at_ (b0, b1, b2, b3)) i) = some (spD (Sp.org st lo hi at_ (b0, b1, b2, b3)).1 (Sp.org st lo hi at_ (b0, b1, b2, b3)).2, [])
  | 0, m, i, hi', hm => by
    obtain ⟨m, rfl⟩ : ∃ j, m = j + 1 := ⟨m - 1, by omega⟩
    have A := (Sp.heard_ok h.2).1
    have hl := A.len
    obtain rfl : i = st.length := by omega
    rw [orgR_0s, cn (by omega)]
    rfl
  | n + 1, m, i, hi', hm => by
    obtain ⟨m, rfl⟩ : ∃ j, m = j + 1 := ⟨m - 1, by omega⟩
    have A := (Sp.heard_ok h.2).1
    have hl := A.len
    have n8 := A.n8
    have hlt : i < st.length := by omega
    have ih := orgR_l h n m (i + 1) (by omega) (by omega)
    obtain ⟨t, hia, e1, e2⟩ := by_core h i hlt
    rw [orgR_0s, cp (by omega), ca ⟨by omega, by omega⟩, getD_nat i hlt, cp t, ca ⟨by omega, by omega⟩, ca ⟨by omega, by omega⟩, getD_nat i hia, e1, e2, w_succ hlt (by omega), Bo.mxE, Bo.mnE]
    exact ih
theorem orgR_i {fu : Nat} {st : List (Int × Int × Int × Int)} {lo hi : Int} {at_ : List (Int × Int)} {b0 b1 b2 b3 : Int} (h : Ms.hg fu st lo hi at_ (b0, b1, b2, b3)) : (cf4 fu).call 61 0 93 [ntD st lo hi, .sl SpR at_ .no, bxD b0 b1 b2 b3] [] (fun d σ => some (d, σ)) = some (spD (Sp.org st lo hi at_ (b0, b1, b2, b3)).1 (Sp.org st lo hi at_ (b0, b1, b2, b3)).2, []) := by
  have A := (Sp.heard_ok h.2).1
  have hl := A.len
  have n2 := A.n2
  have n8 := A.n8
  have g := gf_2 h.1
  obtain ⟨t, hia, e1, e2⟩ := by_core h 0 (by omega)
  have z : ∀ {α : Type} {xs : List α} {d : α} (h : 0 < xs.length), xs.getD (Int.toNat 0) d = xs[0] := fun h => getD_nat 0 h
  rw [orgR_e, ca ⟨by omega, by omega⟩, z (by omega), cp t, ca ⟨by omega, by omega⟩, ca ⟨by omega, by omega⟩, z hia, e1, e2]
  have q := orgR_l h (st.length - 1) fu 1 (by omega) (by omega)
  have l1 : Sp.oLo (Sp.by_ st lo hi at_ (b0, b1, b2, b3)) 1 = (Sp.by_ st lo hi at_ (b0, b1, b2, b3) 0).1 := by
    show max _ _ = _
    exact Int.max_self _
  have l2 : Sp.oHi (Sp.by_ st lo hi at_ (b0, b1, b2, b3)) 1 = (Sp.by_ st lo hi at_ (b0, b1, b2, b3) 0).2 := by
    show min _ _ = _
    exact Int.min_self _
  rw [l1, l2] at q
  exact q
/-- A pointer to what newHeard returns, and a box. -/
def hbyS (fu : Nat) : List D → (D → Option Res) → Option Res := tabS fun
  | [.ep r x 0, .agg [.int .i64 b0, .int .i64 b1, .int .i64 b2, .int .i64 b3], .int .i64 i] => match Row.dec r HrR with
    | .isTrue e => let y : HrR.T := rowC e x; some (decide (Ms.hg fu y.1 y.2.1 y.2.2.1 y.2.2.2 (b0, b1, b2, b3) ∧ 0 ≤ i ∧ i < (y.1.length : Int)), spD (Sp.by_ y.1 y.2.1 y.2.2.1 y.2.2.2 (b0, b1, b2, b3) i.toNat).1 (Sp.by_ y.1 y.2.1 y.2.2.1 y.2.2.2 (b0, b1, b2, b3) i.toNat).2)
    | .isFalse _ => none
  | _ => none
theorem hbyS_ok (fu : Nat) : SpecOk Try.prog 108 (hbyS fu) := tab_ok ⟨Try.f108, Try.func108, rfl⟩ fun args d h => by
  split at h
  · split at h
    · rename_i e _
      subst e
      obtain ⟨⟨h1, h2, h3⟩, rfl⟩ := pair_true (Option.some.inj h)
      rename_i i x _ _
      obtain ⟨j, rfl⟩ : ∃ j : Nat, i = (j : Int) := ⟨i.toNat, by omega⟩
      exact says_of (cf4_ok fu) (hby_i h1 j (by simpa using h3))
    · cases h
  · cases h
def horgS (fu : Nat) : List D → (D → Option Res) → Option Res := tabS fun
  | [.ep r x 0, .agg [.int .i64 b0, .int .i64 b1, .int .i64 b2, .int .i64 b3]] => match Row.dec r HrR with
    | .isTrue e => let y : HrR.T := rowC e x; some (decide (Ms.hg fu y.1 y.2.1 y.2.2.1 y.2.2.2 (b0, b1, b2, b3)), .tup [spD (Sp.org y.1 y.2.1 y.2.2.1 y.2.2.2 (b0, b1, b2, b3)).1 (Sp.org y.1 y.2.1 y.2.2.1 y.2.2.2 (b0, b1, b2, b3)).2, .bool (decide ((Sp.org y.1 y.2.1 y.2.2.1 y.2.2.2 (b0, b1, b2, b3)).1 ≤ (Sp.org y.1 y.2.1 y.2.2.1 y.2.2.2 (b0, b1, b2, b3)).2))])
    | .isFalse _ => none
  | _ => none
theorem horgS_ok (fu : Nat) : SpecOk Try.prog 70 (horgS fu) := tab_ok ⟨Try.f70, Try.func70, rfl⟩ fun args d h => by
  split at h
  · split at h
    · rename_i e _
      subst e
      obtain ⟨h1, rfl⟩ := pair_true (Option.some.inj h)
      exact says_of (cf4_ok fu) (horg_i h1)
    · cases h
  · cases h
def byS (fu : Nat) : List D → (D → Option Res) → Option Res := tabS fun
  | [.agg [a, .int .i64 lo, .int .i64 hi], b, .agg [.int .i64 b0, .int .i64 b1, .int .i64 b2, .int .i64 b3], .int .i64 i] => match lst BxR a, lst SpR b with
    | some st, some at_ => some (decide (Ms.hg fu st lo hi at_ (b0, b1, b2, b3) ∧ 0 ≤ i ∧ i < (st.length : Int)), spD (Sp.by_ st lo hi at_ (b0, b1, b2, b3) i.toNat).1 (Sp.by_ st lo hi at_ (b0, b1, b2, b3) i.toNat).2)
    | _, _ => none
  | _ => none
theorem byS_ok (fu : Nat) : SpecOk Try.prog 123 (byS fu) := tab_ok ⟨Try.f123, Try.func123, rfl⟩ fun args d h => by
  split at h
  · split at h
    · rename_i i _ _ st at_ hx hy
      cases lst_eq hx
      cases lst_eq hy
      obtain ⟨⟨h1, h2, h3⟩, rfl⟩ := pair_true (Option.some.inj h)
      obtain ⟨j, rfl⟩ : ∃ j : Nat, i = (j : Int) := ⟨i.toNat, by omega⟩
      exact says_of (cf4_ok fu) (byR_i h1 j (by simpa using h3))
    · cases h
  · cases h
def orgS (fu : Nat) : List D → (D → Option Res) → Option Res := tabS fun
  | [.agg [a, .int .i64 lo, .int .i64 hi], b, .agg [.int .i64 b0, .int .i64 b1, .int .i64 b2, .int .i64 b3]] => match lst BxR a, lst SpR b with
    | some st, some at_ => some (decide (Ms.hg fu st lo hi at_ (b0, b1, b2, b3)), spD (Sp.org st lo hi at_ (b0, b1, b2, b3)).1 (Sp.org st lo hi at_ (b0, b1, b2, b3)).2)
    | _, _ => none
  | _ => none
theorem orgS_ok (fu : Nat) : SpecOk Try.prog 93 (orgS fu) := tab_ok ⟨Try.f93, Try.func93, rfl⟩ fun args d h => by
  split at h
  · split at h
    · rename_i hx hy
      cases lst_eq hx
      cases lst_eq hy
      obtain ⟨h1, rfl⟩ := pair_true (Option.some.inj h)
      exact says_of (cf4_ok fu) (orgR_i h1)
    · cases h
  · cases h
/-- Travel, as it is told. -/
abbrev t3D (t : Int × Int × Int) : D := .tup [spD t.1 t.2.1, .int .i64 t.2.2]
theorem travelP_i {fu : Nat} (hf : gf fu = true) (st : List (Int × Int × Int × Int)) (hs : st.length < fu) (lo hi b0 b1 b2 b3 i : Int) : (cf4 fu).call 61 0 47 [ntD st lo hi, bxD b0 b1 b2 b3, .int .i64 i] [] (fun d σ => some (d, σ)) = some (t3D (Sp.travel st lo hi (b0, b1, b2, b3) i), []) := by
  have g := gf_2 hf
  rw [travelP_e, cp ⟨hf, hs⟩]
  unfold Sp.travel
  by_cases h : Sp.net st lo hi = 0
  · obtain ⟨g1, g2, g3, g4, g5, g6⟩ := Sp.net_ok h
    rw [if_pos h, h, show ((0 : Int) != 0) = false from rfl, cond_false, cp ⟨by omega, g.2⟩, e02_0]
    by_cases hb : Sp.vb (b0, b1, b2, b3) = true
    · rw [if_pos hb, hb, show (!true) = false from rfl, cond_false]
      by_cases h1 : i < 0
      · rw [cp h1, dif_neg (by omega)]
      rw [cn h1]
      by_cases h2 : i ≥ (st.length : Int)
      · rw [cp h2, dif_neg (by omega)]
      rw [cn h2, ca ⟨by omega, by omega⟩, dif_pos ⟨by omega, by omega⟩]
      obtain ⟨j, rfl⟩ : ∃ j : Nat, i = (j : Int) := ⟨i.toNat, by omega⟩
      have hj : j < st.length := by omega
      rw [getD_nat j hj, cp ⟨hf, hb, Sp.all_get g6 j hj, g4, g3.1, g5⟩]
      rfl
    · have hb' : Sp.vb (b0, b1, b2, b3) = false := by simpa using hb
      rw [if_neg hb, hb']
      rfl
  · rw [if_neg h, show (Sp.net st lo hi != 0) = true by simpa using h, cond_true]
theorem travelQ_i {fu : Nat} (hf : gf fu = true) (st : List (Int × Int × Int × Int)) (hs : st.length < fu) (lo hi b0 b1 b2 b3 i : Int) : (cf4 fu).call 61 0 48 [ntD st lo hi, bxD b0 b1 b2 b3, .int .i64 i] [] (fun d σ => some (d, σ)) = some (t3D (Sp.travel st lo hi (b0, b1, b2, b3) i), []) := by
  rw [travelQ_e, cp ⟨hf, hs⟩, cp ⟨hf, hs⟩]
  unfold Sp.travel
  by_cases h : Sp.net st lo hi = 0
  · obtain ⟨g1, g2, g3, g4, g5, g6⟩ := Sp.net_ok h
    rw [if_pos h, h, show ((0 : Int) != 0) = false from rfl, cond_false]
    by_cases hb : Sp.vb (b0, b1, b2, b3) = true
    · rw [if_pos hb, hb, show (!true) = false from rfl, cond_false]
      by_cases h1 : i < 0
      · rw [cp h1, dif_neg (by omega)]
      rw [cn h1]
      by_cases h2 : i ≥ (st.length : Int)
      · rw [cp h2, dif_neg (by omega)]
      rw [cn h2, ca ⟨by omega, by omega⟩, dif_pos ⟨by omega, by omega⟩]
      obtain ⟨j, rfl⟩ : ∃ j : Nat, i = (j : Int) := ⟨i.toNat, by omega⟩
      have hj : j < st.length := by omega
      rw [getD_nat j hj, cp ⟨hf, hb, Sp.all_get g6 j hj, g4, g3.1, g5⟩]
      rfl
    · have hb' : Sp.vb (b0, b1, b2, b3) = false := by simpa using hb
      rw [if_neg hb, hb']
      rfl
  · rw [if_neg h, show (Sp.net st lo hi != 0) = true by simpa using h, cond_true]
def travelS (fu : Nat) : List D → (D → Option Res) → Option Res := tabS fun
  | [.agg [a, .int .i64 lo, .int .i64 hi], .agg [.int .i64 b0, .int .i64 b1, .int .i64 b2, .int .i64 b3], .int .i64 i] => (lst BxR a).map fun st => (decide (gf fu = true ∧ st.length < fu), t3D (Sp.travel st lo hi (b0, b1, b2, b3) i))
  | _ => none
theorem travelPS_ok (fu : Nat) : SpecOk Try.prog 47 (travelS fu) := tab_ok ⟨Try.f47, Try.func47, rfl⟩ fun args d h => by
  split at h
  · obtain ⟨xs, hx, h'⟩ := map_some' h
    cases lst_eq hx
    obtain ⟨h1, rfl⟩ := pair_true h'
    exact says_of (cf4_ok fu) (travelP_i h1.1 _ h1.2 _ _ _ _ _ _ _)
  · cases h
theorem travelQS_ok (fu : Nat) : SpecOk Try.prog 48 (travelS fu) := tab_ok ⟨Try.f48, Try.func48, rfl⟩ fun args d h => by
  split at h
  · obtain ⟨xs, hx, h'⟩ := map_some' h
    cases lst_eq hx
    obtain ⟨h1, rfl⟩ := pair_true h'
    exact says_of (cf4_ok fu) (travelQ_i h1.1 _ h1.2 _ _ _ _ _ _ _)
  · cases h
def sp5 : Nat → FuncId → Option (List D → (D → Option Res) → Option Res) := also 58 newHeardS (also 91 boxedS (also 108 hbyS (also 70 horgS (also 123 byS (also 93 orgS (also 47 travelS (also 48 travelS sp4)))))))
theorem sp5_ok (fu : Nat) : ∀ f s, sp5 fu f = some s → SpecOk Try.prog f s := also_ok (newHeardS_ok fu) (also_ok (boxedS_ok fu) (also_ok (hbyS_ok fu) (also_ok (horgS_ok fu) (also_ok (byS_ok fu) (also_ok (orgS_ok fu) (also_ok (travelPS_ok fu) (also_ok (travelQS_ok fu) (sp4_ok fu))))))))
noncomputable def cf5 (fu : Nat) : Cfg := cfgS sp5 fu
theorem cf5_ok (fu : Nat) : CfgOk (cf5 fu) := cfgS_ok (sp5_ok fu)
end Go.Proofs.Ytaheamdoldiojaa.P
namespace Go.Proofs.Ytaheamdoldiojaa.P
open Go Go.RowKit Go.Am
set_option maxRecDepth 100000
theorem originP_e (fu : Nat) (st : List (Int × Int × Int × Int)) (lo : Int) (hi : Int) (at_ : List (Int × Int)) (b0 : Int) (b1 : Int) (b2 : Int) (b3 : Int) : (cf5 fu).call 61 0 28 [ntD st lo hi, D.sl SpR at_ .no, bxD b0 b1 b2 b3] [] (fun d σ => some (d, σ)) =
  bif decide (gf fu = true ∧ st.length < fu ∧ at_.length < fu) then
   bif decide (Sp.heard st lo hi at_ (b0, b1, b2, b3) = 0) then
    bif decide (Ms.hg fu st lo hi at_ (b0, b1, b2, b3)) then
     bif !decide ((Sp.org st lo hi at_ (b0, b1, b2, b3)).fst ≤ (Sp.org st lo hi at_ (b0, b1, b2, b3)).snd) then
      some ((D.tup [D.agg [D.int .i64 0, D.int .i64 0], D.int .i64 5], []))
     else
      some ((D.tup [D.agg [D.int .i64 (Sp.org st lo hi at_ (b0, b1, b2, b3)).fst, D.int .i64 (Sp.org st lo hi at_ (b0, b1, b2, b3)).snd], D.int .i64 0], []))
    else
     none
   else
    bif decide (Sp.heard st lo hi at_ (b0, b1, b2, b3) = 17) then
     some ((D.tup [D.agg [D.int .i64 0, D.int .i64 0], D.int .i64 17], []))
    else
     bif decide (Sp.heard st lo hi at_ (b0, b1, b2, b3) = 2) then
      some ((D.tup [D.agg [D.int .i64 0, D.int .i64 0], D.int .i64 2], []))
     else
      none
  else
   none := by kernel_rfl
noncomputable def exclP_0 (fu m : Nat) (l0 : List (Int × Int × Int × Int)) (lo : Int) (hi : Int) (l1 : List (Int × Int)) (y2 : Int) (y3 : Int) (st : List (Int × Int × Int × Int)) (b0 : Int) (b1 : Int) (b2 : Int) (b3 : Int) : Option Res := (cf5 fu).loop 60 40 [true, true, true, false, true] [] 2 m ⟨tmOf 41 [(5, D.ptr 1 0), (6, D.int .i64 0), (7, D.int .i64 0), (8, D.int .i64 0), (9, D.ep HrR (l0, lo, hi, l1) 0), (24, D.int .i64 y2), (25, D.int .i64 y3)], [Ent.box [D.sl BxR st .no, D.int .i64 lo, D.int .i64 hi], Ent.box [D.int .i64 b0, D.int .i64 b1, D.int .i64 b2, D.int .i64 b3]]⟩
noncomputable def exclP_2 (fu m0 m : Nat) (l0 : List (Int × Int × Int × Int)) (lo : Int) (hi : Int) (l1 : List (Int × Int)) (y4 : Int) (y2 : Int) (y5 : Int) (y6 : Int) (y7 : Int) (st : List (Int × Int × Int × Int)) (b0 : Int) (b1 : Int) (b2 : Int) (b3 : Int) : Option Res := (cf5 fu).loop 60 40 [true, true, true, false, true, true, true, true, false, true, true] [(2, m0)] 2 m ⟨tmOf 41 [(5, D.ptr 1 0), (6, D.int .i64 0), (7, D.int .i64 0), (8, D.int .i64 0), (9, D.ep HrR (l0, lo, hi, l1) 0), (11, D.int .i64 y4), (24, D.int .i64 y2), (25, D.int .i64 y5), (28, D.int .i64 y6), (29, D.int .i64 y7)], [Ent.box [D.sl BxR st .no, D.int .i64 lo, D.int .i64 hi], Ent.box [D.int .i64 b0, D.int .i64 b1, D.int .i64 b2, D.int .i64 b3]]⟩
theorem exclP_0s (fu m : Nat) (l0 : List (Int × Int × Int × Int)) (lo : Int) (hi : Int) (l1 : List (Int × Int)) (y2 : Int) (y3 : Int) (st : List (Int × Int × Int × Int)) (b0 : Int) (b1 : Int) (b2 : Int) (b3 : Int) : exclP_0 fu (m + 1) l0 lo hi l1 y2 y3 st b0 b1 b2 b3 =
  bif decide (y3 < y2) then
   exclP_2 fu m fu l0 lo hi l1 y3 y2 y3 y3 0 st b0 b1 b2 b3
  else
   some ((D.tup [D.int .i64 0, D.int .i64 0, D.int .i64 5], [])) := by kernel_rfl
theorem exclP_2s (fu m0 m : Nat) (l0 : List (Int × Int × Int × Int)) (lo : Int) (hi : Int) (l1 : List (Int × Int)) (y4 : Int) (y2 : Int) (y5 : Int) (y6 : Int) (y7 : Int) (st : List (Int × Int × Int × Int)) (b0 : Int) (b1 : Int) (b2 : Int) (b3 : Int) : exclP_2 fu m0 (m + 1) l0 lo hi l1 y4 y2 y5 y6 y7 st b0 b1 b2 b3 =
  bif decide (y7 < y6) then
   bif decide (Ms.hg fu l0 lo hi l1 (b0, b1, b2, b3) ∧ 0 ≤ y7 ∧ y7 < (↑l0.length : Int)) then
    bif decide (Ms.hg fu l0 lo hi l1 (b0, b1, b2, b3) ∧ 0 ≤ y4 ∧ y4 < (↑l0.length : Int)) then
     bif decide ((Sp.by_ l0 lo hi l1 (b0, b1, b2, b3) y7.toNat).fst > (Sp.by_ l0 lo hi l1 (b0, b1, b2, b3) y4.toNat).snd) then
      some ((D.tup [D.int .i64 y7, D.int .i64 y4, D.int .i64 0], []))
     else
      bif decide ((Sp.by_ l0 lo hi l1 (b0, b1, b2, b3) y4.toNat).fst > (Sp.by_ l0 lo hi l1 (b0, b1, b2, b3) y7.toNat).snd) then
       some ((D.tup [D.int .i64 y7, D.int .i64 y4, D.int .i64 0], []))
      else
       exclP_2 fu m0 m l0 lo hi l1 y4 y2 y5 y6 (w64 (y7 + 1)) st b0 b1 b2 b3
    else
     none
   else
    none
  else
   exclP_0 fu m0 l0 lo hi l1 y2 (w64 (y5 + 1)) st b0 b1 b2 b3 := by kernel_rfl
theorem exclP_e (fu : Nat) (st : List (Int × Int × Int × Int)) (lo : Int) (hi : Int) (at_ : List (Int × Int)) (b0 : Int) (b1 : Int) (b2 : Int) (b3 : Int) : (cf5 fu).call 61 0 40 [ntD st lo hi, D.sl SpR at_ .no, bxD b0 b1 b2 b3] [] (fun d σ => some (d, σ)) =
  bif decide (gf fu = true ∧ st.length < fu ∧ at_.length < fu) then
   bif decide (Sp.heard st lo hi at_ (b0, b1, b2, b3) = 0) then
    exclP_0 fu fu st lo hi at_ (↑at_.length : Int) 0 st b0 b1 b2 b3
   else
    bif decide (Sp.heard st lo hi at_ (b0, b1, b2, b3) = 17) then
     some ((D.tup [D.int .i64 0, D.int .i64 0, D.int .i64 17], []))
    else
     bif decide (Sp.heard st lo hi at_ (b0, b1, b2, b3) = 2) then
      some ((D.tup [D.int .i64 0, D.int .i64 0, D.int .i64 2], []))
     else
      none
  else
   none := by kernel_rfl
theorem chkP_e (fu : Nat) (st : List (Int × Int × Int × Int)) (lo : Int) (hi : Int) (at_ : List (Int × Int)) (b0 : Int) (b1 : Int) (b2 : Int) (b3 : Int) (i : Int) (j : Int) : (cf5 fu).call 61 0 41 [ntD st lo hi, D.sl SpR at_ .no, bxD b0 b1 b2 b3, D.int .i64 i, D.int .i64 j] [] (fun d σ => some (d, σ)) =
  bif decide (gf fu = true ∧ st.length < fu ∧ at_.length < fu) then
   bif decide (Sp.heard st lo hi at_ (b0, b1, b2, b3) = 0) then
    bif decide (i < 0) then
     some ((D.int .i64 3, []))
    else
     bif decide (i ≥ (↑at_.length : Int)) then
      some ((D.int .i64 3, []))
     else
      bif decide (j < 0) then
       some ((D.int .i64 3, []))
      else
       bif decide (j ≥ (↑at_.length : Int)) then
        some ((D.int .i64 3, []))
       else
        bif decide (Ms.hg fu st lo hi at_ (b0, b1, b2, b3) ∧ 0 ≤ i ∧ i < (↑st.length : Int)) then
         bif decide (Ms.hg fu st lo hi at_ (b0, b1, b2, b3) ∧ 0 ≤ j ∧ j < (↑st.length : Int)) then
          bif decide ((Sp.by_ st lo hi at_ (b0, b1, b2, b3) i.toNat).fst > (Sp.by_ st lo hi at_ (b0, b1, b2, b3) j.toNat).snd) then
           some ((D.int .i64 0, []))
          else
           bif !decide ((Sp.by_ st lo hi at_ (b0, b1, b2, b3) j.toNat).fst > (Sp.by_ st lo hi at_ (b0, b1, b2, b3) i.toNat).snd) then
            some ((D.int .i64 16, []))
           else
            some ((D.int .i64 0, []))
         else
          none
        else
         none
   else
    bif decide (Sp.heard st lo hi at_ (b0, b1, b2, b3) = 17) then
     some ((D.int .i64 17, []))
    else
     bif decide (Sp.heard st lo hi at_ (b0, b1, b2, b3) = 2) then
      some ((D.int .i64 2, []))
     else
      none
  else
   none := by kernel_rfl
noncomputable def partsR_0 (fu m : Nat) (l6 : List (Int × Int × Int × Int)) (l7 : List (Int × Int × Int × Int)) (l9 : List (Int × Int)) (l8 : List (Int × Int)) (y12 : Int) (b0 : Int) (b1 : Int) (b2 : Int) (b3 : Int) (l14 : Nat) : Option Res := (cf5 fu).loop 60 42 [true, true, true, false, true] [] 3 m ⟨tmOf 39 [(2, D.sl BxR l6 (.own 1)), (3, D.sl BxR l7 (.own 2)), (4, D.sl SpR l9 .no), (5, D.sl SpR l8 .no), (6, D.int .i64 y12)], [Ent.box [D.int .i64 b0, D.int .i64 b1, D.int .i64 b2, D.int .i64 b3], Ent.tok BxR 0, Ent.tok BxR l14]⟩
noncomputable def partsR_2 (fu m0 m : Nat) (l6 : List (Int × Int × Int × Int)) (l7 : List (Int × Int × Int × Int)) (l9 : List (Int × Int)) (l8 : List (Int × Int)) (y13 : Int) (y10 : Int) (b0 : Int) (b1 : Int) (b2 : Int) (b3 : Int) (l11 : Nat) : Option Res := (cf5 fu).loop 60 42 [true, true, true, false, true, true, true, false, true] [(3, m0)] 3 m ⟨tmOf 39 [(2, D.sl BxR l6 (.own 1)), (3, D.sl BxR l7 (.own 2)), (4, D.sl SpR l9 .no), (5, D.sl SpR l8 .no), (6, D.int .i64 y13), (7, D.int .i64 y10)], [Ent.box [D.int .i64 b0, D.int .i64 b1, D.int .i64 b2, D.int .i64 b3], Ent.tok BxR 0, Ent.tok BxR l11]⟩
theorem partsR_0s (fu m : Nat) (l6 : List (Int × Int × Int × Int)) (l7 : List (Int × Int × Int × Int)) (l9 : List (Int × Int)) (l8 : List (Int × Int)) (y12 : Int) (b0 : Int) (b1 : Int) (b2 : Int) (b3 : Int) (l14 : Nat) : partsR_0 fu (m + 1) l6 l7 l9 l8 y12 b0 b1 b2 b3 l14 =
  bif decide (y12 < (↑l8.length : Int)) then
   partsR_2 fu m fu l6 l7 l9 l8 y12 0 b0 b1 b2 b3 l14
  else
   some ((D.sl BxR l7 .no, [])) := by kernel_rfl
theorem partsR_2s (fu m0 m : Nat) (l6 : List (Int × Int × Int × Int)) (l7 : List (Int × Int × Int × Int)) (l9 : List (Int × Int)) (l8 : List (Int × Int)) (y13 : Int) (y10 : Int) (b0 : Int) (b1 : Int) (b2 : Int) (b3 : Int) (l11 : Nat) : partsR_2 fu m0 (m + 1) l6 l7 l9 l8 y13 y10 b0 b1 b2 b3 l11 =
  bif decide (y10 < (↑l9.length : Int)) then
   bif decide (0 ≤ y10) && decide (y10 < (↑l9.length : Int)) then
    bif decide (0 ≤ y13) && decide (y13 < (↑l8.length : Int)) then
     bif lenOk l11 l7.length && room (l7 ++ [((l9.getD y10.toNat SpR.dflt).fst, (l9.getD y10.toNat SpR.dflt).snd, l8.getD y13.toNat SpR.dflt)]).length 32 then
      partsR_2 fu m0 m l6 (l7 ++ [((l9.getD y10.toNat SpR.dflt).fst, (l9.getD y10.toNat SpR.dflt).snd, l8.getD y13.toNat SpR.dflt)]) l9 l8 y13 (w64 (y10 + 1)) b0 b1 b2 b3 ((l7 ++ [((l9.getD y10.toNat SpR.dflt).fst, (l9.getD y10.toNat SpR.dflt).snd, l8.getD y13.toNat SpR.dflt)]).length)
     else
      none
    else
     none
   else
    none
  else
   partsR_0 fu m0 l6 l7 l9 l8 (w64 (y13 + 1)) b0 b1 b2 b3 l11 := by kernel_rfl
theorem partsR_e (fu : Nat) (b0 : Int) (b1 : Int) (b2 : Int) (b3 : Int) : (cf5 fu).call 61 0 42 [bxD b0 b1 b2 b3] [] (fun d σ => some (d, σ)) =
  bif b0 == b1 then
   bif b2 == b3 then
    partsR_0 fu fu [] [] ([(b0, b1)]) ([(b2, b3)]) 0 b0 b1 b2 b3 0
   else
    bif decide (0 < 2) && decide (-4611686018427387904 ≤ w64 (b2 + b3) ∧ w64 (b2 + b3) ≤ 4611686018427387904) then
     partsR_0 fu fu [] [] ([(b0, b1)]) ([(b2, Bo.fl (w64 (b2 + b3)) 2), (Bo.fl (w64 (b2 + b3)) 2, b3)]) 0 b0 b1 b2 b3 0
    else
     none
  else
   bif decide (0 < 2) && decide (-4611686018427387904 ≤ w64 (b0 + b1) ∧ w64 (b0 + b1) ≤ 4611686018427387904) then
    bif b2 == b3 then
     partsR_0 fu fu [] [] ([(b0, Bo.fl (w64 (b0 + b1)) 2), (Bo.fl (w64 (b0 + b1)) 2, b1)]) ([(b2, b3)]) 0 b0 b1 b2 b3 0
    else
     bif decide (0 < 2) && decide (-4611686018427387904 ≤ w64 (b2 + b3) ∧ w64 (b2 + b3) ≤ 4611686018427387904) then
      partsR_0 fu fu [] [] ([(b0, Bo.fl (w64 (b0 + b1)) 2), (Bo.fl (w64 (b0 + b1)) 2, b1)]) ([(b2, Bo.fl (w64 (b2 + b3)) 2), (Bo.fl (w64 (b2 + b3)) 2, b3)]) 0 b0 b1 b2 b3 0
     else
      none
   else
    none := by kernel_rfl
theorem halvesR_e (fu : Nat) (a : Int) (b : Int) : (cf5 fu).call 61 0 87 [spD a b] [] (fun d σ => some (d, σ)) =
  bif a == b then
   some ((D.sl SpR [(a, b)] .no, []))
  else
   bif decide (0 < 2) && decide (-4611686018427387904 ≤ w64 (a + b) ∧ w64 (a + b) ≤ 4611686018427387904) then
    some ((D.sl SpR [(a, Bo.fl (w64 (a + b)) 2), (Bo.fl (w64 (a + b)) 2, b)] .no, []))
   else
    none := by kernel_rfl
end Go.Proofs.Ytaheamdoldiojaa.P
namespace Go.Proofs.Ytaheamdoldiojaa.P
open Go Go.RowKit Go.Am
/-! ### Origin, Excluded, CheckExcluded, Parts -/
theorem originP_i {fu : Nat} (hf : gf fu = true) (st : List (Int × Int × Int × Int)) (hs : st.length < fu) (lo hi : Int) (at_ : List (Int × Int)) (ha : at_.length < fu) (b0 b1 b2 b3 : Int) : (cf5 fu).call 61 0 28 [ntD st lo hi, .sl SpR at_ .no, bxD b0 b1 b2 b3] [] (fun d σ => some (d, σ)) = some (t3D (Sp.origin st lo hi at_ (b0, b1, b2, b3)), []) := by
  rw [originP_e, cp ⟨hf, hs, ha⟩]
  unfold Sp.origin
  by_cases h : Sp.heard st lo hi at_ (b0, b1, b2, b3) = 0
  · rw [if_pos h, cp h, cp ⟨hf, h⟩]
    by_cases c : (Sp.org st lo hi at_ (b0, b1, b2, b3)).1 ≤ (Sp.org st lo hi at_ (b0, b1, b2, b3)).2
    · rw [if_pos c, decide_eq_true c]
      rfl
    · rw [if_neg c, decide_eq_false c]
      rfl
  · rw [if_neg h, cn h]
    rcases heard_cases st lo hi at_ (b0, b1, b2, b3) with q | q | q
    · exact absurd q h
    · rw [q]
      rfl
    · rw [q]
      rfl
abbrev e3D (t : Int × Int × Int) : D := .tup [.int .i64 t.1, .int .i64 t.2.1, .int .i64 t.2.2]
theorem hg_at {fu : Nat} {st : List (Int × Int × Int × Int)} {lo hi : Int} {at_ : List (Int × Int)} {b : Int × Int × Int × Int} (h : Ms.hg fu st lo hi at_ b) (i : Nat) (hi' : i < st.length) : Ms.hg fu st lo hi at_ b ∧ (0 : Int) ≤ (i : Int) ∧ (i : Int) < (st.length : Int) := ⟨h, by omega, by omega⟩
theorem exclP_2l {fu : Nat} {st : List (Int × Int × Int × Int)} {lo hi : Int} {at_ : List (Int × Int)} {b0 b1 b2 b3 : Int} (h : Ms.hg fu st lo hi at_ (b0, b1, b2, b3)) (m0 m : Nat) (hm : m < st.length) : ∀ n K i : Nat, i + n = m → n < K → exclP_2 fu m0 K st lo hi at_ (m : Int) (at_.length : Int) (m : Int) (m : Int) (i : Int) st b0 b1 b2 b3 = match Sp.inn (Sp.by_ st lo hi at_ (b0, b1, b2, b3)) m n i with
    | some j => some (e3D ((j : Int), (m : Int), 0), [])
    | none => exclP_0 fu m0 st lo hi at_ (at_.length : Int) ((m + 1 : Nat) : Int) st b0 b1 b2 b3
  | 0, K, i, hi', hK => by
    obtain ⟨K, rfl⟩ : ∃ j, K = j + 1 := ⟨K - 1, by omega⟩
    have n8 := (Sp.heard_ok h.2).1.n8
    rw [exclP_2s, cn (by omega), w_succ hm (by omega)]
    rfl
  | n + 1, K, i, hi', hK => by
    obtain ⟨K, rfl⟩ : ∃ j, K = j + 1 := ⟨K - 1, by omega⟩
    have n8 := (Sp.heard_ok h.2).1.n8
    have ih := exclP_2l h m0 m hm n K (i + 1) (by omega) (by omega)
    rw [exclP_2s, cp (by omega), cp (hg_at h i (by omega)), cp (hg_at h m hm), Int.toNat_natCast, Int.toNat_natCast, w_succ (n := st.length) (by omega) (by omega), ih, Sp.inn]
    unfold Sp.part_
    by_cases c1 : (Sp.by_ st lo hi at_ (b0, b1, b2, b3) i).1 > (Sp.by_ st lo hi at_ (b0, b1, b2, b3) m).2
    · rw [cp c1, if_pos (by simp [c1])]
    · rw [cn c1]
      by_cases c2 : (Sp.by_ st lo hi at_ (b0, b1, b2, b3) m).1 > (Sp.by_ st lo hi at_ (b0, b1, b2, b3) i).2
      · rw [cp c2, if_pos (by simp [c2])]
      · rw [cn c2, if_neg (by simp [c1, c2])]
theorem exclP_l {fu : Nat} {st : List (Int × Int × Int × Int)} {lo hi : Int} {at_ : List (Int × Int)} {b0 b1 b2 b3 : Int} (h : Ms.hg fu st lo hi at_ (b0, b1, b2, b3)) : ∀ n K m : Nat, m + n = st.length → n < K → exclP_0 fu K st lo hi at_ (at_.length : Int) (m : Int) st b0 b1 b2 b3 = some (e3D (Sp.exc (Sp.by_ st lo hi at_ (b0, b1, b2, b3)) n m), [])
  | 0, K, m, hm, hK => by
    obtain ⟨K, rfl⟩ : ∃ j, K = j + 1 := ⟨K - 1, by omega⟩
    have hl := (Sp.heard_ok h.2).1.len
    rw [exclP_0s, cn (by omega)]
    rfl
  | n + 1, K, m, hm, hK => by
    obtain ⟨K, rfl⟩ : ∃ j, K = j + 1 := ⟨K - 1, by omega⟩
    have A := (Sp.heard_ok h.2).1
    have hl := A.len
    have n8 := A.n8
    have g := gf_2 h.1
    have ih := exclP_l h n K (m + 1) (by omega) (by omega)
    have q := exclP_2l h K m (by omega) m fu 0 (by omega) (by omega)
    rw [show ((0 : Nat) : Int) = 0 from rfl] at q
    rw [exclP_0s, cp (by omega), q, Sp.exc, ih]
    cases Sp.inn (Sp.by_ st lo hi at_ (b0, b1, b2, b3)) m m 0 <;> rfl
theorem exclP_i {fu : Nat} (hf : gf fu = true) (st : List (Int × Int × Int × Int)) (hs : st.length < fu) (lo hi : Int) (at_ : List (Int × Int)) (ha : at_.length < fu) (b0 b1 b2 b3 : Int) : (cf5 fu).call 61 0 40 [ntD st lo hi, .sl SpR at_ .no, bxD b0 b1 b2 b3] [] (fun d σ => some (d, σ)) = some (e3D (Sp.excluded st lo hi at_ (b0, b1, b2, b3)), []) := by
  rw [exclP_e, cp ⟨hf, hs, ha⟩]
  unfold Sp.excluded
  by_cases h : Sp.heard st lo hi at_ (b0, b1, b2, b3) = 0
  · rw [if_pos h, cp h]
    exact exclP_l ⟨hf, h⟩ st.length fu 0 (by omega) (by omega)
  · rw [if_neg h, cn h]
    rcases heard_cases st lo hi at_ (b0, b1, b2, b3) with q | q | q
    · exact absurd q h
    · rw [q]
      rfl
    · rw [q]
      rfl
theorem chkP_i {fu : Nat} (hf : gf fu = true) (st : List (Int × Int × Int × Int)) (hs : st.length < fu) (lo hi : Int) (at_ : List (Int × Int)) (ha : at_.length < fu) (b0 b1 b2 b3 i j : Int) : (cf5 fu).call 61 0 41 [ntD st lo hi, .sl SpR at_ .no, bxD b0 b1 b2 b3, .int .i64 i, .int .i64 j] [] (fun d σ => some (d, σ)) = some (.int .i64 (Sp.chk st lo hi at_ (b0, b1, b2, b3) i j), []) := by
  rw [chkP_e, cp ⟨hf, hs, ha⟩]
  unfold Sp.chk
  by_cases h : Sp.heard st lo hi at_ (b0, b1, b2, b3) = 0
  · have hl := (Sp.heard_ok h).1.len
    rw [if_pos h, cp h, hl]
    by_cases h1 : i < 0
    · rw [cp h1, if_neg (by omega)]
    rw [cn h1]
    by_cases h2 : i ≥ (st.length : Int)
    · rw [cp h2, if_neg (by omega)]
    rw [cn h2]
    by_cases h3 : j < 0
    · rw [cp h3, if_neg (by omega)]
    rw [cn h3]
    by_cases h4 : j ≥ (st.length : Int)
    · rw [cp h4, if_neg (by omega)]
    rw [cn h4, cp ⟨⟨hf, h⟩, by omega, by omega⟩, cp ⟨⟨hf, h⟩, by omega, by omega⟩, if_pos (by omega)]
    unfold Sp.part_
    by_cases c1 : (Sp.by_ st lo hi at_ (b0, b1, b2, b3) i.toNat).1 > (Sp.by_ st lo hi at_ (b0, b1, b2, b3) j.toNat).2
    · rw [cp c1, if_pos (by simp [c1])]
    · rw [cn c1]
      by_cases c2 : (Sp.by_ st lo hi at_ (b0, b1, b2, b3) j.toNat).1 > (Sp.by_ st lo hi at_ (b0, b1, b2, b3) i.toNat).2
      · rw [decide_eq_true c2, if_pos (by simp)]
        rfl
      · rw [decide_eq_false c2, decide_eq_false c1, if_neg (by simp)]
        rfl
  · rw [if_neg h, cn h]
    rcases heard_cases st lo hi at_ (b0, b1, b2, b3) with q | q | q
    · exact absurd q h
    · rw [q]
      rfl
    · rw [q]
      rfl
/-! the reference's Parts -/
theorem partsR_2l {fu : Nat} (m0 : Nat) (l6 : List (Int × Int × Int × Int)) (b0 b1 b2 b3 : Int) (xs ys : List (Int × Int)) (hx : xs.length ≤ 2) (j : Nat) (hj : j < ys.length) (acc : List (Int × Int × Int × Int)) (ha : acc.length ≤ 4) : ∀ n K i : Nat, i + n = xs.length → n < K → partsR_2 fu m0 K l6 (acc ++ Sp.prow (xs.take i) ys[j]) xs ys (j : Int) (i : Int) b0 b1 b2 b3 (acc ++ Sp.prow (xs.take i) ys[j]).length = partsR_0 fu m0 l6 (acc ++ Sp.prow xs ys[j]) xs ys (w64 ((j : Int) + 1)) b0 b1 b2 b3 (acc ++ Sp.prow xs ys[j]).length
  | 0, K, i, hi', hK => by
    obtain ⟨K, rfl⟩ : ∃ j, K = j + 1 := ⟨K - 1, by omega⟩
    rw [partsR_2s, cn (by omega), List.take_of_length_le (by omega)]
  | n + 1, K, i, hi', hK => by
    obtain ⟨K, rfl⟩ : ∃ j, K = j + 1 := ⟨K - 1, by omega⟩
    have hlt : i < xs.length := by omega
    have ih := partsR_2l (fu := fu) m0 l6 b0 b1 b2 b3 xs ys hx j hj acc ha n K (i + 1) (by omega) (by omega)
    rw [take_snoc hlt] at ih
    have e : acc ++ Sp.prow (xs.take i ++ [xs[i]]) ys[j] = (acc ++ Sp.prow (xs.take i) ys[j]) ++ [(xs[i].1, xs[i].2, ys[j])] := by
      unfold Sp.prow
      rw [List.map_append, ← List.append_assoc]
      rfl
    rw [e] at ih
    have hlen : ((acc ++ Sp.prow (xs.take i) ys[j]) ++ [(xs[i].1, xs[i].2, ys[j])]).length ≤ 8 := by
      unfold Sp.prow
      simp
      omega
    rw [partsR_2s, cp (by omega), ca ⟨by omega, by omega⟩, ca ⟨by omega, by omega⟩, getD_nat i hlt, getD_nat j hj]
    generalize hz : (acc ++ Sp.prow (xs.take i) ys[j]) ++ [(xs[i].1, xs[i].2, ys[j])] = z at *
    rw [show lenOk (acc ++ Sp.prow (xs.take i) ys[j]).length (acc ++ Sp.prow (xs.take i) ys[j]).length = true from decide_eq_true rfl, show room z.length 32 = true from decide_eq_true (by omega), w_succ hlt (by omega), Bool.and_self, cond_true]
    exact ih
theorem partsR_l {fu : Nat} (hf : 40 ≤ fu) (l6 : List (Int × Int × Int × Int)) (b0 b1 b2 b3 : Int) (xs ys : List (Int × Int)) (hx : xs.length ≤ 2) (hy : ys.length ≤ 2) : ∀ n K j : Nat, j + n = ys.length → n < K → partsR_0 fu K l6 ((ys.take j).flatMap (Sp.prow xs)) xs ys (j : Int) b0 b1 b2 b3 ((ys.take j).flatMap (Sp.prow xs)).length = some (.sl BxR (ys.flatMap (Sp.prow xs)) .no, [])
  | 0, K, j, hj, hK => by
    obtain ⟨K, rfl⟩ : ∃ j, K = j + 1 := ⟨K - 1, by omega⟩
    rw [partsR_0s, cn (by omega), List.take_of_length_le (by omega)]
  | n + 1, K, j, hj, hK => by
    obtain ⟨K, rfl⟩ : ∃ j, K = j + 1 := ⟨K - 1, by omega⟩
    have hlt : j < ys.length := by omega
    have ih := partsR_l hf l6 b0 b1 b2 b3 xs ys hx hy n K (j + 1) (by omega) (by omega)
    rw [take_snoc hlt, List.flatMap_append, show [ys[j]].flatMap (Sp.prow xs) = Sp.prow xs ys[j] by simp] at ih
    have hacc : ((ys.take j).flatMap (Sp.prow xs)).length ≤ 4 := by
      have e : ∀ zs : List (Int × Int), (zs.flatMap (Sp.prow xs)).length = zs.length * xs.length := by
        intro zs
        induction zs with
        | nil => simp
        | cons z zs ih2 => rw [List.flatMap_cons, List.length_append, ih2, List.length_cons, Nat.succ_mul]; unfold Sp.prow; simp; omega
      rw [e, List.length_take]
      have := Nat.mul_le_mul (show min j ys.length ≤ 2 by omega) hx
      omega
    have q := partsR_2l (fu := fu) K l6 b0 b1 b2 b3 xs ys hx j hlt _ hacc xs.length fu 0 (by omega) (by omega)
    rw [show Sp.prow (xs.take 0) ys[j] = [] by simp [Sp.prow], List.append_nil, show ((0 : Nat) : Int) = 0 from rfl] at q
    rw [partsR_0s, cp (by omega), q, w_succ hlt (by omega)]
    exact ih
theorem half_fl {a b : Int} (h : ¬ a = b) (h1 : -1073741824 ≤ a) (h2 : a ≤ 1073741824) (h3 : -1073741824 ≤ b) (h4 : b ≤ 1073741824) : [(a, Bo.fl (w64 (a + b)) 2), (Bo.fl (w64 (a + b)) 2, b)] = Sp.half a b := by
  unfold Sp.half
  rw [if_neg h, w_id (by omega) (by omega), Bo.fl_pos (by decide)]
theorem partsR_i {fu : Nat} (hf : 40 ≤ fu) {b0 b1 b2 b3 : Int} (hb : Sp.vb (b0, b1, b2, b3) = true) : (cf5 fu).call 61 0 42 [bxD b0 b1 b2 b3] [] (fun d σ => some (d, σ)) = some (.sl BxR (Sp.parts (b0, b1, b2, b3)) .no, []) := by
  have B := Sp.vb_bd hb
  dsimp only at B
  have key : ∀ xs ys : List (Int × Int), xs = Sp.half b0 b1 → ys = Sp.half b2 b3 → partsR_0 fu fu [] [] xs ys 0 b0 b1 b2 b3 0 = some (.sl BxR (Sp.parts (b0, b1, b2, b3)) .no, []) := fun xs ys e1 e2 => by
    have l1 := Sp.half_len b0 b1
    have l2 := Sp.half_len b2 b3
    subst e1 e2
    exact partsR_l hf [] b0 b1 b2 b3 _ _ l1 l2 _ fu 0 (Nat.zero_add _) (by omega)
  rw [partsR_e]
  by_cases h1 : b0 = b1
  · rw [show (b0 == b1) = true by simpa using h1, cond_true]
    by_cases h2 : b2 = b3
    · rw [show (b2 == b3) = true by simpa using h2, cond_true]
      exact key _ _ (by unfold Sp.half; rw [if_pos h1]) (by unfold Sp.half; rw [if_pos h2])
    · rw [show (b2 == b3) = false by simpa using h2, cond_false, w_id (by omega) (by omega), ca ⟨by omega, by omega⟩]
      exact key _ _ (by unfold Sp.half; rw [if_pos h1]) (by rw [← half_fl h2 (by omega) (by omega) (by omega) (by omega), w_id (by omega) (by omega)])
  · rw [show (b0 == b1) = false by simpa using h1, cond_false, w_id (n := b0 + b1) (by omega) (by omega), ca ⟨by omega, by omega⟩]
    by_cases h2 : b2 = b3
    · rw [show (b2 == b3) = true by simpa using h2, cond_true]
      exact key _ _ (by rw [← half_fl h1 (by omega) (by omega) (by omega) (by omega), w_id (by omega) (by omega)]) (by unfold Sp.half; rw [if_pos h2])
    · rw [show (b2 == b3) = false by simpa using h2, cond_false, w_id (n := b2 + b3) (by omega) (by omega), ca ⟨by omega, by omega⟩]
      exact key _ _ (by rw [← half_fl h1 (by omega) (by omega) (by omega) (by omega), w_id (by omega) (by omega)]) (by rw [← half_fl h2 (by omega) (by omega) (by omega) (by omega), w_id (by omega) (by omega)])
end Go.Proofs.Ytaheamdoldiojaa.P
namespace Go.Proofs.Ytaheamdoldiojaa.P
open Go Go.RowKit Go.Am
/-! ### told: Origin, Excluded, CheckExcluded, Parts, Works -/
def originS (fu : Nat) : List D → (D → Option Res) → Option Res := tabS fun
  | [.agg [a, .int .i64 lo, .int .i64 hi], b, .agg [.int .i64 b0, .int .i64 b1, .int .i64 b2, .int .i64 b3]] => match lst BxR a, lst SpR b with
    | some st, some at_ => some (decide (gf fu = true ∧ st.length < fu ∧ at_.length < fu), t3D (Sp.origin st lo hi at_ (b0, b1, b2, b3)))
    | _, _ => none
  | _ => none
theorem originS_ok (fu : Nat) : SpecOk Try.prog 28 (originS fu) := tab_ok ⟨Try.f28, Try.func28, rfl⟩ fun args d h => by
  split at h
  · split at h
    · rename_i hx hy
      cases lst_eq hx
      cases lst_eq hy
      obtain ⟨h1, rfl⟩ := pair_true (Option.some.inj h)
      exact says_of (cf5_ok fu) (originP_i h1.1 _ h1.2.1 _ _ _ h1.2.2 _ _ _ _)
    · cases h
  · cases h
def exclS (fu : Nat) : List D → (D → Option Res) → Option Res := tabS fun
  | [.agg [a, .int .i64 lo, .int .i64 hi], b, .agg [.int .i64 b0, .int .i64 b1, .int .i64 b2, .int .i64 b3]] => match lst BxR a, lst SpR b with
    | some st, some at_ => some (decide (gf fu = true ∧ st.length < fu ∧ at_.length < fu), e3D (Sp.excluded st lo hi at_ (b0, b1, b2, b3)))
    | _, _ => none
  | _ => none
theorem exclS_ok (fu : Nat) : SpecOk Try.prog 40 (exclS fu) := tab_ok ⟨Try.f40, Try.func40, rfl⟩ fun args d h => by
  split at h
  · split at h
    · rename_i hx hy
      cases lst_eq hx
      cases lst_eq hy
      obtain ⟨h1, rfl⟩ := pair_true (Option.some.inj h)
      exact says_of (cf5_ok fu) (exclP_i h1.1 _ h1.2.1 _ _ _ h1.2.2 _ _ _ _)
    · cases h
  · cases h
def chkS (fu : Nat) : List D → (D → Option Res) → Option Res := tabS fun
  | [.agg [a, .int .i64 lo, .int .i64 hi], b, .agg [.int .i64 b0, .int .i64 b1, .int .i64 b2, .int .i64 b3], .int .i64 i, .int .i64 j] => match lst BxR a, lst SpR b with
    | some st, some at_ => some (decide (gf fu = true ∧ st.length < fu ∧ at_.length < fu), .int .i64 (Sp.chk st lo hi at_ (b0, b1, b2, b3) i j))
    | _, _ => none
  | _ => none
theorem chkS_ok (fu : Nat) : SpecOk Try.prog 41 (chkS fu) := tab_ok ⟨Try.f41, Try.func41, rfl⟩ fun args d h => by
  split at h
  · split at h
    · rename_i hx hy
      cases lst_eq hx
      cases lst_eq hy
      obtain ⟨h1, rfl⟩ := pair_true (Option.some.inj h)
      exact says_of (cf5_ok fu) (chkP_i h1.1 _ h1.2.1 _ _ _ h1.2.2 _ _ _ _ _ _)
    · cases h
  · cases h
def partsS (fu : Nat) : List D → (D → Option Res) → Option Res := tabS fun
  | [.agg [.int .i64 b0, .int .i64 b1, .int .i64 b2, .int .i64 b3]] => some (decide (gf fu = true ∧ Sp.vb (b0, b1, b2, b3) = true), .sl BxR (Sp.parts (b0, b1, b2, b3)) .no)
  | _ => none
theorem partsS_ok (fu : Nat) : SpecOk Try.prog 42 (partsS fu) := tab_ok ⟨Try.f42, Try.func42, rfl⟩ fun args d h => by
  split at h
  · obtain ⟨h1, rfl⟩ := pair_true (Option.some.inj h)
    exact says_of (cf5_ok fu) (partsR_i (gf_2 h1.1).1 h1.2)
  · cases h
def sp5p : Nat → FuncId → Option (List D → (D → Option Res) → Option Res) := also 42 partsS sp5
theorem sp5p_ok (fu : Nat) : ∀ f s, sp5p fu f = some s → SpecOk Try.prog f s := also_ok (partsS_ok fu) (sp5_ok fu)
end Go.Proofs.Ytaheamdoldiojaa.P
namespace Go.Proofs.Ytaheamdoldiojaa.P
open Go Go.RowKit Go.Am
/-! ### told: Works -/
def worksS (_ : Nat) : List D → (D → Option Res) → Option Res := tabS fun
  | [] => some (true, .bool true)
  | _ => none
theorem worksS_ok (fu : Nat) : SpecOk Try.prog 14 (worksS fu) := tab_ok ⟨Try.f14, Try.func14, rfl⟩ fun args d h => by
  split at h
  · cases h
    exact says_works
  · cases h
def sp6 : Nat → FuncId → Option (List D → (D → Option Res) → Option Res) := also 28 originS (also 40 exclS (also 41 chkS (also 42 partsS (also 14 worksS sp5))))
theorem sp6_ok (fu : Nat) : ∀ f s, sp6 fu f = some s → SpecOk Try.prog f s := also_ok (originS_ok fu) (also_ok (exclS_ok fu) (also_ok (chkS_ok fu) (also_ok (partsS_ok fu) (also_ok (worksS_ok fu) (sp5_ok fu)))))
noncomputable def cf6 (fu : Nat) : Cfg := cfgS sp6 fu
theorem cf6_ok (fu : Nat) : CfgOk (cf6 fu) := cfgS_ok (sp6_ok fu)
end Go.Proofs.Ytaheamdoldiojaa.P
namespace Go.Proofs.Ytaheamdoldiojaa.P
open Go Go.RowKit Go.Am
abbrev GaR : Row := .one (.sl SpR)
abbrev AnR : Row := .one (.int .i64)
abbrev RwR : Row := .one (.sl AnR)
abbrev CoR : Row := .cons (.int .i64) (.cons (.int .i64) (.cons (.int .i64) (.cons (.int .i64) (.one (.int .i64)))))
abbrev WaR : Row := .cons (.int .i64) (.cons (.int .i64) (.one (.int .i64)))
abbrev rlD (h r g : Int) : D := .agg [.int .i64 h, .int .i64 r, .int .i64 g]
end Go.Proofs.Ytaheamdoldiojaa.P
namespace Go.Proofs.Ytaheamdoldiojaa.P
open Go Go.RowKit Go.Am
set_option maxRecDepth 100000
noncomputable def idxTr_0 (fu m : Nat) (xs : List (Int × Int)) (y0 : Int) (y1 : Int) : Option Res := (cf2 fu).loop 60 125 [true, false, true] [] 0 m ⟨tmOf 19 [(0, D.sl SpR xs .no), (1, D.fn 109 [] []), (4, D.int .i64 0), (7, D.int .i64 y0), (8, D.int .i64 y1)], []⟩
theorem idxTr_0s (fu m : Nat) (xs : List (Int × Int)) (y0 : Int) (y1 : Int) : idxTr_0 fu (m + 1) xs y0 y1 =
  bif decide (y1 < y0) then
   bif decide (0 ≤ y1) && decide (y1 < (↑xs.length : Int)) then
    bif decide (2 < fu ∧ fu ≤ 100000) then
     bif e02 (decide (Bo.v (xs.getD y1.toNat SpR.dflt).fst (xs.getD y1.toNat SpR.dflt).snd)) != 0 then
      some ((D.int .i64 y1, []))
     else
      idxTr_0 fu m xs y0 (w64 (y1 + 1))
    else
     none
   else
    none
  else
   some ((D.int .i64 (-1), [])) := by kernel_rfl
theorem idxTr_e (fu : Nat) (xs : List (Int × Int)) : (cf2 fu).call 61 0 125 [D.sl SpR xs .no, D.fn 109 [] []] [] (fun d σ => some (d, σ)) =
  idxTr_0 fu fu xs (↑xs.length : Int) 0 := by kernel_rfl
noncomputable def trackR_0 (fu m : Nat) (xs : List (Int × Int)) (y0 : Int) : Option Res := (cf6 fu).loop 60 88 [true, true, false, true] [] 0 m ⟨tmOf 19 [(0, D.sl SpR xs .no), (2, D.int .i64 0), (3, D.int .i64 y0)], []⟩
theorem trackR_0s (fu m : Nat) (xs : List (Int × Int)) (y0 : Int) : trackR_0 fu (m + 1) xs y0 =
  bif decide (y0 < (↑xs.length : Int)) then
   bif decide (0 ≤ y0) && decide (y0 < (↑xs.length : Int)) then
    bif !decide (Bo.v (xs.getD y0.toNat SpR.dflt).fst (xs.getD y0.toNat SpR.dflt).snd) then
     some ((D.int .i64 2, []))
    else
     trackR_0 fu m xs (w64 (y0 + 1))
   else
    none
  else
   some ((D.int .i64 0, [])) := by kernel_rfl
theorem trackR_e (fu : Nat) (xs : List (Int × Int)) : (cf6 fu).call 61 0 88 [D.sl SpR xs .no] [] (fun d σ => some (d, σ)) =
  bif decide ((↑xs.length : Int) > 256) then
   some ((D.int .i64 6, []))
  else
   trackR_0 fu fu xs 0 := by kernel_rfl
noncomputable def risen_0 (fu m : Nat) (l0 : Nat) (y3 : Int) (y4 : Int) (y5 : Int) (xs : List (Int × Int)) (y1 : Int) (y6 : Int) (h : Int) (r : Int) (g : Int) (l2 : List Int) : Option Res := (cf6 fu).loop 60 106 [true, true, true, true, false, true] [] 4 m ⟨tmOf 52 [(3, D.ptr 1 0), (4, D.sl (Row.one (CT.int .i64)) [] (.own 3)), (5, D.ref 2 0 l0), (6, D.int .i64 y3), (7, D.int .i64 y4), (8, D.int .i64 y5), (17, D.sl SpR xs .no), (18, D.int .i64 y1), (19, D.int .i64 y6)], [Ent.box [D.sl SpR xs .no], Ent.box [D.int .i64 h, D.int .i64 r, D.int .i64 g], Ent.buf (Row.one (CT.int .i64)) l2, Ent.tok (Row.one (CT.int .i64)) 0]⟩
theorem risen_0s (fu m : Nat) (l0 : Nat) (y3 : Int) (y4 : Int) (y5 : Int) (xs : List (Int × Int)) (y1 : Int) (y6 : Int) (h : Int) (r : Int) (g : Int) (l2 : List Int) : risen_0 fu (m + 1) l0 y3 y4 y5 xs y1 y6 h r g l2 =
  bif decide (y6 < y1) then
   bif decide (0 ≤ y6) && decide (y6 < (↑xs.length : Int)) then
    bif decide ((xs.getD y6.toNat SpR.dflt).fst ≥ h) then
     bif decide (w64 (y3 + 1) ≥ r) then
      bif decide (0 ≤ y6) && decide (y6 < (↑l0 : Int)) then
       risen_0 fu m l0 (w64 (y3 + 1)) (w64 (y4 + 1)) 2 xs y1 (w64 (y6 + 1)) h r g (l2.set (0 + y6.toNat) 2)
      else
       none
     else
      bif decide (w64 (y4 + 1) ≥ r) then
       bif decide (0 ≤ y6) && decide (y6 < (↑l0 : Int)) then
        risen_0 fu m l0 (w64 (y3 + 1)) (w64 (y4 + 1)) (mx y5 1) xs y1 (w64 (y6 + 1)) h r g (l2.set (0 + y6.toNat) (mx y5 1))
       else
        none
      else
       bif decide (0 ≤ y6) && decide (y6 < (↑l0 : Int)) then
        risen_0 fu m l0 (w64 (y3 + 1)) (w64 (y4 + 1)) y5 xs y1 (w64 (y6 + 1)) h r g (l2.set (0 + y6.toNat) y5)
       else
        none
    else
     bif decide ((xs.getD y6.toNat SpR.dflt).snd ≤ w64 (0 - h)) then
      bif decide (w64 (y3 + 1) ≥ r) then
       bif decide (0 ≤ y6) && decide (y6 < (↑l0 : Int)) then
        risen_0 fu m l0 (w64 (y3 + 1)) (w64 (y4 + 1)) 2 xs y1 (w64 (y6 + 1)) h r g (l2.set (0 + y6.toNat) 2)
       else
        none
      else
       bif decide (w64 (y4 + 1) ≥ r) then
        bif decide (0 ≤ y6) && decide (y6 < (↑l0 : Int)) then
         risen_0 fu m l0 (w64 (y3 + 1)) (w64 (y4 + 1)) (mx y5 1) xs y1 (w64 (y6 + 1)) h r g (l2.set (0 + y6.toNat) (mx y5 1))
        else
         none
       else
        bif decide (0 ≤ y6) && decide (y6 < (↑l0 : Int)) then
         risen_0 fu m l0 (w64 (y3 + 1)) (w64 (y4 + 1)) y5 xs y1 (w64 (y6 + 1)) h r g (l2.set (0 + y6.toNat) y5)
        else
         none
     else
      bif decide ((xs.getD y6.toNat SpR.dflt).fst > w64 (0 - h)) then
       bif decide ((xs.getD y6.toNat SpR.dflt).snd < h) then
        bif decide (0 ≥ r) then
         bif decide (0 ≤ y6) && decide (y6 < (↑l0 : Int)) then
          risen_0 fu m l0 0 0 2 xs y1 (w64 (y6 + 1)) h r g (l2.set (0 + y6.toNat) 2)
         else
          none
        else
         bif decide (0 ≥ r) then
          bif decide (0 ≤ y6) && decide (y6 < (↑l0 : Int)) then
           risen_0 fu m l0 0 0 (mx y5 1) xs y1 (w64 (y6 + 1)) h r g (l2.set (0 + y6.toNat) (mx y5 1))
          else
           none
         else
          bif decide (0 ≤ y6) && decide (y6 < (↑l0 : Int)) then
           risen_0 fu m l0 0 0 y5 xs y1 (w64 (y6 + 1)) h r g (l2.set (0 + y6.toNat) y5)
          else
           none
       else
        bif decide (0 ≥ r) then
         bif decide (0 ≤ y6) && decide (y6 < (↑l0 : Int)) then
          risen_0 fu m l0 0 (w64 (y4 + 1)) 2 xs y1 (w64 (y6 + 1)) h r g (l2.set (0 + y6.toNat) 2)
         else
          none
        else
         bif decide (w64 (y4 + 1) ≥ r) then
          bif decide (0 ≤ y6) && decide (y6 < (↑l0 : Int)) then
           risen_0 fu m l0 0 (w64 (y4 + 1)) (mx y5 1) xs y1 (w64 (y6 + 1)) h r g (l2.set (0 + y6.toNat) (mx y5 1))
          else
           none
         else
          bif decide (0 ≤ y6) && decide (y6 < (↑l0 : Int)) then
           risen_0 fu m l0 0 (w64 (y4 + 1)) y5 xs y1 (w64 (y6 + 1)) h r g (l2.set (0 + y6.toNat) y5)
          else
           none
      else
       bif decide (0 ≥ r) then
        bif decide (0 ≤ y6) && decide (y6 < (↑l0 : Int)) then
         risen_0 fu m l0 0 (w64 (y4 + 1)) 2 xs y1 (w64 (y6 + 1)) h r g (l2.set (0 + y6.toNat) 2)
        else
         none
       else
        bif decide (w64 (y4 + 1) ≥ r) then
         bif decide (0 ≤ y6) && decide (y6 < (↑l0 : Int)) then
          risen_0 fu m l0 0 (w64 (y4 + 1)) (mx y5 1) xs y1 (w64 (y6 + 1)) h r g (l2.set (0 + y6.toNat) (mx y5 1))
         else
          none
        else
         bif decide (0 ≤ y6) && decide (y6 < (↑l0 : Int)) then
          risen_0 fu m l0 0 (w64 (y4 + 1)) y5 xs y1 (w64 (y6 + 1)) h r g (l2.set (0 + y6.toNat) y5)
         else
          none
   else
    none
  else
   some ((D.sl (Row.one (CT.int .i64)) (List.take l0 (List.drop 0 l2)) .no, [])) := by kernel_rfl
theorem risen_e (fu : Nat) (xs : List (Int × Int)) (h : Int) (r : Int) (g : Int) : (cf6 fu).call 61 0 106 [D.agg [D.sl SpR xs .no], rlD h r g] [] (fun d σ => some (d, σ)) =
  bif decide (0 ≤ (↑xs.length : Int)) && decide ((↑xs.length : Int) = (↑xs.length : Int)) && room ((↑xs.length : Int)).toNat 8 then
   risen_0 fu fu ((↑xs.length : Int)).toNat 0 0 0 xs (↑xs.length : Int) 0 h r g (List.replicate ((↑xs.length : Int)).toNat 0)
  else
   none := by kernel_rfl
noncomputable def enough_0 (fu m : Nat) (g : Int) (y1 : Int) (y2 : Int) (xs : List Int) (y0 : Int) (y3 : Int) : Option Res := (cf6 fu).loop 60 107 [true, true, false, true] [] 0 m ⟨tmOf 32 [(0, D.int .i64 g), (4, D.int .i64 0), (5, D.int .i64 y1), (6, D.int .i64 y2), (9, D.sl (Row.one (CT.int .i64)) xs .no), (10, D.int .i64 y0), (11, D.int .i64 y3)], []⟩
theorem enough_0s (fu m : Nat) (g : Int) (y1 : Int) (y2 : Int) (xs : List Int) (y0 : Int) (y3 : Int) : enough_0 fu (m + 1) g y1 y2 xs y0 y3 =
  bif decide (y3 < y0) then
   bif decide (0 ≤ y3) && decide (y3 < (↑xs.length : Int)) then
    bif xs.getD y3.toNat (Row.one (CT.int .i64)).dflt == 2 then
     bif xs.getD y3.toNat (Row.one (CT.int .i64)).dflt != 0 then
      enough_0 fu m g (w64 (y1 + 1)) (w64 (y2 + 1)) xs y0 (w64 (y3 + 1))
     else
      enough_0 fu m g (w64 (y1 + 1)) y2 xs y0 (w64 (y3 + 1))
    else
     bif xs.getD y3.toNat (Row.one (CT.int .i64)).dflt != 0 then
      enough_0 fu m g y1 (w64 (y2 + 1)) xs y0 (w64 (y3 + 1))
     else
      enough_0 fu m g y1 y2 xs y0 (w64 (y3 + 1))
   else
    none
  else
   bif decide (y1 ≥ g) then
    some ((D.int .i64 2, []))
   else
    bif decide (y2 < g) then
     some ((D.int .i64 0, []))
    else
     some ((D.int .i64 1, [])) := by kernel_rfl
theorem enough_e (fu : Nat) (g : Int) (xs : List Int) : (cf6 fu).call 61 0 107 [D.int .i64 g, D.sl AnR xs .no] [] (fun d σ => some (d, σ)) =
  enough_0 fu fu g 0 0 xs (↑xs.length : Int) 0 := by kernel_rfl
noncomputable def idxG1_0 (fu m : Nat) (xs : List (List (Int × Int))) (y0 : Int) (y1 : Int) : Option Res := (cf6 fu).loop 60 128 [true, false, true] [] 0 m ⟨tmOf 19 [(0, D.sl (Row.one (CT.sl SpR)) xs .no), (1, D.fn 103 [] []), (4, D.int .i64 0), (7, D.int .i64 y0), (8, D.int .i64 y1)], []⟩
theorem idxG1_0s (fu m : Nat) (xs : List (List (Int × Int))) (y0 : Int) (y1 : Int) : idxG1_0 fu (m + 1) xs y0 y1 =
  bif decide (y1 < y0) then
   bif decide (0 ≤ y1) && decide (y1 < (↑xs.length : Int)) then
    bif decide ((↑(List.length (xs.getD y1.toNat (Row.one (CT.sl SpR)).dflt)) : Int) > 256) then
     some ((D.int .i64 y1, []))
    else
     idxG1_0 fu m xs y0 (w64 (y1 + 1))
   else
    none
  else
   some ((D.int .i64 (-1), [])) := by kernel_rfl
theorem idxG1_e (fu : Nat) (xs : List (List (Int × Int))) : (cf6 fu).call 61 0 128 [D.sl GaR xs .no, D.fn 103 [] []] [] (fun d σ => some (d, σ)) =
  idxG1_0 fu fu xs (↑xs.length : Int) 0 := by kernel_rfl
noncomputable def risenR_0 (fu m : Nat) (k : Int) (y3 : Int) (y0 : Int) (xs : List (Int × Int)) (h : Int) (r : Int) (g : Int) : Option Res := (cf6 fu).loop 60 116 [true, true, false, true] [] 2 m ⟨tmOf 43 [(2, D.int .i64 k), (3, D.ptr 0 0), (4, D.ptr 1 0), (6, D.int .i64 0), (7, D.int .i64 y3), (8, D.int .i64 y0)], [Ent.box [D.sl SpR xs .no], Ent.box [D.int .i64 h, D.int .i64 r, D.int .i64 g]]⟩
noncomputable def risenR_2 (fu m0 m : Nat) (k : Int) (y4 : Int) (y0 : Int) (y2 : Int) (y1 : Int) (xs : List (Int × Int)) (h : Int) (r : Int) (g : Int) : Option Res := (cf6 fu).loop 60 116 [true, true, false, true, true, true, false, true, false, true] [(2, m0)] 2 m ⟨tmOf 43 [(2, D.int .i64 k), (3, D.ptr 0 0), (4, D.ptr 1 0), (6, D.int .i64 0), (7, D.int .i64 y4), (8, D.int .i64 y0), (9, D.int .i64 y2), (10, D.int .i64 y1)], [Ent.box [D.sl SpR xs .no], Ent.box [D.int .i64 h, D.int .i64 r, D.int .i64 g]]⟩
theorem risenR_0s (fu m : Nat) (k : Int) (y3 : Int) (y0 : Int) (xs : List (Int × Int)) (h : Int) (r : Int) (g : Int) : risenR_0 fu (m + 1) k y3 y0 xs h r g =
  bif decide (y0 ≤ k) then
   risenR_2 fu m fu k y3 y0 2 (w64 (w64 (y0 - r) + 1)) xs h r g
  else
   some ((D.int .i64 y3, [])) := by kernel_rfl
theorem risenR_2s (fu m0 m : Nat) (k : Int) (y4 : Int) (y0 : Int) (y2 : Int) (y1 : Int) (xs : List (Int × Int)) (h : Int) (r : Int) (g : Int) : risenR_2 fu m0 (m + 1) k y4 y0 y2 y1 xs h r g =
  bif decide (y1 ≤ y0) then
   bif decide (0 ≤ y1) && decide (y1 < (↑xs.length : Int)) then
    bif decide ((xs.getD y1.toNat SpR.dflt).fst ≥ h) then
     risenR_2 fu m0 m k y4 y0 (mn y2 2) (w64 (y1 + 1)) xs h r g
    else
     bif decide ((xs.getD y1.toNat SpR.dflt).snd ≤ w64 (0 - h)) then
      risenR_2 fu m0 m k y4 y0 (mn y2 2) (w64 (y1 + 1)) xs h r g
     else
      bif decide ((xs.getD y1.toNat SpR.dflt).snd < h) then
       bif decide ((xs.getD y1.toNat SpR.dflt).fst > w64 (0 - h)) then
        risenR_2 fu m0 m k y4 y0 (mn y2 0) (w64 (y1 + 1)) xs h r g
       else
        risenR_2 fu m0 m k y4 y0 (mn y2 1) (w64 (y1 + 1)) xs h r g
      else
       risenR_2 fu m0 m k y4 y0 (mn y2 1) (w64 (y1 + 1)) xs h r g
   else
    none
  else
   risenR_0 fu m0 k (mx y4 y2) (w64 (y0 + 1)) xs h r g := by kernel_rfl
theorem risenR_e (fu : Nat) (xs : List (Int × Int)) (h : Int) (r : Int) (g : Int) (k : Int) : (cf6 fu).call 61 0 116 [D.agg [D.sl SpR xs .no], rlD h r g, D.int .i64 k] [] (fun d σ => some (d, σ)) =
  risenR_0 fu fu k 0 (w64 (r - 1)) xs h r g := by kernel_rfl
noncomputable def indexA_0 (fu m : Nat) (xs : List Int) (a : Int) (y0 : Int) (y1 : Int) : Option Res := (cf6 fu).loop 60 63 [true, false, true] [] 0 m ⟨tmOf 19 [(0, D.sl (Row.one (CT.int .i64)) xs .no), (1, D.int .i64 a), (4, D.int .i64 0), (7, D.int .i64 y0), (8, D.int .i64 y1)], []⟩
theorem indexA_0s (fu m : Nat) (xs : List Int) (a : Int) (y0 : Int) (y1 : Int) : indexA_0 fu (m + 1) xs a y0 y1 =
  bif decide (y1 < y0) then
   bif decide (0 ≤ y1) && decide (y1 < (↑xs.length : Int)) then
    bif a == xs.getD y1.toNat (Row.one (CT.int .i64)).dflt then
     some ((D.int .i64 y1, []))
    else
     indexA_0 fu m xs a y0 (w64 (y1 + 1))
   else
    none
  else
   some ((D.int .i64 (-1), [])) := by kernel_rfl
theorem indexA_e (fu : Nat) (xs : List Int) (a : Int) : (cf6 fu).call 61 0 63 [D.sl AnR xs .no, D.int .i64 a] [] (fun d σ => some (d, σ)) =
  indexA_0 fu fu xs a (↑xs.length : Int) 0 := by kernel_rfl
noncomputable def idxA_0 (fu m : Nat) (xs : List Int) (y0 : Int) (y1 : Int) : Option Res := (cf6 fu).loop 60 64 [true, false, true] [] 0 m ⟨tmOf 19 [(0, D.sl (Row.one (CT.int .i64)) xs .no), (1, D.fn 65 [] []), (4, D.int .i64 0), (7, D.int .i64 y0), (8, D.int .i64 y1)], []⟩
theorem idxA_0s (fu m : Nat) (xs : List Int) (y0 : Int) (y1 : Int) : idxA_0 fu (m + 1) xs y0 y1 =
  bif decide (y1 < y0) then
   bif decide (0 ≤ y1) && decide (y1 < (↑xs.length : Int)) then
    bif xs.getD y1.toNat (Row.one (CT.int .i64)).dflt != 0 then
     some ((D.int .i64 y1, []))
    else
     idxA_0 fu m xs y0 (w64 (y1 + 1))
   else
    none
  else
   some ((D.int .i64 (-1), [])) := by kernel_rfl
theorem idxA_e (fu : Nat) (xs : List Int) : (cf6 fu).call 61 0 64 [D.sl AnR xs .no, D.fn 65 [] []] [] (fun d σ => some (d, σ)) =
  idxA_0 fu fu xs (↑xs.length : Int) 0 := by kernel_rfl
noncomputable def idxC_0 (fu m : Nat) (xs : List (Int × Int × Int × Int × Int)) (y0 : Int) (y1 : Int) : Option Res := (cf6 fu).loop 60 119 [true, false, true] [] 0 m ⟨tmOf 19 [(0, D.sl (Row.cons (CT.int .i64) BxR) xs .no), (1, D.fn 82 [] []), (4, D.int .i64 0), (7, D.int .i64 y0), (8, D.int .i64 y1)], []⟩
theorem idxC_0s (fu m : Nat) (xs : List (Int × Int × Int × Int × Int)) (y0 : Int) (y1 : Int) : idxC_0 fu (m + 1) xs y0 y1 =
  bif decide (y1 < y0) then
   bif decide (0 ≤ y1) && decide (y1 < (↑xs.length : Int)) then
    bif decide (2 < fu ∧ fu ≤ 100000) then
     bif e02 (Sp.vb ((xs.getD y1.toNat (Row.cons (CT.int .i64) BxR).dflt).fst, (xs.getD y1.toNat (Row.cons (CT.int .i64) BxR).dflt).snd.fst, (xs.getD y1.toNat (Row.cons (CT.int .i64) BxR).dflt).snd.snd.fst, (xs.getD y1.toNat (Row.cons (CT.int .i64) BxR).dflt).snd.snd.snd.fst)) != 0 then
      some ((D.int .i64 y1, []))
     else
      bif decide ((xs.getD y1.toNat (Row.cons (CT.int .i64) BxR).dflt).snd.snd.snd.snd ≥ 0) then
       bif !decide ((xs.getD y1.toNat (Row.cons (CT.int .i64) BxR).dflt).snd.snd.snd.snd ≤ 16777216) then
        some ((D.int .i64 y1, []))
       else
        idxC_0 fu m xs y0 (w64 (y1 + 1))
      else
       some ((D.int .i64 y1, []))
    else
     none
   else
    none
  else
   some ((D.int .i64 (-1), [])) := by kernel_rfl
theorem idxC_e (fu : Nat) (xs : List (Int × Int × Int × Int × Int)) : (cf6 fu).call 61 0 119 [D.sl CoR xs .no, D.fn 82 [] []] [] (fun d σ => some (d, σ)) =
  idxC_0 fu fu xs (↑xs.length : Int) 0 := by kernel_rfl
end Go.Proofs.Ytaheamdoldiojaa.P
namespace Go.Proofs.Ytaheamdoldiojaa.P
open Go Go.RowKit Go.Am
/-! ### Gauges: the program's series and the reference's windows -/
def Sp.high (s : Int × Int) (h : Int) : Int := if s.1 ≥ h ∨ s.2 ≤ -h then 2 else if s.1 > -h ∧ s.2 < h then 0 else 1
theorem Sp.high_3 (s : Int × Int) (h : Int) : Sp.high s h = 0 ∨ Sp.high s h = 1 ∨ Sp.high s h = 2 := by
  unfold Sp.high
  repeat' split
  all_goals simp
def Sp.ry (h y : Int) (s : Int × Int) : Int := if Sp.high s h = 2 then y + 1 else 0
def Sp.rm (h m : Int) (s : Int × Int) : Int := if Sp.high s h = 0 then 0 else m + 1
def Sp.rl (run y m last : Int) : Int := if y ≥ run then 2 else if m ≥ run then mx last 1 else last
def Sp.rise (h run : Int) : Int → Int → Int → List (Int × Int) → List Int
  | _, _, _, [] => []
  | y, m, last, s :: xs => Sp.rl run (Sp.ry h y s) (Sp.rm h m s) last :: Sp.rise h run (Sp.ry h y s) (Sp.rm h m s) (Sp.rl run (Sp.ry h y s) (Sp.rm h m s) last) xs
theorem Sp.rise_len (h run : Int) : ∀ (xs : List (Int × Int)) (y m last : Int), (Sp.rise h run y m last xs).length = xs.length
  | [], _, _, _ => rfl
  | s :: xs, y, m, last => by rw [Sp.rise, List.length_cons, List.length_cons, Sp.rise_len h run xs]
/-- How it stands after so many samples. -/
def Ms.st (h run : Int) (xs : List (Int × Int)) : Nat → Int × Int × Int
  | 0 => (0, 0, 0)
  | k + 1 => (Sp.ry h (Ms.st h run xs k).1 (xs.getD k (0, 0)), Sp.rm h (Ms.st h run xs k).2.1 (xs.getD k (0, 0)), Sp.rl run (Sp.ry h (Ms.st h run xs k).1 (xs.getD k (0, 0))) (Sp.rm h (Ms.st h run xs k).2.1 (xs.getD k (0, 0))) (Ms.st h run xs k).2.2)
theorem Ms.rise_st (h run : Int) (xs : List (Int × Int)) : ∀ k i : Nat, i + k < xs.length → (Sp.rise h run (Ms.st h run xs i).1 (Ms.st h run xs i).2.1 (Ms.st h run xs i).2.2 (xs.drop i)).getD k 0 = (Ms.st h run xs (i + k + 1)).2.2
  | 0, i, hi => by
    have hlt : i < xs.length := by omega
    rw [drop_cons hlt, Sp.rise, Ms.st, show xs.getD i (0, 0) = xs[i] by simp [List.getD, hlt]]
    rfl
  | k + 1, i, hi => by
    have hlt : i < xs.length := by omega
    have ih := Ms.rise_st h run xs k (i + 1) (by omega)
    rw [Ms.st, show xs.getD i (0, 0) = xs[i] by simp [List.getD, hlt]] at ih
    rw [drop_cons hlt, Sp.rise, List.getD_cons_succ, show i + (k + 1) + 1 = i + 1 + k + 1 by omega]
    exact ih
theorem Ms.rise_get (h run : Int) (xs : List (Int × Int)) (k : Nat) (hk : k < xs.length) : (Sp.rise h run 0 0 0 xs).getD k 0 = (Ms.st h run xs (k + 1)).2.2 := by
  have := Ms.rise_st h run xs k 0 (by omega)
  rw [List.drop_zero, Nat.zero_add] at this
  exact this
def Ms.hi (h : Int) (xs : List (Int × Int)) (i : Nat) : Int := Sp.high (xs.getD i (0, 0)) h
theorem Ms.st_y (h run : Int) (xs : List (Int × Int)) : ∀ k : Nat, 0 ≤ (Ms.st h run xs k).1 ∧ (Ms.st h run xs k).1 ≤ (k : Int) ∧ ∀ n : Nat, n ≤ k → ((n : Int) ≤ (Ms.st h run xs k).1 ↔ ∀ i, k - n ≤ i → i < k → Ms.hi h xs i = 2)
  | 0 => ⟨Int.le_refl _, Int.le_refl _, fun n hn => ⟨fun _ i h1 h2 => by omega, fun _ => by show (n : Int) ≤ 0; omega⟩⟩
  | k + 1 => by
    obtain ⟨h0, h1, h2⟩ := Ms.st_y h run xs k
    rw [Ms.st]
    dsimp only
    unfold Sp.ry
    by_cases c : Ms.hi h xs k = 2
    · rw [if_pos (show Sp.high (xs.getD k (0, 0)) h = 2 from c)]
      refine ⟨by omega, by omega, fun n hn => ?_⟩
      cases n with
      | zero => exact ⟨fun _ i h3 h4 => by omega, fun _ => by omega⟩
      | succ n =>
        have := h2 n (by omega)
        constructor
        · intro q i h3 h4
          by_cases e : i = k
          · subst e
            exact c
          · exact this.1 (by omega) i (by omega) (by omega)
        · intro q
          have := this.2 (fun i h3 h4 => q i (by omega) (by omega))
          omega
    · rw [if_neg (show ¬ Sp.high (xs.getD k (0, 0)) h = 2 from c)]
      refine ⟨by omega, by omega, fun n hn => ⟨fun q i h3 h4 => by omega, fun q => ?_⟩⟩
      cases n with
      | zero => omega
      | succ n => exact absurd (q k (by omega) (by omega)) c
theorem Ms.st_m (h run : Int) (xs : List (Int × Int)) : ∀ k : Nat, 0 ≤ (Ms.st h run xs k).2.1 ∧ (Ms.st h run xs k).2.1 ≤ (k : Int) ∧ ∀ n : Nat, n ≤ k → ((n : Int) ≤ (Ms.st h run xs k).2.1 ↔ ∀ i, k - n ≤ i → i < k → Ms.hi h xs i ≠ 0)
  | 0 => ⟨Int.le_refl _, Int.le_refl _, fun n hn => ⟨fun _ i h1 h2 => by omega, fun _ => by show (n : Int) ≤ 0; omega⟩⟩
  | k + 1 => by
    obtain ⟨h0, h1, h2⟩ := Ms.st_m h run xs k
    rw [Ms.st]
    dsimp only
    unfold Sp.rm
    by_cases c : Ms.hi h xs k = 0
    · rw [if_pos (show Sp.high (xs.getD k (0, 0)) h = 0 from c)]
      refine ⟨by omega, by omega, fun n hn => ⟨fun q i h3 h4 => by omega, fun q => ?_⟩⟩
      cases n with
      | zero => omega
      | succ n => exact absurd c (q k (by omega) (by omega))
    · rw [if_neg (show ¬ Sp.high (xs.getD k (0, 0)) h = 0 from c)]
      refine ⟨by omega, by omega, fun n hn => ?_⟩
      cases n with
      | zero => exact ⟨fun _ i h3 h4 => by omega, fun _ => by omega⟩
      | succ n =>
        have := h2 n (by omega)
        constructor
        · intro q i h3 h4
          by_cases e : i = k
          · subst e
            exact c
          · exact this.1 (by omega) i (by omega) (by omega)
        · intro q
          have := this.2 (fun i h3 h4 => q i (by omega) (by omega))
          omega
/-- The least of a window. -/
def Ms.mnw (h : Int) (xs : List (Int × Int)) : Nat → Nat → Int → Int
  | 0, _, a => a
  | n + 1, i, a => Ms.mnw h xs n (i + 1) (mn a (Ms.hi h xs i))
/-- The greatest of so many windows. -/
def Ms.mxw (h : Int) (run : Nat) (xs : List (Int × Int)) : Nat → Nat → Int → Int
  | 0, _, a => a
  | n + 1, j, a => Ms.mxw h run xs n (j + 1) (mx a (Ms.mnw h xs run (j + 1 - run) 2))
theorem Ms.mnw_is (h : Int) (xs : List (Int × Int)) : ∀ (n i : Nat) (a : Int), a = 0 ∨ a = 1 ∨ a = 2 → (Ms.mnw h xs n i a = 2 ↔ a = 2 ∧ ∀ j, i ≤ j → j < i + n → Ms.hi h xs j = 2) ∧ (Ms.mnw h xs n i a ≠ 0 ↔ a ≠ 0 ∧ ∀ j, i ≤ j → j < i + n → Ms.hi h xs j ≠ 0) ∧ (Ms.mnw h xs n i a = 0 ∨ Ms.mnw h xs n i a = 1 ∨ Ms.mnw h xs n i a = 2)
  | 0, i, a, ha => ⟨⟨fun q => ⟨q, fun j h1 h2 => by omega⟩, fun q => q.1⟩, ⟨fun q => ⟨q, fun j h1 h2 => by omega⟩, fun q => q.1⟩, ha⟩
  | n + 1, i, a, ha => by
    have h3 := Sp.high_3 (xs.getD i (0, 0)) h
    have hm : mn a (Ms.hi h xs i) = 0 ∨ mn a (Ms.hi h xs i) = 1 ∨ mn a (Ms.hi h xs i) = 2 := by
      unfold mn
      split
      · exact h3
      · exact ha
    obtain ⟨i1, i2, i3⟩ := Ms.mnw_is h xs n (i + 1) (mn a (Ms.hi h xs i)) hm
    have e2 : mn a (Ms.hi h xs i) = 2 ↔ a = 2 ∧ Ms.hi h xs i = 2 := by
      unfold mn Ms.hi at *
      split <;> omega
    have e0 : mn a (Ms.hi h xs i) ≠ 0 ↔ a ≠ 0 ∧ Ms.hi h xs i ≠ 0 := by
      unfold mn Ms.hi at *
      split <;> omega
    rw [Ms.mnw]
    refine ⟨?_, ?_, i3⟩
    · rw [i1, e2]
      constructor
      · rintro ⟨⟨q1, q2⟩, q3⟩
        refine ⟨q1, fun j h1 h2 => ?_⟩
        by_cases e : j = i
        · subst e
          exact q2
        · exact q3 j (by omega) (by omega)
      · rintro ⟨q1, q2⟩
        exact ⟨⟨q1, q2 i (by omega) (by omega)⟩, fun j h1 h2 => q2 j (by omega) (by omega)⟩
    · rw [i2, e0]
      constructor
      · rintro ⟨⟨q1, q2⟩, q3⟩
        refine ⟨q1, fun j h1 h2 => ?_⟩
        by_cases e : j = i
        · subst e
          exact q2
        · exact q3 j (by omega) (by omega)
      · rintro ⟨q1, q2⟩
        exact ⟨⟨q1, q2 i (by omega) (by omega)⟩, fun j h1 h2 => q2 j (by omega) (by omega)⟩
theorem Ms.st_last (h : Int) (run : Nat) (hr : 1 ≤ run) (xs : List (Int × Int)) : ∀ k : Nat, ((Ms.st h run xs k).2.2 = 0 ∨ (Ms.st h run xs k).2.2 = 1 ∨ (Ms.st h run xs k).2.2 = 2) ∧ (k < run → (Ms.st h run xs k).2.2 = 0) ∧ (run ≤ k + 1 → (Ms.st h run xs (k + 1)).2.2 = mx (Ms.st h run xs k).2.2 (Ms.mnw h xs run (k + 1 - run) 2)) := by
  intro k
  have y := Ms.st_y h run xs
  have m := Ms.st_m h run xs
  have step : ∀ k, (Ms.st h run xs (k + 1)).2.2 = Sp.rl run (Ms.st h run xs (k + 1)).1 (Ms.st h run xs (k + 1)).2.1 (Ms.st h run xs k).2.2 := fun k => rfl
  have three : ∀ k, (Ms.st h run xs k).2.2 = 0 ∨ (Ms.st h run xs k).2.2 = 1 ∨ (Ms.st h run xs k).2.2 = 2 := by
    intro k
    induction k with
    | zero => exact .inl rfl
    | succ k ih =>
      rw [step k]
      unfold Sp.rl mx
      repeat' split
      all_goals omega
  have zero : ∀ k, k < run → (Ms.st h run xs k).2.2 = 0 := by
    intro k
    induction k with
    | zero => exact fun _ => rfl
    | succ k ih =>
      intro hk
      have a := (y (k + 1)).2.1
      have b := (m (k + 1)).2.1
      rw [step k, ih (by omega)]
      unfold Sp.rl
      rw [if_neg (by omega), if_neg (by omega)]
  refine ⟨three k, zero k, fun hk => ?_⟩
  have a := (y (k + 1)).2.2 run hk
  have b := (m (k + 1)).2.2 run hk
  obtain ⟨w1, w2, w3⟩ := Ms.mnw_is h xs run (k + 1 - run) 2 (.inr (.inr rfl))
  rw [show k + 1 - run + run = k + 1 by omega] at w1 w2
  have t := three k
  rw [step k]
  unfold Sp.rl
  by_cases c1 : (Ms.st h run xs (k + 1)).1 ≥ run
  · rw [if_pos c1, w1.2 ⟨rfl, a.1 c1⟩]
    unfold mx
    split <;> omega
  · rw [if_neg c1]
    have n2 : Ms.mnw h xs run (k + 1 - run) 2 ≠ 2 := fun q => c1 (a.2 (w1.1 q).2)
    by_cases c2 : (Ms.st h run xs (k + 1)).2.1 ≥ run
    · have n0 := w2.2 ⟨by decide, b.1 c2⟩
      rw [if_pos c2, show Ms.mnw h xs run (k + 1 - run) 2 = 1 by omega]
    · have n0 : Ms.mnw h xs run (k + 1 - run) 2 = 0 := Decidable.byContradiction fun q => c2 (b.2 (w2.1 q).2)
      rw [if_neg c2, n0]
      unfold mx
      rw [if_neg (by omega)]
theorem Ms.mxw_st (h : Int) (run : Nat) (hr : 1 ≤ run) (xs : List (Int × Int)) : ∀ n j : Nat, run ≤ j + 1 → Ms.mxw h run xs n j (Ms.st h run xs j).2.2 = (Ms.st h run xs (j + n)).2.2
  | 0, j, _ => rfl
  | n + 1, j, hj => by
    rw [Ms.mxw, ← (Ms.st_last h run hr xs j).2.2 hj, Ms.mxw_st h run hr xs n (j + 1) (by omega), show j + 1 + n = j + (n + 1) by omega]
/-- The reference's windows say what the program's series say. -/
theorem Ms.rise_win (h : Int) (run : Nat) (hr : 1 ≤ run) (xs : List (Int × Int)) (k : Nat) (hk : k < xs.length) : Ms.mxw h run xs (k + 2 - run) (run - 1) 0 = (Sp.rise h run 0 0 0 xs).getD k 0 := by
  rw [Ms.rise_get h run xs k hk]
  have z := (Ms.st_last h run hr xs (run - 1)).2.1 (by omega)
  by_cases c : run ≤ k + 1
  · have := Ms.mxw_st h run hr xs (k + 2 - run) (run - 1) (by omega)
    rw [z, show run - 1 + (k + 2 - run) = k + 1 by omega] at this
    exact this
  · rw [show k + 2 - run = 0 by omega, Ms.mxw]
    exact ((Ms.st_last h run hr xs (k + 1)).2.1 (by omega)).symm
end Go.Proofs.Ytaheamdoldiojaa.P
namespace Go.Proofs.Ytaheamdoldiojaa.P
open Go Go.RowKit Go.Am
/-! ### risen, enough, Index.. -/
theorem ct' {α : Type} {b : Bool} {x y : α} (h : b = true) : cond b x y = x := by rw [h]; rfl
theorem cf' {α : Type} {b : Bool} {x y : α} (h : b = false) : cond b x y = y := by rw [h]; rfl
theorem set_next (done : List Int) (n i : Nat) (v : Int) (h : done.length = i) : (done ++ List.replicate (n + 1) 0).set (0 + (i : Int).toNat) v = (done ++ [v]) ++ List.replicate n 0 := by
  subst h
  rw [Int.toNat_natCast, Nat.zero_add, List.replicate_succ, List.set_append_right _ _ (Nat.le_refl _), Nat.sub_self, List.set_cons_zero, List.append_assoc]
  rfl
theorem risen_l {fu : Nat} (xs : List (Int × Int)) (h r g : Int) (hl : xs.length ≤ 256) (h1 : 1 ≤ h) (h2 : h ≤ 1073741824) (r1 : 1 ≤ r) : ∀ (n m i : Nat) (done : List Int) (y mm last : Int), i + n = xs.length → n < m → done.length = i → 0 ≤ y → y ≤ i → 0 ≤ mm → mm ≤ i → risen_0 fu m xs.length y mm last xs (xs.length : Int) (i : Int) h r g (done ++ List.replicate n 0) = some (.sl AnR (done ++ Sp.rise h r y mm last (xs.drop i)) .no, [])
  | 0, m, i, done, y, mm, last, hi, hm, hd, y0, y1, m0, m1 => by
    obtain ⟨m, rfl⟩ : ∃ j, m = j + 1 := ⟨m - 1, by omega⟩
    rw [risen_0s, cn (by omega), List.drop_eq_nil_of_le (show xs.length ≤ i by omega), Sp.rise, List.drop_zero, List.replicate_zero, List.append_nil, List.take_of_length_le (by omega)]
  | n + 1, m, i, done, y, mm, last, hi, hm, hd, y0, y1, m0, m1 => by
    obtain ⟨m, rfl⟩ : ∃ j, m = j + 1 := ⟨m - 1, by omega⟩
    have hlt : i < xs.length := by omega
    have fin : ∀ y' m' v : Int, y' = Sp.ry h y xs[i] → m' = Sp.rm h mm xs[i] → v = Sp.rl r y' m' last → (bif decide (0 ≤ (i : Int)) && decide ((i : Int) < (xs.length : Int)) then risen_0 fu m xs.length y' m' v xs (xs.length : Int) (w64 ((i : Int) + 1)) h r g ((done ++ List.replicate (n + 1) 0).set (0 + (i : Int).toNat) v) else none) = some (.sl AnR (done ++ Sp.rise h r y mm last (xs.drop i)) .no, []) := fun y' m' v e1 e2 e3 => by
      have by0 : 0 ≤ Sp.ry h y xs[i] ∧ Sp.ry h y xs[i] ≤ y + 1 := by unfold Sp.ry; split <;> omega
      have bm0 : 0 ≤ Sp.rm h mm xs[i] ∧ Sp.rm h mm xs[i] ≤ mm + 1 := by unfold Sp.rm; split <;> omega
      rw [ca ⟨by omega, by omega⟩, w_succ hlt (by omega), set_next done n i v hd, drop_cons hlt, Sp.rise, ← e1, ← e2, ← e3, risen_l xs h r g hl h1 h2 r1 n m (i + 1) (done ++ [v]) y' m' v (by omega) (by omega) (by simp; omega) (by omega) (by omega) (by omega) (by omega), List.append_assoc]
      rfl
    rw [risen_0s, cp (by omega), ca ⟨by omega, by omega⟩, getD_nat i hlt, w_id (n := 0 - h) (by omega) (by omega), w_id (n := y + 1) (by omega) (by omega), w_id (n := mm + 1) (by omega) (by omega)]
    have yes : Sp.high xs[i] h = 2 → (bif decide (y + 1 ≥ r) then (bif decide (0 ≤ (i : Int)) && decide ((i : Int) < (xs.length : Int)) then risen_0 fu m xs.length (y + 1) (mm + 1) 2 xs (xs.length : Int) (w64 ((i : Int) + 1)) h r g ((done ++ List.replicate (n + 1) 0).set (0 + (i : Int).toNat) 2) else none) else bif decide (mm + 1 ≥ r) then (bif decide (0 ≤ (i : Int)) && decide ((i : Int) < (xs.length : Int)) then risen_0 fu m xs.length (y + 1) (mm + 1) (mx last 1) xs (xs.length : Int) (w64 ((i : Int) + 1)) h r g ((done ++ List.replicate (n + 1) 0).set (0 + (i : Int).toNat) (mx last 1)) else none) else (bif decide (0 ≤ (i : Int)) && decide ((i : Int) < (xs.length : Int)) then risen_0 fu m xs.length (y + 1) (mm + 1) last xs (xs.length : Int) (w64 ((i : Int) + 1)) h r g ((done ++ List.replicate (n + 1) 0).set (0 + (i : Int).toNat) last) else none)) = some (.sl AnR (done ++ Sp.rise h r y mm last (xs.drop i)) .no, []) := fun e => by
      have ey : y + 1 = Sp.ry h y xs[i] := by unfold Sp.ry; rw [if_pos e]
      have em : mm + 1 = Sp.rm h mm xs[i] := by unfold Sp.rm; rw [if_neg (by rw [e]; decide)]
      by_cases q1 : y + 1 ≥ r
      · rw [cp q1]
        exact fin _ _ _ ey em (by unfold Sp.rl; rw [if_pos q1])
      rw [cn q1]
      by_cases q2 : mm + 1 ≥ r
      · rw [cp q2]
        exact fin _ _ _ ey em (by unfold Sp.rl; rw [if_neg q1, if_pos q2])
      rw [cn q2]
      exact fin _ _ _ ey em (by unfold Sp.rl; rw [if_neg q1, if_neg q2])
    have open_ : Sp.high xs[i] h = 1 → (bif decide ((0 : Int) ≥ r) then (bif decide (0 ≤ (i : Int)) && decide ((i : Int) < (xs.length : Int)) then risen_0 fu m xs.length 0 (mm + 1) 2 xs (xs.length : Int) (w64 ((i : Int) + 1)) h r g ((done ++ List.replicate (n + 1) 0).set (0 + (i : Int).toNat) 2) else none) else bif decide (mm + 1 ≥ r) then (bif decide (0 ≤ (i : Int)) && decide ((i : Int) < (xs.length : Int)) then risen_0 fu m xs.length 0 (mm + 1) (mx last 1) xs (xs.length : Int) (w64 ((i : Int) + 1)) h r g ((done ++ List.replicate (n + 1) 0).set (0 + (i : Int).toNat) (mx last 1)) else none) else (bif decide (0 ≤ (i : Int)) && decide ((i : Int) < (xs.length : Int)) then risen_0 fu m xs.length 0 (mm + 1) last xs (xs.length : Int) (w64 ((i : Int) + 1)) h r g ((done ++ List.replicate (n + 1) 0).set (0 + (i : Int).toNat) last) else none)) = some (.sl AnR (done ++ Sp.rise h r y mm last (xs.drop i)) .no, []) := fun e => by
      have ey : 0 = Sp.ry h y xs[i] := by unfold Sp.ry; rw [if_neg (by rw [e]; decide)]
      have em : mm + 1 = Sp.rm h mm xs[i] := by unfold Sp.rm; rw [if_neg (by rw [e]; decide)]
      rw [cn (by omega)]
      by_cases q2 : mm + 1 ≥ r
      · rw [cp q2]
        exact fin _ _ _ ey em (by unfold Sp.rl; rw [if_neg (by omega), if_pos q2])
      rw [cn q2]
      exact fin _ _ _ ey em (by unfold Sp.rl; rw [if_neg (by omega), if_neg q2])
    by_cases c1 : xs[i].1 ≥ h
    · rw [cp c1]
      exact yes (by unfold Sp.high; rw [if_pos (.inl c1)])
    rw [cn c1]
    by_cases c2 : xs[i].2 ≤ 0 - h
    · rw [cp c2]
      exact yes (by unfold Sp.high; rw [if_pos (.inr (by omega))])
    rw [cn c2]
    by_cases c3 : xs[i].1 > 0 - h
    · rw [cp c3]
      by_cases c4 : xs[i].2 < h
      · have e : Sp.high xs[i] h = 0 := by unfold Sp.high; rw [if_neg (by omega), if_pos (by omega)]
        rw [cp c4, cn (by omega), cn (by omega)]
        exact fin _ _ _ (by unfold Sp.ry; rw [if_neg (by rw [e]; decide)]) (by unfold Sp.rm; rw [if_pos e]) (by unfold Sp.rl; rw [if_neg (by omega), if_neg (by omega)])
      · rw [cn c4]
        exact open_ (by unfold Sp.high; rw [if_neg (by omega), if_neg (by omega)])
    · rw [cn c3]
      exact open_ (by unfold Sp.high; rw [if_neg (by omega), if_neg (by omega)])
theorem risen_i {fu : Nat} (hf : 1000 ≤ fu) (xs : List (Int × Int)) (h r g : Int) (hl : xs.length ≤ 256) (h1 : 1 ≤ h) (h2 : h ≤ 1073741824) (r1 : 1 ≤ r) : (cf6 fu).call 61 0 106 [.agg [.sl SpR xs .no], rlD h r g] [] (fun d σ => some (d, σ)) = some (.sl AnR (Sp.rise h r 0 0 0 xs) .no, []) := by
  rw [risen_e, ct' (by simp [room]; omega), Int.toNat_natCast]
  have := risen_l (fu := fu) xs h r g hl h1 h2 r1 xs.length fu 0 [] 0 0 0 (by omega) (by omega) rfl (by omega) (by omega) (by omega) (by omega)
  exact this
def Sp.yes (l : List Int) : Int := (l.countP (fun x => decide (x = 2)) : Nat)
def Sp.may (l : List Int) : Int := (l.countP (fun x => decide (x ≠ 0)) : Nat)
def Ms.en (g y m : Int) : Int := if y ≥ g then 2 else if m < g then 0 else 1
theorem Sp.yes_cons (x : Int) (l : List Int) : Sp.yes (x :: l) = (if x = 2 then 1 else 0) + Sp.yes l := by
  unfold Sp.yes
  rw [List.countP_cons]
  by_cases h : x = 2 <;> simp [h] <;> omega
theorem Sp.may_cons (x : Int) (l : List Int) : Sp.may (x :: l) = (if x = 0 then 0 else 1) + Sp.may l := by
  unfold Sp.may
  rw [List.countP_cons]
  by_cases h : x = 0 <;> simp [h] <;> omega
theorem enough_l {fu : Nat} (g : Int) (xs : List Int) (hl : xs.length ≤ 1000) : ∀ (n m i : Nat) (y mm : Int), i + n = xs.length → n < m → 0 ≤ y → y ≤ i → 0 ≤ mm → mm ≤ i → enough_0 fu m g y mm xs (xs.length : Int) (i : Int) = some (.int .i64 (Ms.en g (y + Sp.yes (xs.drop i)) (mm + Sp.may (xs.drop i))), [])
  | 0, m, i, y, mm, hi, hm, y0, y1, m0, m1 => by
    obtain ⟨m, rfl⟩ : ∃ j, m = j + 1 := ⟨m - 1, by omega⟩
    rw [enough_0s, cn (by omega), List.drop_eq_nil_of_le (by omega), show Sp.yes [] = 0 from rfl, show Sp.may [] = 0 from rfl, Int.add_zero, Int.add_zero]
    unfold Ms.en
    by_cases q1 : y ≥ g
    · rw [cp q1, if_pos q1]
    · rw [cn q1, if_neg q1]
      by_cases q2 : mm < g
      · rw [cp q2, if_pos q2]
      · rw [cn q2, if_neg q2]
  | n + 1, m, i, y, mm, hi, hm, y0, y1, m0, m1 => by
    obtain ⟨m, rfl⟩ : ∃ j, m = j + 1 := ⟨m - 1, by omega⟩
    have hlt : i < xs.length := by omega
    rw [enough_0s, cp (by omega), ca ⟨by omega, by omega⟩, getD_nat i hlt, w_succ hlt (by omega), w_id (n := y + 1) (by omega) (by omega), w_id (n := mm + 1) (by omega) (by omega), drop_cons hlt, Sp.yes_cons, Sp.may_cons]
    by_cases q1 : xs[i] = 2
    · rw [ct' (by simp [q1]), ct' (by simp [q1]), enough_l g xs hl n m (i + 1) (y + 1) (mm + 1) (by omega) (by omega) (by omega) (by omega) (by omega) (by omega), if_pos q1, if_neg (by omega), Int.add_assoc, Int.add_assoc]
    · rw [cf' (by simpa using q1)]
      by_cases q2 : xs[i] = 0
      · rw [cf' (by simp [q2]), enough_l g xs hl n m (i + 1) y mm (by omega) (by omega) (by omega) (by omega) (by omega) (by omega), if_neg q1, if_pos q2, Int.zero_add, Int.zero_add]
      · rw [ct' (by simpa using q2), enough_l g xs hl n m (i + 1) y (mm + 1) (by omega) (by omega) (by omega) (by omega) (by omega) (by omega), if_neg q1, if_neg q2, Int.zero_add, Int.add_assoc]
def Sp.enough (g : Int) (l : List Int) : Int := Ms.en g (Sp.yes l) (Sp.may l)
theorem enough_i {fu : Nat} (hf : 1000 < fu) (g : Int) (xs : List Int) (hl : xs.length ≤ 1000) : (cf6 fu).call 61 0 107 [.int .i64 g, .sl AnR xs .no] [] (fun d σ => some (d, σ)) = some (.int .i64 (Sp.enough g xs), []) := by
  have := enough_l (fu := fu) g xs hl xs.length fu 0 0 0 (by omega) (by omega) (by omega) (by omega) (by omega) (by omega)
  rw [List.drop_zero, Int.zero_add, Int.zero_add] at this
  exact (enough_e fu g xs).trans this
theorem indexA_l {fu : Nat} (xs : List Int) (a : Int) (hl : xs.length ≤ 9223372036854775807) : ∀ n m i : Nat, i + n = xs.length → n < m → indexA_0 fu m xs a (xs.length : Int) (i : Int) = some (.int .i64 (Ms.idx (fun x => a == x) (xs.drop i) (i : Int)), [])
  | 0, m, i, hi, hm => by
    obtain ⟨m, rfl⟩ : ∃ j, m = j + 1 := ⟨m - 1, by omega⟩
    rw [indexA_0s, cn (by omega), List.drop_eq_nil_of_le (by omega)]
    rfl
  | n + 1, m, i, hi, hm => by
    obtain ⟨m, rfl⟩ : ∃ j, m = j + 1 := ⟨m - 1, by omega⟩
    have hlt : i < xs.length := by omega
    rw [indexA_0s, cp (by omega), ca ⟨by omega, by omega⟩, getD_nat i hlt, w_succ hlt hl, indexA_l xs a hl n m (i + 1) (by omega) (by omega), drop_cons hlt, Ms.idx]
    by_cases c : (a == xs[i]) = true
    · rw [ct' c, if_pos c]
    · rw [cf' (by simpa using c), if_neg c]
      rfl
theorem idxA_l {fu : Nat} (xs : List Int) (hl : xs.length ≤ 9223372036854775807) : ∀ n m i : Nat, i + n = xs.length → n < m → idxA_0 fu m xs (xs.length : Int) (i : Int) = some (.int .i64 (Ms.idx (fun x => x != 0) (xs.drop i) (i : Int)), [])
  | 0, m, i, hi, hm => by
    obtain ⟨m, rfl⟩ : ∃ j, m = j + 1 := ⟨m - 1, by omega⟩
    rw [idxA_0s, cn (by omega), List.drop_eq_nil_of_le (by omega)]
    rfl
  | n + 1, m, i, hi, hm => by
    obtain ⟨m, rfl⟩ : ∃ j, m = j + 1 := ⟨m - 1, by omega⟩
    have hlt : i < xs.length := by omega
    rw [idxA_0s, cp (by omega), ca ⟨by omega, by omega⟩, getD_nat i hlt, w_succ hlt hl, idxA_l xs hl n m (i + 1) (by omega) (by omega), drop_cons hlt, Ms.idx]
    by_cases c : (xs[i] != 0) = true
    · rw [ct' c, if_pos c]
    · rw [cf' (by simpa using c), if_neg c]
      rfl
theorem idxG1_l {fu : Nat} (xs : List (List (Int × Int))) (hl : xs.length ≤ 9223372036854775807) : ∀ n m i : Nat, i + n = xs.length → n < m → idxG1_0 fu m xs (xs.length : Int) (i : Int) = some (.int .i64 (Ms.idx (fun x => decide ((x.length : Int) > 256)) (xs.drop i) (i : Int)), [])
  | 0, m, i, hi, hm => by
    obtain ⟨m, rfl⟩ : ∃ j, m = j + 1 := ⟨m - 1, by omega⟩
    rw [idxG1_0s, cn (by omega), List.drop_eq_nil_of_le (by omega)]
    rfl
  | n + 1, m, i, hi, hm => by
    obtain ⟨m, rfl⟩ : ∃ j, m = j + 1 := ⟨m - 1, by omega⟩
    have hlt : i < xs.length := by omega
    rw [idxG1_0s, cp (by omega), ca ⟨by omega, by omega⟩, getD_nat i hlt, w_succ hlt hl, idxG1_l xs hl n m (i + 1) (by omega) (by omega), drop_cons hlt, Ms.idx]
    by_cases c : (xs[i].length : Int) > 256
    · rw [cp c, if_pos (decide_eq_true c)]
    · rw [cn c, if_neg (by simpa using c)]
      rfl
theorem idxTr_l {fu : Nat} (hf : 2 < fu ∧ fu ≤ 100000) (xs : List (Int × Int)) (hl : xs.length ≤ 9223372036854775807) : ∀ n m i : Nat, i + n = xs.length → n < m → idxTr_0 fu m xs (xs.length : Int) (i : Int) = some (.int .i64 (Ms.idx (fun x => !decide (Bo.v x.1 x.2)) (xs.drop i) (i : Int)), [])
  | 0, m, i, hi, hm => by
    obtain ⟨m, rfl⟩ : ∃ j, m = j + 1 := ⟨m - 1, by omega⟩
    rw [idxTr_0s, cn (by omega), List.drop_eq_nil_of_le (by omega)]
    rfl
  | n + 1, m, i, hi, hm => by
    obtain ⟨m, rfl⟩ : ∃ j, m = j + 1 := ⟨m - 1, by omega⟩
    have hlt : i < xs.length := by omega
    rw [idxTr_0s, cp (by omega), ca ⟨by omega, by omega⟩, getD_nat i hlt, w_succ hlt hl, idxTr_l hf xs hl n m (i + 1) (by omega) (by omega), drop_cons hlt, Ms.idx, cp hf, e02_0]
    by_cases c : Bo.v xs[i].1 xs[i].2
    · rw [decide_eq_true c, cf' (by rfl), if_neg (by decide)]
      rfl
    · rw [decide_eq_false c, ct' (by rfl), if_pos (by decide)]
theorem trackR_l {fu : Nat} (xs : List (Int × Int)) (hl : xs.length ≤ 9223372036854775807) : ∀ n m i : Nat, i + n = xs.length → n < m → trackR_0 fu m xs (i : Int) = some (.int .i64 (Ms.chk (xs.drop i)), [])
  | 0, m, i, hi, hm => by
    obtain ⟨m, rfl⟩ : ∃ j, m = j + 1 := ⟨m - 1, by omega⟩
    rw [trackR_0s, cn (by omega), List.drop_eq_nil_of_le (by omega)]
    rfl
  | n + 1, m, i, hi, hm => by
    obtain ⟨m, rfl⟩ : ∃ j, m = j + 1 := ⟨m - 1, by omega⟩
    have hlt : i < xs.length := by omega
    rw [trackR_0s, cp (by omega), ca ⟨by omega, by omega⟩, getD_nat i hlt, w_succ hlt hl, trackR_l xs hl n m (i + 1) (by omega) (by omega)]
    unfold Ms.chk
    rw [drop_cons hlt, List.all_cons]
    by_cases c : Bo.v xs[i].1 xs[i].2
    · rw [decide_eq_true c, Bool.true_and]
      rfl
    · rw [decide_eq_false c, Bool.false_and]
      rfl
/-! the reference's windows -/
theorem risenR_2l {fu : Nat} (m0 : Nat) (xs : List (Int × Int)) (h r g k y4 : Int) (hl : xs.length ≤ 256) (h1 : 1 ≤ h) (h2 : h ≤ 1073741824) (j : Nat) (hj : j < xs.length) : ∀ (n K i : Nat) (a : Int), i + n = j + 1 → n < K → risenR_2 fu m0 K k y4 (j : Int) a (i : Int) xs h r g = risenR_0 fu m0 k (mx y4 (Ms.mnw h xs n i a)) (w64 ((j : Int) + 1)) xs h r g
  | 0, K, i, a, hi, hK => by
    obtain ⟨K, rfl⟩ : ∃ j, K = j + 1 := ⟨K - 1, by omega⟩
    rw [risenR_2s, cn (by omega), Ms.mnw]
  | n + 1, K, i, a, hi, hK => by
    obtain ⟨K, rfl⟩ : ∃ j, K = j + 1 := ⟨K - 1, by omega⟩
    have hlt : i < xs.length := by omega
    have ih := fun v => risenR_2l (fu := fu) m0 xs h r g k y4 hl h1 h2 j hj n K (i + 1) (mn a v) (by omega) (by omega)
    have ehi : Ms.hi h xs i = Sp.high xs[i] h := by unfold Ms.hi; rw [show xs.getD i (0, 0) = xs[i] by simp [List.getD, hlt]]
    rw [risenR_2s, cp (by omega), ca ⟨by omega, by omega⟩, getD_nat i hlt, w_id (n := 0 - h) (by omega) (by omega), w_succ hlt (by omega), ih, ih, ih, Ms.mnw, ehi]
    unfold Sp.high
    by_cases c1 : xs[i].1 ≥ h
    · rw [cp c1, if_pos (.inl c1)]
    rw [cn c1]
    by_cases c2 : xs[i].2 ≤ 0 - h
    · rw [cp c2, if_pos (.inr (by omega))]
    rw [cn c2, if_neg (by omega)]
    by_cases c3 : xs[i].2 < h
    · rw [cp c3]
      by_cases c4 : xs[i].1 > 0 - h
      · rw [cp c4, if_pos (by omega)]
      · rw [cn c4, if_neg (by omega)]
    · rw [cn c3, if_neg (by omega)]
theorem risenR_l {fu : Nat} (hf : 1000 ≤ fu) (xs : List (Int × Int)) (h g : Int) (run : Nat) (hl : xs.length ≤ 256) (h1 : 1 ≤ h) (h2 : h ≤ 1073741824) (r1 : 1 ≤ run) (k : Nat) (hk : k < xs.length) : ∀ (n K j : Nat) (a : Int), (n = k + 1 - j) → run ≤ j + 1 → n < K → risenR_0 fu K (k : Int) a (j : Int) xs h (run : Int) g = some (.int .i64 (Ms.mxw h run xs n j a), [])
  | 0, K, j, a, hj, hr, hK => by
    obtain ⟨K, rfl⟩ : ∃ j, K = j + 1 := ⟨K - 1, by omega⟩
    rw [risenR_0s, cn (by omega), Ms.mxw]
  | n + 1, K, j, a, hj, hr, hK => by
    obtain ⟨K, rfl⟩ : ∃ j, K = j + 1 := ⟨K - 1, by omega⟩
    have q := risenR_2l (fu := fu) K xs h (run : Int) g (k : Int) a hl h1 h2 j (by omega) run fu (j + 1 - run) 2 (by omega) (by omega)
    rw [risenR_0s, cp (by omega), show w64 (w64 ((j : Int) - (run : Int)) + 1) = ((j + 1 - run : Nat) : Int) by rw [w_id (n := (j : Int) - run) (by omega) (by omega), w_id (by omega) (by omega)]; omega, q, w_succ (n := xs.length) (by omega) (by omega), Ms.mxw]
    exact risenR_l hf xs h g run hl h1 h2 r1 k hk n K (j + 1) _ (by omega) (by omega) (by omega)
theorem risenR_i {fu : Nat} (hf : 1000 ≤ fu) (xs : List (Int × Int)) (h r g : Int) (hl : xs.length ≤ 256) (h1 : 1 ≤ h) (h2 : h ≤ 1073741824) (r1 : 1 ≤ r) (r2 : r ≤ 256) (k : Nat) (hk : k < xs.length) : (cf6 fu).call 61 0 116 [.agg [.sl SpR xs .no], rlD h r g, .int .i64 (k : Int)] [] (fun d σ => some (d, σ)) = some (.int .i64 ((Sp.rise h r 0 0 0 xs).getD k 0), []) := by
  obtain ⟨run, rfl⟩ : ∃ run : Nat, r = (run : Int) := ⟨r.toNat, by omega⟩
  have q := risenR_l hf xs h g run hl h1 h2 (by omega) k hk (k + 2 - run) fu (run - 1) 0 (by omega) (by omega) (by omega)
  rw [risenR_e, w_id (by omega) (by omega), show (run : Int) - 1 = ((run - 1 : Nat) : Int) by omega, q, Ms.rise_win h run (by omega) xs k hk]
end Go.Proofs.Ytaheamdoldiojaa.P
namespace Go.Proofs.Ytaheamdoldiojaa.P
open Go Go.RowKit Go.Am
/-! ### told: risen, enough, Index.. -/
def gh (fu : Nat) : Bool := decide (1000 < fu ∧ fu ≤ 100000)
theorem gh_2 {fu : Nat} (h : gh fu = true) : 1000 < fu ∧ fu ≤ 100000 := of_decide_eq_true h
theorem gh_gf {fu : Nat} (h : gh fu = true) : gf fu = true := by
  have := gh_2 h
  exact decide_eq_true ⟨by omega, by omega⟩
def rlOk (h r : Int) : Prop := 1 ≤ h ∧ h ≤ 1073741824 ∧ 1 ≤ r ∧ r ≤ 256
instance (h r : Int) : Decidable (rlOk h r) := by unfold rlOk; infer_instance
def risenS (fu : Nat) : List D → (D → Option Res) → Option Res := tabS fun
  | [.agg [a], .agg [.int .i64 h, .int .i64 r, .int .i64 g]] => (lst SpR a).map fun xs => (decide (gh fu = true ∧ xs.length ≤ 256 ∧ rlOk h r), .sl AnR (Sp.rise h r 0 0 0 xs) .no)
  | _ => none
theorem risenS_ok (fu : Nat) : SpecOk Try.prog 106 (risenS fu) := tab_ok ⟨Try.f106, Try.func106, rfl⟩ fun args d h => by
  split at h
  · obtain ⟨xs, hx, h'⟩ := map_some' h
    cases lst_eq hx
    obtain ⟨⟨h1, h2, h3⟩, rfl⟩ := pair_true h'
    have := gh_2 h1
    exact says_of (cf6_ok fu) (risen_i (by omega) _ _ _ _ h2 h3.1 h3.2.1 h3.2.2.1)
  · cases h
def enoughS (fu : Nat) : List D → (D → Option Res) → Option Res := tabS fun
  | [.int .i64 g, a] => (lst AnR a).map fun xs => (decide (gh fu = true ∧ xs.length ≤ 1000), .int .i64 (Sp.enough g xs))
  | _ => none
theorem enoughS_ok (fu : Nat) : SpecOk Try.prog 107 (enoughS fu) := tab_ok ⟨Try.f107, Try.func107, rfl⟩ fun args d h => by
  split at h
  · obtain ⟨xs, hx, h'⟩ := map_some' h
    cases lst_eq hx
    obtain ⟨⟨h1, h2⟩, rfl⟩ := pair_true h'
    have := gh_2 h1
    exact says_of (cf6_ok fu) (enough_i (by omega) _ _ h2)
  · cases h
def indexAS (fu : Nat) : List D → (D → Option Res) → Option Res := tabS fun
  | [a, .int .i64 v] => (lst AnR a).map fun xs => (decide (gh fu = true ∧ xs.length ≤ 1000), .int .i64 (Ms.idx (fun x => v == x) xs 0))
  | _ => none
theorem indexAS_ok (fu : Nat) : SpecOk Try.prog 63 (indexAS fu) := tab_ok ⟨Try.f63, Try.func63, rfl⟩ fun args d h => by
  split at h
  · obtain ⟨xs, hx, h'⟩ := map_some' h
    cases lst_eq hx
    obtain ⟨⟨h1, h2⟩, rfl⟩ := pair_true h'
    have := gh_2 h1
    exact says_of (cf6_ok fu) ((indexA_e fu xs _).trans (indexA_l xs _ (by omega) xs.length fu 0 (by omega) (by omega)))
  · cases h
def idxAS (fu : Nat) : List D → (D → Option Res) → Option Res := tabS fun
  | [a, .fn 65 [] []] => (lst AnR a).map fun xs => (decide (gh fu = true ∧ xs.length ≤ 1000), .int .i64 (Ms.idx (fun x => x != 0) xs 0))
  | _ => none
theorem idxAS_ok (fu : Nat) : SpecOk Try.prog 64 (idxAS fu) := tab_ok ⟨Try.f64, Try.func64, rfl⟩ fun args d h => by
  split at h
  · obtain ⟨xs, hx, h'⟩ := map_some' h
    cases lst_eq hx
    obtain ⟨⟨h1, h2⟩, rfl⟩ := pair_true h'
    have := gh_2 h1
    exact says_of (cf6_ok fu) ((idxA_e fu xs).trans (idxA_l xs (by omega) xs.length fu 0 (by omega) (by omega)))
  · cases h
def idxTrS (fu : Nat) : List D → (D → Option Res) → Option Res := tabS fun
  | [a, .fn 109 [] []] => (lst SpR a).map fun xs => (decide (gh fu = true ∧ xs.length ≤ 256), .int .i64 (Ms.idx (fun x => !decide (Bo.v x.1 x.2)) xs 0))
  | [a, .fn 100 [] []] => (lst SpR a).map fun xs => (decide (gf fu = true ∧ xs.length < fu), .int .i64 (Ms.idx (fun b => !Sp.inst b) xs 0))
  | _ => none
theorem idxTrS_ok (fu : Nat) : SpecOk Try.prog 125 (idxTrS fu) := tab_ok ⟨Try.f125, Try.func125, rfl⟩ fun args d h => by
  split at h
  · obtain ⟨xs, hx, h'⟩ := map_some' h
    cases lst_eq hx
    obtain ⟨⟨h1, h2⟩, rfl⟩ := pair_true h'
    have := gh_2 h1
    exact says_of (cf2_ok fu) ((idxTr_e fu xs).trans (idxTr_l ⟨by omega, by omega⟩ xs (by omega) xs.length fu 0 (by omega) (by omega)))
  · obtain ⟨xs, hx, h'⟩ := map_some' h
    cases lst_eq hx
    obtain ⟨h1, rfl⟩ := pair_true h'
    have g := gf_2 h1.1
    exact says_of (cf2_ok fu) ((idxSpan_e fu xs).trans (idxSpan_l xs (by omega) xs.length fu 0 (by omega) (by omega)))
  · cases h
def Ms.trk (xs : List (Int × Int)) : Int := if (xs.length : Int) > 256 then 6 else Ms.chk xs
def trackS (fu : Nat) : List D → (D → Option Res) → Option Res := tabS fun
  | [a] => (lst SpR a).map fun xs => (gh fu, .int .i64 (Ms.trk xs))
  | _ => none
theorem bool_pair {b : Bool} {x d : D} (h : (b, x) = (true, d)) : b = true ∧ x = d := ⟨congrArg Prod.fst h, congrArg Prod.snd h⟩
theorem trackRS_ok (fu : Nat) : SpecOk Try.prog 88 (trackS fu) := tab_ok ⟨Try.f88, Try.func88, rfl⟩ fun args d h => by
  split at h
  · obtain ⟨xs, hx, h'⟩ := map_some' h
    cases lst_eq hx
    obtain ⟨h1, rfl⟩ := bool_pair h'
    have := gh_2 h1
    refine says_of (cf6_ok fu) ((trackR_e fu xs).trans ?_)
    unfold Ms.trk
    by_cases c : (xs.length : Int) > 256
    · rw [cp c, if_pos c]
    · rw [cn c, if_neg c]
      exact trackR_l xs (by omega) xs.length fu 0 (by omega) (by omega)
  · cases h
theorem risenR_k {fu : Nat} (hf : 1000 ≤ fu) (xs : List (Int × Int)) (h r g : Int) (hl : xs.length ≤ 256) (h1 : 1 ≤ h) (h2 : h ≤ 1073741824) (r1 : 1 ≤ r) (r2 : r ≤ 256) (k : Int) (k0 : 0 ≤ k) (hk : k < (xs.length : Int)) : (cf6 fu).call 61 0 116 [.agg [.sl SpR xs .no], rlD h r g, .int .i64 k] [] (fun d σ => some (d, σ)) = some (.int .i64 ((Sp.rise h r 0 0 0 xs).getD k.toNat 0), []) := by
  obtain ⟨j, rfl⟩ : ∃ j : Nat, k = (j : Int) := ⟨k.toNat, by omega⟩
  rw [Int.toNat_natCast]
  exact risenR_i hf xs h r g hl h1 h2 r1 r2 j (by omega)
def risenRS (fu : Nat) : List D → (D → Option Res) → Option Res := tabS fun
  | [.agg [a], .agg [.int .i64 h, .int .i64 r, .int .i64 g], .int .i64 k] => (lst SpR a).map fun xs => (decide (gh fu = true ∧ xs.length ≤ 256 ∧ rlOk h r ∧ 0 ≤ k ∧ k < (xs.length : Int)), .int .i64 ((Sp.rise h r 0 0 0 xs).getD k.toNat 0))
  | _ => none
theorem risenRS_ok (fu : Nat) : SpecOk Try.prog 116 (risenRS fu) := tab_ok ⟨Try.f116, Try.func116, rfl⟩ fun args d h => by
  split at h
  · obtain ⟨xs, hx, h'⟩ := map_some' h
    cases lst_eq hx
    obtain ⟨⟨h1, h2, h3, h4, h5⟩, rfl⟩ := pair_true h'
    have := gh_2 h1
    exact says_of (cf6_ok fu) (risenR_k (by omega) _ _ _ _ h2 h3.1 h3.2.1 h3.2.2.1 h3.2.2.2 _ h4 h5)
  · cases h
def sp9 : Nat → FuncId → Option (List D → (D → Option Res) → Option Res) := also 106 risenS (also 107 enoughS (also 63 indexAS (also 64 idxAS (also 125 idxTrS (also 88 trackS (also 116 risenRS sp6))))))
theorem sp9_ok (fu : Nat) : ∀ f s, sp9 fu f = some s → SpecOk Try.prog f s := also_ok (risenS_ok fu) (also_ok (enoughS_ok fu) (also_ok (indexAS_ok fu) (also_ok (idxAS_ok fu) (also_ok (idxTrS_ok fu) (also_ok (trackRS_ok fu) (also_ok (risenRS_ok fu) (sp6_ok fu)))))))
noncomputable def cf9 (fu : Nat) : Cfg := cfgS sp9 fu
theorem cf9_ok (fu : Nat) : CfgOk (cf9 fu) := cfgS_ok (sp9_ok fu)
end Go.Proofs.Ytaheamdoldiojaa.P
namespace Go.Proofs.Ytaheamdoldiojaa.P
open Go Go.RowKit Go.Am
set_option maxRecDepth 100000
theorem checkTr_e (fu : Nat) (xs : List (Int × Int)) : (cf9 fu).call 61 0 71 [D.sl SpR xs .no] [] (fun d σ => some (d, σ)) =
  bif decide ((↑xs.length : Int) > 256) then
   some ((D.int .i64 6, []))
  else
   bif decide (gh fu = true ∧ xs.length ≤ 256) then
    bif decide (Ms.idx (fun x => !decide (Bo.v x.fst x.snd)) xs 0 ≥ 0) then
     some ((D.int .i64 2, []))
    else
     some ((D.int .i64 0, []))
   else
    none := by kernel_rfl
noncomputable def alarm_0 (fu m : Nat) (l : List (List (Int × Int))) (l1 : List (List Int)) (y0 : Int) (y2 : Int) (h : Int) (r : Int) (g : Int) (l3 : Nat) : Option Res := (cf9 fu).loop 60 62 [true, true, false, true] [] 3 m ⟨tmOf 60 [(0, D.sl GaR l .no), (3, D.ptr 0 0), (4, D.sl AnR [] (.own 1)), (5, D.sl RwR l1 (.own 2)), (13, D.sl GaR l .no), (14, D.int .i64 y0), (15, D.int .i64 y2)], [Ent.box [D.int .i64 h, D.int .i64 r, D.int .i64 g], Ent.tok AnR 0, Ent.tok RwR l3]⟩
noncomputable def alarm_2 (fu m : Nat) (l8 : List (List Int)) (l4 : Nat) (y5 : Int) (y7 : Int) (h : Int) (r : Int) (g : Int) (l9 : Nat) (l6 : List Int) : Option Res := (cf9 fu).loop 60 62 [true, true, true, true, false, true] [] 4 m ⟨tmOf 60 [(3, D.ptr 0 0), (4, D.sl AnR [] (.own 1)), (5, D.sl RwR l8 (.own 2)), (8, D.ref 3 0 l4), (33, D.int .i64 y5), (34, D.int .i64 y7)], [Ent.box [D.int .i64 h, D.int .i64 r, D.int .i64 g], Ent.tok AnR 0, Ent.tok RwR l9, Ent.buf AnR l6]⟩
noncomputable def alarm_4 (fu m2 m : Nat) (l10 : List (List Int)) (l4 : Nat) (y11 : Int) (l12 : List Int) (y5 : Int) (y13 : Int) (l14 : List (List Int)) (y15 : Int) (y17 : Int) (h : Int) (r : Int) (g : Int) (l16 : Nat) (l6 : List Int) (l18 : Nat) : Option Res := (cf9 fu).loop 60 62 [true, true, true, true, false, true, true, true, true, false, true, true, false, true] [(4, m2)] 5 m ⟨tmOf 60 [(3, D.ptr 0 0), (4, D.sl AnR [] (.own 1)), (5, D.sl RwR l10 (.own 2)), (8, D.ref 3 0 l4), (9, D.int .i64 y11), (10, D.sl AnR l12 (.own 4)), (33, D.int .i64 y5), (34, D.int .i64 y13), (37, D.sl RwR l14 (.own 2)), (38, D.int .i64 y15), (39, D.int .i64 y17)], [Ent.box [D.int .i64 h, D.int .i64 r, D.int .i64 g], Ent.tok AnR 0, Ent.tok RwR l16, Ent.buf AnR l6, Ent.tok AnR l18]⟩
theorem alarm_0s (fu m : Nat) (l : List (List (Int × Int))) (l1 : List (List Int)) (y0 : Int) (y2 : Int) (h : Int) (r : Int) (g : Int) (l3 : Nat) : alarm_0 fu (m + 1) l l1 y0 y2 h r g l3 =
  bif decide (y2 < y0) then
   bif decide (0 ≤ y2) && decide (y2 < (↑l.length : Int)) then
    bif decide (gh fu = true ∧ List.length (l.getD y2.toNat GaR.dflt) ≤ 256 ∧ rlOk h r) then
     bif lenOk l3 l1.length && room (l1 ++ [Sp.rise h r 0 0 0 (l.getD y2.toNat GaR.dflt)]).length 24 then
      alarm_0 fu m l (l1 ++ [Sp.rise h r 0 0 0 (l.getD y2.toNat GaR.dflt)]) y0 (w64 (y2 + 1)) h r g ((l1 ++ [Sp.rise h r 0 0 0 (l.getD y2.toNat GaR.dflt)]).length)
     else
      none
    else
     none
   else
    none
  else
   bif decide (0 ≤ 0) && decide (0 < (↑l.length : Int)) then
    bif decide (0 ≤ ((List.length (l.getD (Int.toNat 0) GaR.dflt) : Nat) : Int)) && decide (((List.length (l.getD (Int.toNat 0) GaR.dflt) : Nat) : Int) = ((List.length (l.getD (Int.toNat 0) GaR.dflt) : Nat) : Int)) && room (((List.length (l.getD 0 GaR.dflt) : Nat) : Int)).toNat 8 then
     alarm_2 fu fu l1 ((((List.length (l.getD 0 GaR.dflt) : Nat) : Int)).toNat) ((((((List.length (l.getD 0 GaR.dflt) : Nat) : Int)).toNat : Nat) : Int)) 0 h r g l3 (List.replicate (((List.length (l.getD 0 GaR.dflt) : Nat) : Int)).toNat 0)
    else
     none
   else
    none := by kernel_rfl
theorem alarm_2s (fu m : Nat) (l8 : List (List Int)) (l4 : Nat) (y5 : Int) (y7 : Int) (h : Int) (r : Int) (g : Int) (l9 : Nat) (l6 : List Int) : alarm_2 fu (m + 1) l8 l4 y5 y7 h r g l9 l6 =
  bif decide (y7 < y5) then
   alarm_4 fu m fu l8 l4 y7 [] y5 y7 l8 ((↑l8.length : Int)) 0 h r g l9 l6 0
  else
   some ((D.sl AnR (List.take l4 (List.drop 0 l6)) .no, [])) := by kernel_rfl
theorem alarm_4s (fu m2 m : Nat) (l10 : List (List Int)) (l4 : Nat) (y11 : Int) (l12 : List Int) (y5 : Int) (y13 : Int) (l14 : List (List Int)) (y15 : Int) (y17 : Int) (h : Int) (r : Int) (g : Int) (l16 : Nat) (l6 : List Int) (l18 : Nat) : alarm_4 fu m2 (m + 1) l10 l4 y11 l12 y5 y13 l14 y15 y17 h r g l16 l6 l18 =
  bif decide (y17 < y15) then
   bif decide (0 ≤ y17) && decide (y17 < (↑l14.length : Int)) then
    bif decide (0 ≤ y11) && decide (y11 < ((List.length (l14.getD y17.toNat RwR.dflt) : Nat) : Int)) then
     bif lenOk l18 l12.length && room (l12 ++ [List.getD (l14.getD y17.toNat RwR.dflt) y11.toNat AnR.dflt]).length 8 then
      alarm_4 fu m2 m l10 l4 y11 (l12 ++ [List.getD (l14.getD y17.toNat RwR.dflt) y11.toNat AnR.dflt]) y5 y13 l14 y15 (w64 (y17 + 1)) h r g l16 l6 ((l12 ++ [List.getD (l14.getD y17.toNat RwR.dflt) y11.toNat AnR.dflt]).length)
     else
      none
    else
     none
   else
    none
  else
   bif decide (gh fu = true ∧ l12.length ≤ 1000) then
    bif decide (0 ≤ y11) && decide (y11 < (↑l4 : Int)) then
     alarm_2 fu m2 l10 l4 y5 (w64 (y13 + 1)) h r g l16 (l6.set (0 + y11.toNat) (Sp.enough g l12))
    else
     none
   else
    none := by kernel_rfl
theorem alarm_e (fu : Nat) (l : List (List (Int × Int))) (h : Int) (r : Int) (g : Int) : (cf9 fu).call 61 0 62 [D.sl GaR l .no, rlD h r g] [] (fun d σ => some (d, σ)) =
  alarm_0 fu fu l [] ((↑l.length : Int)) 0 h r g 0 := by kernel_rfl
noncomputable def gaugesR_0 (fu m : Nat) (l : List (List (Int × Int))) (y0 : Int) (h : Int) (r : Int) (g : Int) : Option Res := (cf9 fu).loop 60 77 [true, true, false, true] [] 1 m ⟨tmOf 88 [(0, D.sl GaR l .no), (3, D.ptr 0 0), (4, D.int .i64 0), (5, D.int .i64 y0)], [Ent.box [D.int .i64 h, D.int .i64 r, D.int .i64 g]]⟩
noncomputable def gaugesR_2 (fu m : Nat) (l : List (List (Int × Int))) (y1 : Int) (h : Int) (r : Int) (g : Int) : Option Res := (cf9 fu).loop 60 77 [true, true, true, false, true] [] 1 m ⟨tmOf 88 [(0, D.sl GaR l .no), (3, D.ptr 0 0), (4, D.int .i64 0), (6, D.int .i64 y1)], [Ent.box [D.int .i64 h, D.int .i64 r, D.int .i64 g]]⟩
noncomputable def gaugesR_4 (fu m : Nat) (l : List (List (Int × Int))) (y2 : Int) (h : Int) (r : Int) (g : Int) : Option Res := (cf9 fu).loop 60 77 [true, true, true, true, false, true] [] 1 m ⟨tmOf 88 [(0, D.sl GaR l .no), (3, D.ptr 0 0), (4, D.int .i64 0), (7, D.int .i64 y2)], [Ent.box [D.int .i64 h, D.int .i64 r, D.int .i64 g]]⟩
theorem gaugesR_0s (fu m : Nat) (l : List (List (Int × Int))) (y0 : Int) (h : Int) (r : Int) (g : Int) : gaugesR_0 fu (m + 1) l y0 h r g =
  bif decide (y0 < (↑l.length : Int)) then
   bif decide (0 ≤ y0) && decide (y0 < (↑l.length : Int)) then
    bif decide (((List.length (l.getD y0.toNat GaR.dflt) : Nat) : Int) > 256) then
     some ((D.int .i64 6, []))
    else
     gaugesR_0 fu m l (w64 (y0 + 1)) h r g
   else
    none
  else
   gaugesR_2 fu fu l 0 h r g := by kernel_rfl
theorem gaugesR_2s (fu m : Nat) (l : List (List (Int × Int))) (y1 : Int) (h : Int) (r : Int) (g : Int) : gaugesR_2 fu (m + 1) l y1 h r g =
  bif decide (y1 < (↑l.length : Int)) then
   bif decide (0 ≤ y1) && decide (y1 < (↑l.length : Int)) then
    bif decide (0 ≤ 0) && decide (0 < (↑l.length : Int)) then
     bif ((List.length (l.getD y1.toNat GaR.dflt) : Nat) : Int) != ((List.length (l.getD 0 GaR.dflt) : Nat) : Int) then
      some ((D.int .i64 17, []))
     else
      gaugesR_2 fu m l (w64 (y1 + 1)) h r g
    else
     none
   else
    none
  else
   gaugesR_4 fu fu l 0 h r g := by kernel_rfl
theorem gaugesR_4s (fu m : Nat) (l : List (List (Int × Int))) (y2 : Int) (h : Int) (r : Int) (g : Int) : gaugesR_4 fu (m + 1) l y2 h r g =
  bif decide (y2 < (↑l.length : Int)) then
   bif decide (0 ≤ y2) && decide (y2 < (↑l.length : Int)) then
    bif gh fu then
     bif Ms.trk (l.getD y2.toNat GaR.dflt) != 0 then
      some ((D.int .i64 2, []))
     else
      gaugesR_4 fu m l (w64 (y2 + 1)) h r g
    else
     none
   else
    none
  else
   bif decide (h < 1) then
    some ((D.int .i64 2, []))
   else
    bif decide (h > 1073741824) then
     some ((D.int .i64 2, []))
    else
     bif decide (r < 1) then
      some ((D.int .i64 2, []))
     else
      bif decide (r > 256) then
       some ((D.int .i64 2, []))
      else
       bif decide (g < 1) then
        some ((D.int .i64 2, []))
       else
        bif decide (g > 16) then
         some ((D.int .i64 2, []))
        else
         some ((D.int .i64 0, [])) := by kernel_rfl
theorem gaugesR_e (fu : Nat) (l : List (List (Int × Int))) (h : Int) (r : Int) (g : Int) : (cf9 fu).call 61 0 77 [D.sl GaR l .no, rlD h r g] [] (fun d σ => some (d, σ)) =
  bif decide ((↑l.length : Int) < 1) then
   some ((D.int .i64 6, []))
  else
   bif decide ((↑l.length : Int) > 16) then
    some ((D.int .i64 6, []))
   else
    gaugesR_0 fu fu l 0 h r g := by kernel_rfl
noncomputable def raisedR_0 (fu m : Nat) (l : List (List (Int × Int))) (k : Int) (y0 : Int) (y1 : Int) (y2 : Int) (h : Int) (r : Int) (g : Int) : Option Res := (cf9 fu).loop 60 78 [true, true, false, true] [] 1 m ⟨tmOf 40 [(0, D.sl GaR l .no), (2, D.int .i64 k), (4, D.ptr 0 0), (6, D.int .i64 0), (7, D.int .i64 y0), (8, D.int .i64 y1), (9, D.int .i64 y2)], [Ent.box [D.int .i64 h, D.int .i64 r, D.int .i64 g]]⟩
theorem raisedR_0s (fu m : Nat) (l : List (List (Int × Int))) (k : Int) (y0 : Int) (y1 : Int) (y2 : Int) (h : Int) (r : Int) (g : Int) : raisedR_0 fu (m + 1) l k y0 y1 y2 h r g =
  bif decide (y2 < (↑l.length : Int)) then
   bif decide (0 ≤ y2) && decide (y2 < (↑l.length : Int)) then
    bif decide (gh fu = true ∧ List.length (l.getD y2.toNat GaR.dflt) ≤ 256 ∧ rlOk h r ∧ 0 ≤ k ∧ k < ((List.length (l.getD y2.toNat GaR.dflt) : Nat) : Int)) then
     bif (Sp.rise h r 0 0 0 (l.getD y2.toNat GaR.dflt)).getD k.toNat 0 == 2 then
      bif (Sp.rise h r 0 0 0 (l.getD y2.toNat GaR.dflt)).getD k.toNat 0 != 0 then
       raisedR_0 fu m l k (w64 (y0 + 1)) (w64 (y1 + 1)) (w64 (y2 + 1)) h r g
      else
       raisedR_0 fu m l k (w64 (y0 + 1)) y1 (w64 (y2 + 1)) h r g
     else
      bif (Sp.rise h r 0 0 0 (l.getD y2.toNat GaR.dflt)).getD k.toNat 0 != 0 then
       raisedR_0 fu m l k y0 (w64 (y1 + 1)) (w64 (y2 + 1)) h r g
      else
       raisedR_0 fu m l k y0 y1 (w64 (y2 + 1)) h r g
    else
     none
   else
    none
  else
   bif decide (y0 ≥ g) then
    some ((D.int .i64 2, []))
   else
    bif decide (y1 < g) then
     some ((D.int .i64 0, []))
    else
     some ((D.int .i64 1, [])) := by kernel_rfl
theorem raisedR_e (fu : Nat) (l : List (List (Int × Int))) (h : Int) (r : Int) (g : Int) (k : Int) : (cf9 fu).call 61 0 78 [D.sl GaR l .no, rlD h r g, D.int .i64 k] [] (fun d σ => some (d, σ)) =
  raisedR_0 fu fu l k 0 0 0 h r g := by kernel_rfl
noncomputable def huge_0 (fu m : Nat) (l : List (List (Int × Int))) (y0 : Int) : Option Res := (cf9 fu).loop 60 17 [true, true, false, true] [] 0 m ⟨tmOf 38 [(0, D.sl GaR l .no), (2, D.bool false), (3, D.int .i64 y0)], []⟩
theorem huge_0s (fu m : Nat) (l : List (List (Int × Int))) (y0 : Int) : huge_0 fu (m + 1) l y0 =
  bif decide (y0 < (↑l.length : Int)) then
   bif decide (0 ≤ y0) && decide (y0 < (↑l.length : Int)) then
    bif decide (((List.length (l.getD y0.toNat GaR.dflt) : Nat) : Int) > 20) then
     bif decide (0 ≤ y0) && decide (y0 < (↑l.length : Int)) then
      bif decide (((List.length (l.getD y0.toNat GaR.dflt) : Nat) : Int) ≤ 256) then
       some ((D.bool true, []))
      else
       bif decide (0 ≤ y0) && decide (y0 < (↑l.length : Int)) then
        bif decide (((List.length (l.getD y0.toNat GaR.dflt) : Nat) : Int) > 300) then
         some ((D.bool true, []))
        else
         huge_0 fu m l (w64 (y0 + 1))
       else
        none
     else
      none
    else
     bif decide (0 ≤ y0) && decide (y0 < (↑l.length : Int)) then
      bif decide (((List.length (l.getD y0.toNat GaR.dflt) : Nat) : Int) > 300) then
       some ((D.bool true, []))
      else
       huge_0 fu m l (w64 (y0 + 1))
     else
      none
   else
    none
  else
   some ((D.bool false, [])) := by kernel_rfl
theorem huge_e (fu : Nat) (l : List (List (Int × Int))) : (cf9 fu).call 61 0 17 [D.sl GaR l .no] [] (fun d σ => some (d, σ)) =
  bif decide ((↑l.length : Int) > 20) then
   some ((D.bool true, []))
  else
   huge_0 fu fu l 0 := by kernel_rfl
end Go.Proofs.Ytaheamdoldiojaa.P
namespace Go.Proofs.Ytaheamdoldiojaa.P
open Go Go.RowKit Go.Am
/-! ### alarms -/
abbrev Gs := List (List (Int × Int))
def Ms.rows (h r : Int) (l : Gs) : List (List Int) := l.map fun x => Sp.rise h r 0 0 0 x
def Ms.col (rows : List (List Int)) (c : Nat) : List Int := rows.map fun x => x.getD c 0
def Ms.alarm (h r g : Int) (l : Gs) (N : Nat) : List Int := (List.range' 0 N).map fun c => Sp.enough g (Ms.col (Ms.rows h r l) c)
theorem z0 {α : Type} {xs : List α} {d : α} (h : 0 < xs.length) : xs.getD (Int.toNat 0) d = xs[0] := getD_nat 0 h
theorem z1 {α : Type} {xs : List α} {d : α} (h : 0 < xs.length) : xs.getD 0 d = xs[0] := by simp [List.getD, h]
theorem alarm_4l {fu : Nat} (hf : gh fu = true) (rows : List (List Int)) (hl : rows.length ≤ 16) (N : Nat) (hN : N ≤ 256) (hr : ∀ x ∈ rows, x.length = N) (m2 c : Nat) (hc : c < N) (h r g : Int) (rl : Nat) (buf : List Int) : ∀ n K i : Nat, i + n = rows.length → n < K → alarm_4 fu m2 K rows N (c : Int) ((Ms.col rows c).take i) (N : Int) (c : Int) rows (rows.length : Int) (i : Int) h r g rl buf ((Ms.col rows c).take i).length = alarm_2 fu m2 rows N (N : Int) (w64 ((c : Int) + 1)) h r g rl (buf.set (0 + (c : Int).toNat) (Sp.enough g (Ms.col rows c)))
  | 0, K, i, hi, hK => by
    obtain ⟨K, rfl⟩ : ∃ j, K = j + 1 := ⟨K - 1, by omega⟩
    have e : (Ms.col rows c).take i = Ms.col rows c := List.take_of_length_le (by unfold Ms.col; simp; omega)
    have hcl : (Ms.col rows c).length ≤ 1000 := by unfold Ms.col; simp; omega
    rw [alarm_4s, cn (by omega), e, cp ⟨hf, hcl⟩, ca ⟨by omega, by omega⟩]
  | n + 1, K, i, hi, hK => by
    obtain ⟨K, rfl⟩ : ∃ j, K = j + 1 := ⟨K - 1, by omega⟩
    have hlt : i < rows.length := by omega
    have hci : c < rows[i].length := by rw [hr _ (List.getElem_mem hlt)]; exact hc
    have hlc : i < (Ms.col rows c).length := by unfold Ms.col; simpa using hlt
    have ih := alarm_4l hf rows hl N hN hr m2 c hc h r g rl buf n K (i + 1) (by omega) (by omega)
    rw [take_snoc hlc, show (Ms.col rows c)[i] = rows[i][c] from (List.getElem_map _).trans (by simp [List.getD, hci])] at ih
    have hlen : ((Ms.col rows c).take i ++ [rows[i][c]]).length ≤ 1000 := by unfold Ms.col; simp; omega
    rw [alarm_4s, cp (by omega), ca ⟨by omega, by omega⟩, getD_nat i hlt, ca ⟨by omega, by omega⟩, getD_nat c hci, w_succ hlt (by omega)]
    generalize (Ms.col rows c).take i = acc at *
    rw [show lenOk acc.length acc.length = true from decide_eq_true rfl, show room (acc ++ [rows[i][c]]).length 8 = true from decide_eq_true (by omega), Bool.and_self, cond_true]
    exact ih
theorem alarm_2l {fu : Nat} (hf : gh fu = true) (rows : List (List Int)) (hl : rows.length ≤ 16) (N : Nat) (hN : N ≤ 256) (hr : ∀ x ∈ rows, x.length = N) (h r g : Int) (rl : Nat) : ∀ (n m c : Nat) (done : List Int), c + n = N → n < m → done.length = c → alarm_2 fu m rows N (N : Int) (c : Int) h r g rl (done ++ List.replicate n 0) = some (.sl AnR (done ++ (List.range' c n).map fun c => Sp.enough g (Ms.col rows c)) .no, [])
  | 0, m, c, done, hc, hm, hd => by
    obtain ⟨m, rfl⟩ : ∃ j, m = j + 1 := ⟨m - 1, by omega⟩
    rw [alarm_2s, cn (by omega), List.drop_zero, List.replicate_zero, List.append_nil, List.take_of_length_le (by omega)]
    simp
  | n + 1, m, c, done, hc, hm, hd => by
    obtain ⟨m, rfl⟩ : ∃ j, m = j + 1 := ⟨m - 1, by omega⟩
    have g2 := gh_2 hf
    have q := alarm_4l hf rows hl N hN hr m c (by omega) h r g rl (done ++ List.replicate (n + 1) 0) rows.length fu 0 (by omega) (by omega)
    rw [List.take_zero, show ((0 : Nat) : Int) = 0 from rfl, set_next done n c _ hd] at q
    rw [alarm_2s, cp (by omega)]
    refine q.trans ?_
    rw [w_succ (n := N) (by omega) (by omega), alarm_2l hf rows hl N hN hr h r g rl n m (c + 1) _ (by omega) (by omega) (by simp; omega), List.range'_succ, List.map_cons, List.append_assoc]
    rfl
theorem alarm_0l {fu : Nat} (hf : gh fu = true) (l : Gs) (hl : l.length ≤ 16) (h0 : 0 < l.length) (N : Nat) (hN : N ≤ 256) (hr : ∀ x ∈ l, x.length = N) (h r g : Int) (hrl : rlOk h r) : ∀ n m i : Nat, i + n = l.length → n < m → alarm_0 fu m l ((Ms.rows h r l).take i) (l.length : Int) (i : Int) h r g ((Ms.rows h r l).take i).length = some (.sl AnR (Ms.alarm h r g l N) .no, [])
  | 0, m, i, hi, hm => by
    obtain ⟨m, rfl⟩ : ∃ j, m = j + 1 := ⟨m - 1, by omega⟩
    have g2 := gh_2 hf
    have e : (Ms.rows h r l).take i = Ms.rows h r l := List.take_of_length_le (by unfold Ms.rows; simp; omega)
    have eN : (l[0]).length = N := hr _ (List.getElem_mem h0)
    have q := alarm_2l hf (Ms.rows h r l) (by unfold Ms.rows; simpa using hl) N hN (fun x hx => by
      unfold Ms.rows at hx
      obtain ⟨y, hy, rfl⟩ := List.mem_map.1 hx
      rw [Sp.rise_len, hr y hy]) h r g (Ms.rows h r l).length N fu 0 [] (by omega) (by omega) rfl
    rw [List.nil_append] at q
    rw [alarm_0s, cn (by omega), e, ca ⟨by omega, by omega⟩, z0 h0, z1 h0, eN, Int.toNat_natCast, ct' (by simp [room]; omega)]
    exact q
  | n + 1, m, i, hi, hm => by
    obtain ⟨m, rfl⟩ : ∃ j, m = j + 1 := ⟨m - 1, by omega⟩
    have hlt : i < l.length := by omega
    have hlr : i < (Ms.rows h r l).length := by unfold Ms.rows; simpa using hlt
    have ih := alarm_0l hf l hl h0 N hN hr h r g hrl n m (i + 1) (by omega) (by omega)
    rw [take_snoc hlr, show (Ms.rows h r l)[i] = Sp.rise h r 0 0 0 l[i] from List.getElem_map _] at ih
    have hlen : ((Ms.rows h r l).take i ++ [Sp.rise h r 0 0 0 l[i]]).length ≤ 1000 := by unfold Ms.rows; simp; omega
    rw [alarm_0s, cp (by omega), ca ⟨by omega, by omega⟩, getD_nat i hlt, cp ⟨hf, by rw [hr _ (List.getElem_mem hlt)]; exact hN, hrl⟩, w_succ hlt (by omega)]
    generalize (Ms.rows h r l).take i = acc at *
    rw [show lenOk acc.length acc.length = true from decide_eq_true rfl, show room (acc ++ [Sp.rise h r 0 0 0 l[i]]).length 24 = true from decide_eq_true (by omega), Bool.and_self, cond_true]
    exact ih
theorem raisedR_l {fu : Nat} (hf : gh fu = true) (l : Gs) (hl : l.length ≤ 16) (N : Nat) (hN : N ≤ 256) (hr : ∀ x ∈ l, x.length = N) (h r g : Int) (hrl : rlOk h r) (k : Nat) (hk : k < N) : ∀ (n m i : Nat) (y mm : Int), i + n = l.length → n < m → 0 ≤ y → y ≤ i → 0 ≤ mm → mm ≤ i → raisedR_0 fu m l (k : Int) y mm (i : Int) h r g = some (.int .i64 (Ms.en g (y + Sp.yes ((Ms.col (Ms.rows h r l) k).drop i)) (mm + Sp.may ((Ms.col (Ms.rows h r l) k).drop i))), [])
  | 0, m, i, y, mm, hi, hm, y0, y1, m0, m1 => by
    obtain ⟨m, rfl⟩ : ∃ j, m = j + 1 := ⟨m - 1, by omega⟩
    rw [raisedR_0s, cn (by omega), List.drop_eq_nil_of_le (by unfold Ms.col Ms.rows; simp; omega), show Sp.yes [] = 0 from rfl, show Sp.may [] = 0 from rfl, Int.add_zero, Int.add_zero]
    unfold Ms.en
    by_cases q1 : y ≥ g
    · rw [cp q1, if_pos q1]
    · rw [cn q1, if_neg q1]
      by_cases q2 : mm < g
      · rw [cp q2, if_pos q2]
      · rw [cn q2, if_neg q2]
  | n + 1, m, i, y, mm, hi, hm, y0, y1, m0, m1 => by
    obtain ⟨m, rfl⟩ : ∃ j, m = j + 1 := ⟨m - 1, by omega⟩
    have hlt : i < l.length := by omega
    have hlc : i < (Ms.col (Ms.rows h r l) k).length := by unfold Ms.col Ms.rows; simpa using hlt
    have hlr : i < (Ms.rows h r l).length := by unfold Ms.rows; simpa using hlt
    have er : (Ms.rows h r l)[i] = Sp.rise h r 0 0 0 l[i] := List.getElem_map _
    have ec : (Ms.col (Ms.rows h r l) k)[i] = (Sp.rise h r 0 0 0 l[i]).getD k 0 := (List.getElem_map _).trans (by rw [er])
    have eN := hr _ (List.getElem_mem hlt)
    rw [raisedR_0s, cp (by omega), ca ⟨by omega, by omega⟩, getD_nat i hlt, cp ⟨hf, by omega, hrl, by omega, by omega⟩, Int.toNat_natCast, w_succ hlt (by omega), w_id (n := y + 1) (by omega) (by omega), w_id (n := mm + 1) (by omega) (by omega), drop_cons hlc, ec, Sp.yes_cons, Sp.may_cons]
    generalize (Sp.rise h r 0 0 0 l[i]).getD k 0 = v
    by_cases q1 : v = 2
    · rw [ct' (by simp [q1]), ct' (by simp [q1]), raisedR_l hf l hl N hN hr h r g hrl k hk n m (i + 1) (y + 1) (mm + 1) (by omega) (by omega) (by omega) (by omega) (by omega) (by omega), if_pos q1, if_neg (by omega), Int.add_assoc, Int.add_assoc]
    · rw [cf' (by simpa using q1)]
      by_cases q2 : v = 0
      · rw [cf' (by simp [q2]), raisedR_l hf l hl N hN hr h r g hrl k hk n m (i + 1) y mm (by omega) (by omega) (by omega) (by omega) (by omega) (by omega), if_neg q1, if_pos q2, Int.zero_add, Int.zero_add]
      · rw [ct' (by simpa using q2), raisedR_l hf l hl N hN hr h r g hrl k hk n m (i + 1) y (mm + 1) (by omega) (by omega) (by omega) (by omega) (by omega) (by omega), if_neg q1, if_neg q2, Int.zero_add, Int.add_assoc]
theorem raisedR_i {fu : Nat} (hf : gh fu = true) (l : Gs) (hl : l.length ≤ 16) (N : Nat) (hN : N ≤ 256) (hr : ∀ x ∈ l, x.length = N) (h r g : Int) (hrl : rlOk h r) (k : Nat) (hk : k < N) : (cf9 fu).call 61 0 78 [.sl GaR l .no, rlD h r g, .int .i64 (k : Int)] [] (fun d σ => some (d, σ)) = some (.int .i64 (Sp.enough g (Ms.col (Ms.rows h r l) k)), []) := by
  have g2 := gh_2 hf
  have := raisedR_l hf l hl N hN hr h r g hrl k hk l.length fu 0 0 0 (by omega) (by omega) (by omega) (by omega) (by omega) (by omega)
  rw [List.drop_zero, Int.zero_add, Int.zero_add] at this
  exact (raisedR_e fu l h r g (k : Int)).trans this
theorem alarm_i {fu : Nat} (hf : gh fu = true) (l : Gs) (hl : l.length ≤ 16) (h0 : 0 < l.length) (N : Nat) (hN : N ≤ 256) (hr : ∀ x ∈ l, x.length = N) (h r g : Int) (hrl : rlOk h r) : (cf9 fu).call 61 0 62 [.sl GaR l .no, rlD h r g] [] (fun d σ => some (d, σ)) = some (.sl AnR (Ms.alarm h r g l N) .no, []) := by
  have g2 := gh_2 hf
  have := alarm_0l hf l hl h0 N hN hr h r g hrl l.length fu 0 (by omega) (by omega)
  rw [List.take_zero] at this
  exact (alarm_e fu l h r g).trans this
end Go.Proofs.Ytaheamdoldiojaa.P
namespace Go.Proofs.Ytaheamdoldiojaa.P
open Go Go.RowKit Go.Am
set_option maxRecDepth 100000
noncomputable def idxG2_0 (fu m : Nat) (xs : List (List (Int × Int))) (ys : List (List (Int × Int))) (y0 : Int) (y1 : Int) : Option Res := (cf9 fu).loop 60 128 [true, false, true] [] 0 m ⟨tmOf 19 [(0, D.sl GaR xs .no), (1, D.fn 104 [] [D.ep (Row.one (CT.sl GaR)) ys 0]), (4, D.int .i64 0), (7, D.int .i64 y0), (8, D.int .i64 y1)], []⟩
theorem idxG2_0s (fu m : Nat) (xs : List (List (Int × Int))) (ys : List (List (Int × Int))) (y0 : Int) (y1 : Int) : idxG2_0 fu (m + 1) xs ys y0 y1 =
  bif decide (y1 < y0) then
   bif decide (0 ≤ y1) && decide (y1 < (↑xs.length : Int)) then
    bif decide (0 ≤ 0) && decide (0 < (↑ys.length : Int)) then
     bif ((List.length (xs.getD y1.toNat GaR.dflt) : Nat) : Int) != ((List.length (ys.getD 0 GaR.dflt) : Nat) : Int) then
      some ((D.int .i64 y1, []))
     else
      idxG2_0 fu m xs ys y0 (w64 (y1 + 1))
    else
     none
   else
    none
  else
   some ((D.int .i64 (-1), [])) := by kernel_rfl
theorem idxG2_e (fu : Nat) (xs : List (List (Int × Int))) (ys : List (List (Int × Int))) : (cf9 fu).call 61 0 128 [D.sl GaR xs .no, D.fn 104 [] [D.ep (Row.one (CT.sl GaR)) ys 0]] [] (fun d σ => some (d, σ)) =
  idxG2_0 fu fu xs ys ((↑xs.length : Int)) 0 := by kernel_rfl
noncomputable def idxG3_0 (fu m : Nat) (xs : List (List (Int × Int))) (y0 : Int) (y1 : Int) : Option Res := (cf9 fu).loop 60 128 [true, false, true] [] 0 m ⟨tmOf 19 [(0, D.sl GaR xs .no), (1, D.fn 105 [] []), (4, D.int .i64 0), (7, D.int .i64 y0), (8, D.int .i64 y1)], []⟩
theorem idxG3_0s (fu m : Nat) (xs : List (List (Int × Int))) (y0 : Int) (y1 : Int) : idxG3_0 fu (m + 1) xs y0 y1 =
  bif decide (y1 < y0) then
   bif decide (0 ≤ y1) && decide (y1 < (↑xs.length : Int)) then
    bif decide (((List.length (xs.getD y1.toNat GaR.dflt) : Nat) : Int) > 256) then
     some ((D.int .i64 y1, []))
    else
     bif decide (gh fu = true ∧ List.length (xs.getD y1.toNat GaR.dflt) ≤ 256) then
      bif decide (Ms.idx (fun x => !decide (Bo.v x.fst x.snd)) (xs.getD y1.toNat GaR.dflt) 0 ≥ 0) then
       some ((D.int .i64 y1, []))
      else
       idxG3_0 fu m xs y0 (w64 (y1 + 1))
     else
      none
   else
    none
  else
   some ((D.int .i64 (-1), [])) := by kernel_rfl
theorem idxG3_e (fu : Nat) (xs : List (List (Int × Int))) : (cf9 fu).call 61 0 128 [D.sl GaR xs .no, D.fn 105 [] []] [] (fun d σ => some (d, σ)) =
  idxG3_0 fu fu xs ((↑xs.length : Int)) 0 := by kernel_rfl
end Go.Proofs.Ytaheamdoldiojaa.P
