/- SoundAlarms: whether and when an alarm is raised, and warnings, are what the definitions say, or the error. Part 2 of 2. -/
import Derived.Test.YtaheamdoldiojaaKLaw80
import Derived.Test.YtaheamdoldiojaaRows
import Derived.WalkKit
import Derived.ProofKit
import Derived.OpenShut
import Derived.ShutString
import Derived.ChangeOld
import Derived.Below
import Derived.SizedLaws
import Derived.Carry
set_option linter.unusedVariables false
set_option linter.unusedSimpArgs false
namespace Go.Proofs.Ytaheamdoldiojaa.P
open Go Go.RowKit Go.Am
/-! ### gauges -/
def Ms.N (l : Gs) : Nat := List.length (l.getD 0 ([] : List (Int × Int)))
def Ms.rule (h r g : Int) : Int := if rlOk h r ∧ 1 ≤ g ∧ g ≤ 16 then 0 else 2
def p6 (x : List (Int × Int)) : Bool := decide ((x.length : Int) > 256)
def p17 (n : Nat) (x : List (Int × Int)) : Bool := (x.length : Int) != (n : Int)
def p2 (x : List (Int × Int)) : Bool := Ms.trk x != 0
def Ms.gau (l : Gs) (h r g : Int) : Int :=
  if (l.length : Int) < 1 ∨ (l.length : Int) > 16 then 6 else bif l.any p6 then 6 else bif l.any (p17 (Ms.N l)) then 17 else bif l.any p2 then 2 else Ms.rule h r g
theorem ruleTree (h r g : Int) : (bif decide (h < 1) then some (D.int .i64 2, ([] : List Ent)) else bif decide (h > 1073741824) then some (D.int .i64 2, []) else bif decide (r < 1) then some (D.int .i64 2, []) else bif decide (r > 256) then some (D.int .i64 2, []) else bif decide (g < 1) then some (D.int .i64 2, []) else bif decide (g > 16) then some (D.int .i64 2, []) else some (D.int .i64 0, [])) = some (D.int .i64 (Ms.rule h r g), []) := by
  unfold Ms.rule rlOk
  by_cases h1 : h < 1
  · rw [cp h1, if_neg (by omega)]
  rw [cn h1]
  by_cases h2 : h > 1073741824
  · rw [cp h2, if_neg (by omega)]
  rw [cn h2]
  by_cases h3 : r < 1
  · rw [cp h3, if_neg (by omega)]
  rw [cn h3]
  by_cases h4 : r > 256
  · rw [cp h4, if_neg (by omega)]
  rw [cn h4]
  by_cases h5 : g < 1
  · rw [cp h5, if_neg (by omega)]
  rw [cn h5]
  by_cases h6 : g > 16
  · rw [cp h6, if_neg (by omega)]
  rw [cn h6, if_pos (by omega)]
theorem gaugesR_4l {fu : Nat} (hf : gh fu = true) (l : Gs) (h r g : Int) (hl : l.length ≤ 16) : ∀ n m i : Nat, i + n = l.length → n < m → gaugesR_4 fu m l (i : Int) h r g = some (.int .i64 (bif (l.drop i).any p2 then 2 else Ms.rule h r g), [])
  | 0, m, i, hi, hm => by
    obtain ⟨m, rfl⟩ : ∃ j, m = j + 1 := ⟨m - 1, by omega⟩
    rw [gaugesR_4s, cn (by omega), List.drop_eq_nil_of_le (by omega), List.any_nil, cond_false]
    exact ruleTree h r g
  | n + 1, m, i, hi, hm => by
    obtain ⟨m, rfl⟩ : ∃ j, m = j + 1 := ⟨m - 1, by omega⟩
    have hlt : i < l.length := by omega
    rw [gaugesR_4s, cp (by omega), ca ⟨by omega, by omega⟩, getD_nat i hlt, ct' hf, w_succ hlt (by omega), gaugesR_4l hf l h r g hl n m (i + 1) (by omega) (by omega), drop_cons hlt, List.any_cons]
    unfold p2
    by_cases c : (Ms.trk l[i] != 0) = true
    · rw [ct' c, c]
      rfl
    · have c' : (Ms.trk l[i] != 0) = false := by simpa using c
      rw [cf' c', c', Bool.false_or]
theorem gaugesR_2l {fu : Nat} (hf : gh fu = true) (l : Gs) (h r g : Int) (hl : l.length ≤ 16) (h0 : 0 < l.length) : ∀ n m i : Nat, i + n = l.length → n < m → gaugesR_2 fu m l (i : Int) h r g = some (.int .i64 (bif (l.drop i).any (p17 (Ms.N l)) then 17 else bif l.any p2 then 2 else Ms.rule h r g), [])
  | 0, m, i, hi, hm => by
    obtain ⟨m, rfl⟩ : ∃ j, m = j + 1 := ⟨m - 1, by omega⟩
    have g2 := gh_2 hf
    have q := gaugesR_4l hf l h r g hl l.length fu 0 (by omega) (by omega)
    rw [gaugesR_2s, cn (by omega), List.drop_eq_nil_of_le (show l.length ≤ i by omega), List.any_nil, cond_false]
    exact q
  | n + 1, m, i, hi, hm => by
    obtain ⟨m, rfl⟩ : ∃ j, m = j + 1 := ⟨m - 1, by omega⟩
    have hlt : i < l.length := by omega
    have eN : List.length (l.getD 0 GaR.dflt) = Ms.N l := rfl
    rw [gaugesR_2s, cp (by omega), ca ⟨by omega, by omega⟩, ca ⟨by omega, by omega⟩, getD_nat i hlt, eN, w_succ hlt (by omega), gaugesR_2l hf l h r g hl h0 n m (i + 1) (by omega) (by omega), drop_cons hlt, List.any_cons]
    by_cases c : ((l[i].length : Int) != (Ms.N l : Int)) = true
    · rw [ct' c, show p17 (Ms.N l) l[i] = true from c]
      rfl
    · have c' : ((l[i].length : Int) != (Ms.N l : Int)) = false := by simpa using c
      rw [cf' c', show p17 (Ms.N l) l[i] = false from c', Bool.false_or]
theorem gaugesR_0l {fu : Nat} (hf : gh fu = true) (l : Gs) (h r g : Int) (hl : l.length ≤ 16) (h0 : 0 < l.length) : ∀ n m i : Nat, i + n = l.length → n < m → gaugesR_0 fu m l (i : Int) h r g = some (.int .i64 (bif (l.drop i).any p6 then 6 else bif l.any (p17 (Ms.N l)) then 17 else bif l.any p2 then 2 else Ms.rule h r g), [])
  | 0, m, i, hi, hm => by
    obtain ⟨m, rfl⟩ : ∃ j, m = j + 1 := ⟨m - 1, by omega⟩
    have g2 := gh_2 hf
    have q := gaugesR_2l hf l h r g hl h0 l.length fu 0 (by omega) (by omega)
    rw [gaugesR_0s, cn (by omega), List.drop_eq_nil_of_le (show l.length ≤ i by omega), List.any_nil, cond_false]
    exact q
  | n + 1, m, i, hi, hm => by
    obtain ⟨m, rfl⟩ : ∃ j, m = j + 1 := ⟨m - 1, by omega⟩
    have hlt : i < l.length := by omega
    rw [gaugesR_0s, cp (by omega), ca ⟨by omega, by omega⟩, getD_nat i hlt, w_succ hlt (by omega), gaugesR_0l hf l h r g hl h0 n m (i + 1) (by omega) (by omega), drop_cons hlt, List.any_cons]
    unfold p6
    by_cases c : (l[i].length : Int) > 256
    · rw [cp c, decide_eq_true c]
      rfl
    · rw [cn c, decide_eq_false c, Bool.false_or]
theorem gaugesR_i {fu : Nat} (hf : gh fu = true) (l : Gs) (h r g : Int) : (cf9 fu).call 61 0 77 [.sl GaR l .no, rlD h r g] [] (fun d σ => some (d, σ)) = some (.int .i64 (Ms.gau l h r g), []) := by
  have g2 := gh_2 hf
  rw [gaugesR_e]
  unfold Ms.gau
  by_cases h1 : (l.length : Int) < 1
  · rw [cp h1, if_pos (.inl h1)]
  rw [cn h1]
  by_cases h2 : (l.length : Int) > 16
  · rw [cp h2, if_pos (.inr h2)]
  rw [cn h2, if_neg (by omega)]
  exact gaugesR_0l hf l h r g (by omega) (by omega) l.length fu 0 (by omega) (by omega)
theorem idxG2_l {fu : Nat} (xs ys : Gs) (hl : xs.length ≤ 9223372036854775807) (h0 : 0 < ys.length) : ∀ n m i : Nat, i + n = xs.length → n < m → idxG2_0 fu m xs ys (xs.length : Int) (i : Int) = some (.int .i64 (Ms.idx (p17 (Ms.N ys)) (xs.drop i) (i : Int)), [])
  | 0, m, i, hi, hm => by
    obtain ⟨m, rfl⟩ : ∃ j, m = j + 1 := ⟨m - 1, by omega⟩
    rw [idxG2_0s, cn (by omega), List.drop_eq_nil_of_le (by omega)]
    rfl
  | n + 1, m, i, hi, hm => by
    obtain ⟨m, rfl⟩ : ∃ j, m = j + 1 := ⟨m - 1, by omega⟩
    have hlt : i < xs.length := by omega
    have eN : List.length (ys.getD 0 GaR.dflt) = Ms.N ys := rfl
    rw [idxG2_0s, cp (by omega), ca ⟨by omega, by omega⟩, ca ⟨by omega, by omega⟩, getD_nat i hlt, eN, w_succ hlt hl, idxG2_l xs ys hl h0 n m (i + 1) (by omega) (by omega), drop_cons hlt, Ms.idx]
    by_cases c : ((xs[i].length : Int) != (Ms.N ys : Int)) = true
    · rw [ct' c, if_pos (show p17 (Ms.N ys) xs[i] = true from c)]
    · have c' : ((xs[i].length : Int) != (Ms.N ys : Int)) = false := by simpa using c
      rw [cf' c', if_neg (show ¬ p17 (Ms.N ys) xs[i] = true from c)]
      rfl
theorem trk_idx (x : List (Int × Int)) (hx : ¬ (x.length : Int) > 256) : decide (Ms.idx (fun x : Int × Int => !decide (Bo.v x.1 x.2)) x 0 ≥ 0) = p2 x := by
  unfold p2 Ms.trk Ms.chk
  rw [if_neg hx, Ms.idx_ge _ _ _ (by omega), any_not]
  cases x.all fun x => decide (Bo.v x.1 x.2) <;> rfl
theorem idxG3_l {fu : Nat} (hf : gh fu = true) (xs : Gs) (hl : xs.length ≤ 9223372036854775807) : ∀ n m i : Nat, i + n = xs.length → n < m → idxG3_0 fu m xs (xs.length : Int) (i : Int) = some (.int .i64 (Ms.idx p2 (xs.drop i) (i : Int)), [])
  | 0, m, i, hi, hm => by
    obtain ⟨m, rfl⟩ : ∃ j, m = j + 1 := ⟨m - 1, by omega⟩
    rw [idxG3_0s, cn (by omega), List.drop_eq_nil_of_le (by omega)]
    rfl
  | n + 1, m, i, hi, hm => by
    obtain ⟨m, rfl⟩ : ∃ j, m = j + 1 := ⟨m - 1, by omega⟩
    have hlt : i < xs.length := by omega
    rw [idxG3_0s, cp (by omega), ca ⟨by omega, by omega⟩, getD_nat i hlt, w_succ hlt hl, idxG3_l hf xs hl n m (i + 1) (by omega) (by omega), drop_cons hlt, Ms.idx]
    by_cases c : (xs[i].length : Int) > 256
    · rw [cp c, if_pos (by unfold p2 Ms.trk; rw [if_pos c]; rfl)]
    · rw [cn c, cp ⟨hf, by omega⟩, trk_idx _ c]
      by_cases q : p2 xs[i] = true
      · rw [ct' q, if_pos q]
      · rw [cf' (by simpa using q), if_neg q]
        rfl
def idxGS (fu : Nat) : List D → (D → Option Res) → Option Res := tabS fun
  | [a, .fn 103 [] []] => (lst GaR a).map fun xs => (decide (gh fu = true ∧ xs.length ≤ 16), .int .i64 (Ms.idx p6 xs 0))
  | [a, .fn 104 [] [.ep r x 0]] => match lst GaR a, Row.dec r (.one (.sl GaR)) with
    | some xs, .isTrue e => let ys : Row.T (.one (.sl GaR)) := rowC e x; some (decide (gh fu = true ∧ xs.length ≤ 16 ∧ 0 < List.length ys), .int .i64 (Ms.idx (p17 (Ms.N ys)) xs 0))
    | _, _ => none
  | [a, .fn 105 [] []] => (lst GaR a).map fun xs => (decide (gh fu = true ∧ xs.length ≤ 16), .int .i64 (Ms.idx p2 xs 0))
  | _ => none
theorem idxG1_p {fu : Nat} (hf : gh fu = true) (xs : Gs) (hl : xs.length ≤ 16) : (cf6 fu).call 61 0 128 [.sl GaR xs .no, .fn 103 [] []] [] (fun d σ => some (d, σ)) = some (.int .i64 (Ms.idx p6 xs 0), []) := by
  have g2 := gh_2 hf
  exact (idxG1_e fu xs).trans (idxG1_l xs (by omega) xs.length fu 0 (by omega) (by omega))
theorem idxGS_ok (fu : Nat) : SpecOk Try.prog 128 (idxGS fu) := tab_ok ⟨Try.f128, Try.func128, rfl⟩ fun args d h => by
  split at h
  · obtain ⟨xs, hx, h'⟩ := map_some' h
    cases lst_eq hx
    obtain ⟨⟨h1, h2⟩, rfl⟩ := pair_true h'
    exact says_of (cf6_ok fu) (idxG1_p h1 xs h2)
  · split at h
    · rename_i e hx _
      subst e
      cases lst_eq hx
      obtain ⟨⟨h1, h2, h3⟩, rfl⟩ := pair_true (Option.some.inj h)
      have g2 := gh_2 h1
      exact says_of (cf9_ok fu) ((idxG2_e fu _ _).trans (idxG2_l _ _ (by omega) h3 _ fu 0 (Nat.zero_add _) (by omega)))
    · cases h
  · obtain ⟨xs, hx, h'⟩ := map_some' h
    cases lst_eq hx
    obtain ⟨⟨h1, h2⟩, rfl⟩ := pair_true h'
    have g2 := gh_2 h1
    exact says_of (cf9_ok fu) ((idxG3_e fu xs).trans (idxG3_l h1 xs (by omega) xs.length fu 0 (by omega) (by omega)))
  · cases h
def alOk (l : Gs) : Prop := l.length ≤ 16 ∧ 0 < l.length ∧ Ms.N l ≤ 256 ∧ l.all (fun x => decide (x.length = Ms.N l)) = true
instance (l : Gs) : Decidable (alOk l) := by unfold alOk; infer_instance
def alarmS (fu : Nat) : List D → (D → Option Res) → Option Res := tabS fun
  | [a, .agg [.int .i64 h, .int .i64 r, .int .i64 g]] => (lst GaR a).map fun l => (decide (gh fu = true ∧ alOk l ∧ rlOk h r), .sl AnR (Ms.alarm h r g l (Ms.N l)) .no)
  | _ => none
theorem alarmS_ok (fu : Nat) : SpecOk Try.prog 62 (alarmS fu) := tab_ok ⟨Try.f62, Try.func62, rfl⟩ fun args d h => by
  split at h
  · obtain ⟨l, hx, h'⟩ := map_some' h
    cases lst_eq hx
    obtain ⟨⟨h1, h2, h3⟩, rfl⟩ := pair_true h'
    exact says_of (cf9_ok fu) (alarm_i h1 l h2.1 h2.2.1 (Ms.N l) h2.2.2.1 (fun x hx => of_decide_eq_true (List.all_eq_true.1 h2.2.2.2 x hx)) _ _ _ h3)
  · cases h
theorem raisedR_k {fu : Nat} (hf : gh fu = true) (l : Gs) (ha : alOk l) (h r g : Int) (hrl : rlOk h r) (k : Int) (k0 : 0 ≤ k) (hk : k < (Ms.N l : Int)) : (cf9 fu).call 61 0 78 [.sl GaR l .no, rlD h r g, .int .i64 k] [] (fun d σ => some (d, σ)) = some (.int .i64 (Sp.enough g (Ms.col (Ms.rows h r l) k.toNat)), []) := by
  obtain ⟨j, rfl⟩ : ∃ j : Nat, k = (j : Int) := ⟨k.toNat, by omega⟩
  rw [Int.toNat_natCast]
  exact raisedR_i hf l ha.1 (Ms.N l) ha.2.2.1 (fun x hx => of_decide_eq_true (List.all_eq_true.1 ha.2.2.2 x hx)) h r g hrl j (by omega)
def raisedRS (fu : Nat) : List D → (D → Option Res) → Option Res := tabS fun
  | [a, .agg [.int .i64 h, .int .i64 r, .int .i64 g], .int .i64 k] => (lst GaR a).map fun l => (decide (gh fu = true ∧ alOk l ∧ rlOk h r ∧ 0 ≤ k ∧ k < (Ms.N l : Int)), .int .i64 (Sp.enough g (Ms.col (Ms.rows h r l) k.toNat)))
  | _ => none
theorem raisedRS_ok (fu : Nat) : SpecOk Try.prog 78 (raisedRS fu) := tab_ok ⟨Try.f78, Try.func78, rfl⟩ fun args d h => by
  split at h
  · obtain ⟨l, hx, h'⟩ := map_some' h
    cases lst_eq hx
    obtain ⟨⟨h1, h2, h3, h4, h5⟩, rfl⟩ := pair_true h'
    exact says_of (cf9_ok fu) (raisedR_k h1 l h2 _ _ _ h3 _ h4 h5)
  · cases h
def gauS (fu : Nat) : List D → (D → Option Res) → Option Res := tabS fun
  | [a, .agg [.int .i64 h, .int .i64 r, .int .i64 g]] => (lst GaR a).map fun l => (gh fu, .int .i64 (Ms.gau l h r g))
  | _ => none
theorem gauRS_ok (fu : Nat) : SpecOk Try.prog 77 (gauS fu) := tab_ok ⟨Try.f77, Try.func77, rfl⟩ fun args d h => by
  split at h
  · obtain ⟨l, hx, h'⟩ := map_some' h
    cases lst_eq hx
    obtain ⟨h1, rfl⟩ := bool_pair h'
    exact says_of (cf9_ok fu) (gaugesR_i h1 l _ _ _)
  · cases h
def sp10 : Nat → FuncId → Option (List D → (D → Option Res) → Option Res) := also 128 idxGS (also 62 alarmS (also 78 raisedRS (also 77 gauS sp9)))
theorem sp10_ok (fu : Nat) : ∀ f s, sp10 fu f = some s → SpecOk Try.prog f s := also_ok (idxGS_ok fu) (also_ok (alarmS_ok fu) (also_ok (raisedRS_ok fu) (also_ok (gauRS_ok fu) (sp9_ok fu))))
noncomputable def cf10 (fu : Nat) : Cfg := cfgS sp10 fu
theorem cf10_ok (fu : Nat) : CfgOk (cf10 fu) := cfgS_ok (sp10_ok fu)
end Go.Proofs.Ytaheamdoldiojaa.P
namespace Go.Proofs.Ytaheamdoldiojaa.P
open Go Go.RowKit Go.Am
abbrev Co := Int × Int × Int × Int × Int
def okC (c : Co) : Bool := Sp.vb (c.1, c.2.1, c.2.2.1, c.2.2.2.1) && (decide (c.2.2.2.2 ≥ 0) && decide (c.2.2.2.2 ≤ 16777216))
theorem idxC_l {fu : Nat} (hf : gh fu = true) (xs : List Co) (hl : xs.length ≤ 9223372036854775807) : ∀ n m i : Nat, i + n = xs.length → n < m → idxC_0 fu m xs (xs.length : Int) (i : Int) = some (.int .i64 (Ms.idx (fun c => !okC c) (xs.drop i) (i : Int)), [])
  | 0, m, i, hi, hm => by
    obtain ⟨m, rfl⟩ : ∃ j, m = j + 1 := ⟨m - 1, by omega⟩
    rw [idxC_0s, cn (by omega), List.drop_eq_nil_of_le (by omega)]
    rfl
  | n + 1, m, i, hi, hm => by
    obtain ⟨m, rfl⟩ : ∃ j, m = j + 1 := ⟨m - 1, by omega⟩
    have hlt : i < xs.length := by omega
    have g2 := gh_2 hf
    rw [idxC_0s, cp (by omega), ca ⟨by omega, by omega⟩, cp ⟨by omega, by omega⟩, getD_nat i hlt, e02_0, w_succ hlt hl, idxC_l hf xs hl n m (i + 1) (by omega) (by omega), drop_cons hlt, Ms.idx]
    unfold okC
    cases Sp.vb (xs[i].1, xs[i].2.1, xs[i].2.2.1, xs[i].2.2.2.1)
    · rfl
    · by_cases c1 : xs[i].2.2.2.2 ≥ 0
      · by_cases c2 : xs[i].2.2.2.2 ≤ 16777216
        · rw [cp c1, decide_eq_true c1, decide_eq_true c2]
          rfl
        · rw [cp c1, decide_eq_true c1, decide_eq_false c2]
          rfl
      · rw [cn c1, decide_eq_false c1]
        rfl
def idxCS (fu : Nat) : List D → (D → Option Res) → Option Res := tabS fun
  | [a, .fn 82 [] []] => (lst CoR a).map fun xs => (decide (gh fu = true ∧ xs.length ≤ 1000), .int .i64 (Ms.idx (fun c => !okC c) xs 0))
  | _ => none
theorem idxCS_ok (fu : Nat) : SpecOk Try.prog 119 (idxCS fu) := tab_ok ⟨Try.f119, Try.func119, rfl⟩ fun args d h => by
  split at h
  · obtain ⟨xs, hx, h'⟩ := map_some' h
    cases lst_eq hx
    obtain ⟨⟨h1, h2⟩, rfl⟩ := pair_true h'
    have g2 := gh_2 h1
    exact says_of (cf6_ok fu) ((idxC_e fu xs).trans (idxC_l h1 xs (by omega) xs.length fu 0 (by omega) (by omega)))
  · cases h
def sp11 : Nat → FuncId → Option (List D → (D → Option Res) → Option Res) := also 119 idxCS sp10
theorem sp11_ok (fu : Nat) : ∀ f s, sp11 fu f = some s → SpecOk Try.prog f s := also_ok (idxCS_ok fu) (sp10_ok fu)
noncomputable def cf11 (fu : Nat) : Cfg := cfgS sp11 fu
theorem cf11_ok (fu : Nat) : CfgOk (cf11 fu) := cfgS_ok (sp11_ok fu)
end Go.Proofs.Ytaheamdoldiojaa.P
namespace Go.Proofs.Ytaheamdoldiojaa.P
open Go Go.RowKit Go.Am
set_option maxRecDepth 100000
theorem gaugesP_e (fu : Nat) (l : List (List (Int × Int))) (h : Int) (r : Int) (g : Int) : (cf10 fu).call 61 0 61 [D.sl GaR l .no, rlD h r g] [] (fun d σ => some (d, σ)) =
  bif decide ((↑l.length : Int) < 1) then
   some ((D.int .i64 6, []))
  else
   bif decide ((↑l.length : Int) > 16) then
    some ((D.int .i64 6, []))
   else
    bif decide (gh fu = true ∧ l.length ≤ 16) then
     bif decide (Ms.idx p6 l 0 ≥ 0) then
      some ((D.int .i64 6, []))
     else
      bif decide (gh fu = true ∧ l.length ≤ 16 ∧ 0 < l.length) then
       bif decide (Ms.idx (p17 (Ms.N l)) l 0 ≥ 0) then
        some ((D.int .i64 17, []))
       else
        bif decide (gh fu = true ∧ l.length ≤ 16) then
         bif decide (Ms.idx p2 l 0 ≥ 0) then
          some ((D.int .i64 2, []))
         else
          bif decide (h ≥ 1) then
           bif !decide (h ≤ 1073741824) then
            some ((D.int .i64 2, []))
           else
            bif decide (r < 1) then
             some ((D.int .i64 2, []))
            else
             bif decide (r > 256) then
              some ((D.int .i64 2, []))
             else
              bif decide (g < 1) then
               some ((D.int .i64 2, []))
              else
               bif decide (g > 16) then
                some ((D.int .i64 2, []))
               else
                some ((D.int .i64 0, []))
          else
           some ((D.int .i64 2, []))
        else
         none
      else
       none
    else
     none := by kernel_rfl
noncomputable def firstR_0 (fu m : Nat) (l : List (List (Int × Int))) (y0 : Int) (y1 : Int) (h : Int) (r : Int) (g : Int) : Option Res := (cf10 fu).loop 60 37 [true, true, true, false, true] [] 1 m ⟨tmOf 41 [(0, D.sl GaR l .no), (3, D.ptr 0 0), (4, D.int .i64 0), (5, D.int .i64 0), (6, D.int .i64 0), (7, D.int .i64 y0), (8, D.int .i64 y1)], [Ent.box [D.int .i64 h, D.int .i64 r, D.int .i64 g]]⟩
theorem firstR_0s (fu m : Nat) (l : List (List (Int × Int))) (y0 : Int) (y1 : Int) (h : Int) (r : Int) (g : Int) : firstR_0 fu (m + 1) l y0 y1 h r g =
  bif decide (0 ≤ 0) && decide (0 < (↑l.length : Int)) then
   bif decide (y1 < ((List.length (l.getD (Int.toNat 0) GaR.dflt) : Nat) : Int)) then
    bif decide (gh fu = true ∧ alOk l ∧ rlOk h r ∧ 0 ≤ y1 ∧ y1 < ((Ms.N l : Nat) : Int)) then
     bif Sp.enough g (Ms.col (Ms.rows h r l) y1.toNat) != 0 then
      bif decide (y0 < 0) then
       bif Sp.enough g (Ms.col (Ms.rows h r l) y1.toNat) == 2 then
        some ((D.tup [D.int .i64 y1, D.int .i64 y1, D.int .i64 0], []))
       else
        firstR_0 fu m l y1 (w64 (y1 + 1)) h r g
      else
       bif Sp.enough g (Ms.col (Ms.rows h r l) y1.toNat) == 2 then
        some ((D.tup [D.int .i64 y1, D.int .i64 y0, D.int .i64 0], []))
       else
        firstR_0 fu m l y0 (w64 (y1 + 1)) h r g
     else
      bif Sp.enough g (Ms.col (Ms.rows h r l) y1.toNat) == 2 then
       some ((D.tup [D.int .i64 y1, D.int .i64 y0, D.int .i64 0], []))
      else
       firstR_0 fu m l y0 (w64 (y1 + 1)) h r g
    else
     none
   else
    some ((D.tup [D.int .i64 0, D.int .i64 0, D.int .i64 5], []))
  else
   none := by kernel_rfl
theorem firstR_e (fu : Nat) (l : List (List (Int × Int))) (h : Int) (r : Int) (g : Int) : (cf10 fu).call 61 0 37 [D.sl GaR l .no, rlD h r g] [] (fun d σ => some (d, σ)) =
  bif gh fu then
   bif Ms.gau l h r g != 0 then
    bif gh fu then
     some ((D.tup [D.int .i64 0, D.int .i64 0, D.int .i64 (Ms.gau l h r g)], []))
    else
     none
   else
    firstR_0 fu fu l (-1) 0 h r g
  else
   none := by kernel_rfl
theorem raisedRA_e (fu : Nat) (l : List (List (Int × Int))) (h : Int) (r : Int) (g : Int) (k : Int) : (cf10 fu).call 61 0 36 [D.sl GaR l .no, rlD h r g, D.int .i64 k] [] (fun d σ => some (d, σ)) =
  bif gh fu then
   bif Ms.gau l h r g != 0 then
    bif gh fu then
     some ((D.tup [D.int .i64 0, D.int .i64 (Ms.gau l h r g)], []))
    else
     none
   else
    bif decide (k < 0) then
     some ((D.tup [D.int .i64 0, D.int .i64 3], []))
    else
     bif decide (0 ≤ 0) && decide (0 < (↑l.length : Int)) then
      bif decide (k ≥ ((List.length (l.getD (Int.toNat 0) GaR.dflt) : Nat) : Int)) then
       some ((D.tup [D.int .i64 0, D.int .i64 3], []))
      else
       bif decide (gh fu = true ∧ alOk l ∧ rlOk h r ∧ 0 ≤ k ∧ k < ((Ms.N l : Nat) : Int)) then
        some ((D.tup [D.int .i64 (Sp.enough g (Ms.col (Ms.rows h r l) k.toNat)), D.int .i64 0], []))
       else
        none
     else
      none
  else
   none := by kernel_rfl
end Go.Proofs.Ytaheamdoldiojaa.P
namespace Go.Proofs.Ytaheamdoldiojaa.P
open Go Go.RowKit Go.Am
set_option maxRecDepth 100000
noncomputable def warnP_1 (fu m : Nat) (at_ : Int) (l1 : List (Int × Int × Int)) (cs : List (Int × Int × Int × Int × Int)) (y0 : Int) (y2 : Int) (st : List (Int × Int × Int × Int)) (lo : Int) (hi : Int) (b0 : Int) (b1 : Int) (b2 : Int) (b3 : Int) (o0 : Int) (o1 : Int) (l3 : Nat) : Option Res := (cf11 fu).loop 60 38 [true, true, true, false, true] [] 5 m ⟨tmOf 94 [(3, D.int .i64 at_), (5, D.ptr 0 0), (6, D.ptr 1 0), (7, D.ptr 2 0), (10, D.sl WaR [] (.own 3)), (11, D.int .i64 0), (13, D.sl WaR l1 (.own 4)), (45, D.sl CoR cs .no), (46, D.int .i64 y0), (47, D.int .i64 y2)], [Ent.box [D.sl BxR st .no, D.int .i64 lo, D.int .i64 hi], Ent.box [D.int .i64 b0, D.int .i64 b1, D.int .i64 b2, D.int .i64 b3], Ent.box [D.int .i64 o0, D.int .i64 o1], Ent.tok WaR 0, Ent.tok WaR l3]⟩
theorem warnP_1s (fu m : Nat) (at_ : Int) (l1 : List (Int × Int × Int)) (cs : List (Int × Int × Int × Int × Int)) (y0 : Int) (y2 : Int) (st : List (Int × Int × Int × Int)) (lo : Int) (hi : Int) (b0 : Int) (b1 : Int) (b2 : Int) (b3 : Int) (o0 : Int) (o1 : Int) (l3 : Nat) : warnP_1 fu (m + 1) at_ l1 cs y0 y2 st lo hi b0 b1 b2 b3 o0 o1 l3 =
  bif decide (y2 < y0) then
   bif decide (0 ≤ y2) && decide (y2 < (↑cs.length : Int)) then
    bif decide (Ms.tg fu lo hi (b0, b1, b2, b3) ((cs.getD y2.toNat CoR.dflt).fst, (cs.getD y2.toNat CoR.dflt).snd.fst, (cs.getD y2.toNat CoR.dflt).snd.snd.fst, (cs.getD y2.toNat CoR.dflt).snd.snd.snd.fst)) then
     bif decide (w64 (at_ + w64 (1000 * (cs.getD y2.toNat CoR.dflt).snd.snd.snd.snd)) ≤ w64 (o0 + (Sp.trav lo hi (b0, b1, b2, b3) ((cs.getD y2.toNat CoR.dflt).fst, (cs.getD y2.toNat CoR.dflt).snd.fst, (cs.getD y2.toNat CoR.dflt).snd.snd.fst, (cs.getD y2.toNat CoR.dflt).snd.snd.snd.fst)).fst)) then
      bif lenOk l3 l1.length && room (l1 ++ [(w64 (o0 + (Sp.trav lo hi (b0, b1, b2, b3) ((cs.getD y2.toNat CoR.dflt).fst, (cs.getD y2.toNat CoR.dflt).snd.fst, (cs.getD y2.toNat CoR.dflt).snd.snd.fst, (cs.getD y2.toNat CoR.dflt).snd.snd.snd.fst)).fst), w64 (o1 + (Sp.trav lo hi (b0, b1, b2, b3) ((cs.getD y2.toNat CoR.dflt).fst, (cs.getD y2.toNat CoR.dflt).snd.fst, (cs.getD y2.toNat CoR.dflt).snd.snd.fst, (cs.getD y2.toNat CoR.dflt).snd.snd.snd.fst)).snd), 2)]).length 24 then
       warnP_1 fu m at_ (l1 ++ [(w64 (o0 + (Sp.trav lo hi (b0, b1, b2, b3) ((cs.getD y2.toNat CoR.dflt).fst, (cs.getD y2.toNat CoR.dflt).snd.fst, (cs.getD y2.toNat CoR.dflt).snd.snd.fst, (cs.getD y2.toNat CoR.dflt).snd.snd.snd.fst)).fst), w64 (o1 + (Sp.trav lo hi (b0, b1, b2, b3) ((cs.getD y2.toNat CoR.dflt).fst, (cs.getD y2.toNat CoR.dflt).snd.fst, (cs.getD y2.toNat CoR.dflt).snd.snd.fst, (cs.getD y2.toNat CoR.dflt).snd.snd.snd.fst)).snd), 2)]) cs y0 (w64 (y2 + 1)) st lo hi b0 b1 b2 b3 o0 o1 ((l1 ++ [(w64 (o0 + (Sp.trav lo hi (b0, b1, b2, b3) ((cs.getD y2.toNat CoR.dflt).fst, (cs.getD y2.toNat CoR.dflt).snd.fst, (cs.getD y2.toNat CoR.dflt).snd.snd.fst, (cs.getD y2.toNat CoR.dflt).snd.snd.snd.fst)).fst), w64 (o1 + (Sp.trav lo hi (b0, b1, b2, b3) ((cs.getD y2.toNat CoR.dflt).fst, (cs.getD y2.toNat CoR.dflt).snd.fst, (cs.getD y2.toNat CoR.dflt).snd.snd.fst, (cs.getD y2.toNat CoR.dflt).snd.snd.snd.fst)).snd), 2)]).length)
      else
       none
     else
      bif decide (w64 (at_ + w64 (1000 * (cs.getD y2.toNat CoR.dflt).snd.snd.snd.snd)) > w64 (o1 + (Sp.trav lo hi (b0, b1, b2, b3) ((cs.getD y2.toNat CoR.dflt).fst, (cs.getD y2.toNat CoR.dflt).snd.fst, (cs.getD y2.toNat CoR.dflt).snd.snd.fst, (cs.getD y2.toNat CoR.dflt).snd.snd.snd.fst)).snd)) then
       bif lenOk l3 l1.length && room (l1 ++ [(w64 (o0 + (Sp.trav lo hi (b0, b1, b2, b3) ((cs.getD y2.toNat CoR.dflt).fst, (cs.getD y2.toNat CoR.dflt).snd.fst, (cs.getD y2.toNat CoR.dflt).snd.snd.fst, (cs.getD y2.toNat CoR.dflt).snd.snd.snd.fst)).fst), w64 (o1 + (Sp.trav lo hi (b0, b1, b2, b3) ((cs.getD y2.toNat CoR.dflt).fst, (cs.getD y2.toNat CoR.dflt).snd.fst, (cs.getD y2.toNat CoR.dflt).snd.snd.fst, (cs.getD y2.toNat CoR.dflt).snd.snd.snd.fst)).snd), 0)]).length 24 then
        warnP_1 fu m at_ (l1 ++ [(w64 (o0 + (Sp.trav lo hi (b0, b1, b2, b3) ((cs.getD y2.toNat CoR.dflt).fst, (cs.getD y2.toNat CoR.dflt).snd.fst, (cs.getD y2.toNat CoR.dflt).snd.snd.fst, (cs.getD y2.toNat CoR.dflt).snd.snd.snd.fst)).fst), w64 (o1 + (Sp.trav lo hi (b0, b1, b2, b3) ((cs.getD y2.toNat CoR.dflt).fst, (cs.getD y2.toNat CoR.dflt).snd.fst, (cs.getD y2.toNat CoR.dflt).snd.snd.fst, (cs.getD y2.toNat CoR.dflt).snd.snd.snd.fst)).snd), 0)]) cs y0 (w64 (y2 + 1)) st lo hi b0 b1 b2 b3 o0 o1 ((l1 ++ [(w64 (o0 + (Sp.trav lo hi (b0, b1, b2, b3) ((cs.getD y2.toNat CoR.dflt).fst, (cs.getD y2.toNat CoR.dflt).snd.fst, (cs.getD y2.toNat CoR.dflt).snd.snd.fst, (cs.getD y2.toNat CoR.dflt).snd.snd.snd.fst)).fst), w64 (o1 + (Sp.trav lo hi (b0, b1, b2, b3) ((cs.getD y2.toNat CoR.dflt).fst, (cs.getD y2.toNat CoR.dflt).snd.fst, (cs.getD y2.toNat CoR.dflt).snd.snd.fst, (cs.getD y2.toNat CoR.dflt).snd.snd.snd.fst)).snd), 0)]).length)
       else
        none
      else
       bif lenOk l3 l1.length && room (l1 ++ [(w64 (o0 + (Sp.trav lo hi (b0, b1, b2, b3) ((cs.getD y2.toNat CoR.dflt).fst, (cs.getD y2.toNat CoR.dflt).snd.fst, (cs.getD y2.toNat CoR.dflt).snd.snd.fst, (cs.getD y2.toNat CoR.dflt).snd.snd.snd.fst)).fst), w64 (o1 + (Sp.trav lo hi (b0, b1, b2, b3) ((cs.getD y2.toNat CoR.dflt).fst, (cs.getD y2.toNat CoR.dflt).snd.fst, (cs.getD y2.toNat CoR.dflt).snd.snd.fst, (cs.getD y2.toNat CoR.dflt).snd.snd.snd.fst)).snd), 1)]).length 24 then
        warnP_1 fu m at_ (l1 ++ [(w64 (o0 + (Sp.trav lo hi (b0, b1, b2, b3) ((cs.getD y2.toNat CoR.dflt).fst, (cs.getD y2.toNat CoR.dflt).snd.fst, (cs.getD y2.toNat CoR.dflt).snd.snd.fst, (cs.getD y2.toNat CoR.dflt).snd.snd.snd.fst)).fst), w64 (o1 + (Sp.trav lo hi (b0, b1, b2, b3) ((cs.getD y2.toNat CoR.dflt).fst, (cs.getD y2.toNat CoR.dflt).snd.fst, (cs.getD y2.toNat CoR.dflt).snd.snd.fst, (cs.getD y2.toNat CoR.dflt).snd.snd.snd.fst)).snd), 1)]) cs y0 (w64 (y2 + 1)) st lo hi b0 b1 b2 b3 o0 o1 ((l1 ++ [(w64 (o0 + (Sp.trav lo hi (b0, b1, b2, b3) ((cs.getD y2.toNat CoR.dflt).fst, (cs.getD y2.toNat CoR.dflt).snd.fst, (cs.getD y2.toNat CoR.dflt).snd.snd.fst, (cs.getD y2.toNat CoR.dflt).snd.snd.snd.fst)).fst), w64 (o1 + (Sp.trav lo hi (b0, b1, b2, b3) ((cs.getD y2.toNat CoR.dflt).fst, (cs.getD y2.toNat CoR.dflt).snd.fst, (cs.getD y2.toNat CoR.dflt).snd.snd.fst, (cs.getD y2.toNat CoR.dflt).snd.snd.snd.fst)).snd), 1)]).length)
       else
        none
    else
     none
   else
    none
  else
   some ((D.tup [D.sl WaR l1 .no, D.int .i64 0], [])) := by kernel_rfl
theorem warnP_e (fu : Nat) (st : List (Int × Int × Int × Int)) (lo : Int) (hi : Int) (b0 : Int) (b1 : Int) (b2 : Int) (b3 : Int) (o0 : Int) (o1 : Int) (at_ : Int) (cs : List (Int × Int × Int × Int × Int)) : (cf11 fu).call 61 0 38 [ntD st lo hi, bxD b0 b1 b2 b3, spD o0 o1, D.int .i64 at_, D.sl CoR cs .no] [] (fun d σ => some (d, σ)) =
  bif decide (gf fu = true ∧ st.length < fu) then
   bif Sp.net st lo hi != 0 then
    some ((D.tup [D.sl WaR [] .fresh, D.int .i64 (Sp.net st lo hi)], []))
   else
    bif decide (2 < fu ∧ fu ≤ 100000) then
     bif e02 (Sp.vb (b0, b1, b2, b3)) != 0 then
      some ((D.tup [D.sl WaR [] .fresh, D.int .i64 2], []))
     else
      bif decide (o0 ≤ o1) then
       bif decide (o0 ≥ -1125899906842624) then
        bif !decide (o1 ≤ 1125899906842624) then
         some ((D.tup [D.sl WaR [] .fresh, D.int .i64 2], []))
        else
         bif decide (at_ ≥ -1125899906842624) then
          bif !decide (at_ ≤ 1125899906842624) then
           some ((D.tup [D.sl WaR [] .fresh, D.int .i64 3], []))
          else
           bif decide ((↑cs.length : Int) > 16) then
            some ((D.tup [D.sl WaR [] .fresh, D.int .i64 6], []))
           else
            bif decide (gh fu = true ∧ cs.length ≤ 1000) then
             bif decide (Ms.idx (fun c => !okC c) cs 0 ≥ 0) then
              some ((D.tup [D.sl WaR [] .fresh, D.int .i64 2], []))
             else
              warnP_1 fu fu at_ [] cs ((↑cs.length : Int)) 0 st lo hi b0 b1 b2 b3 o0 o1 0
            else
             none
         else
          some ((D.tup [D.sl WaR [] .fresh, D.int .i64 3], []))
       else
        some ((D.tup [D.sl WaR [] .fresh, D.int .i64 2], []))
      else
       some ((D.tup [D.sl WaR [] .fresh, D.int .i64 2], []))
    else
     none
  else
   none := by kernel_rfl
noncomputable def warnR_0 (fu m : Nat) (at_ : Int) (cs : List (Int × Int × Int × Int × Int)) (y0 : Int) (st : List (Int × Int × Int × Int)) (lo : Int) (hi : Int) (b0 : Int) (b1 : Int) (b2 : Int) (b3 : Int) (o0 : Int) (o1 : Int) : Option Res := (cf11 fu).loop 60 39 [true, true, true, true, true, false, true] [] 4 m ⟨tmOf 121 [(3, D.int .i64 at_), (4, D.sl CoR cs .no), (5, D.ptr 0 0), (6, D.ptr 1 0), (7, D.ptr 2 0), (10, D.sl WaR [] (.own 3)), (11, D.int .i64 0), (12, D.int .i64 y0)], [Ent.box [D.sl BxR st .no, D.int .i64 lo, D.int .i64 hi], Ent.box [D.int .i64 b0, D.int .i64 b1, D.int .i64 b2, D.int .i64 b3], Ent.box [D.int .i64 o0, D.int .i64 o1], Ent.tok WaR 0]⟩
noncomputable def warnR_2 (fu m : Nat) (at_ : Int) (cs : List (Int × Int × Int × Int × Int)) (l1 : List (Int × Int × Int)) (y2 : Int) (st : List (Int × Int × Int × Int)) (lo : Int) (hi : Int) (b0 : Int) (b1 : Int) (b2 : Int) (b3 : Int) (o0 : Int) (o1 : Int) (l3 : Nat) : Option Res := (cf11 fu).loop 60 39 [true, true, true, true, true, true, true, false, true] [] 5 m ⟨tmOf 121 [(3, D.int .i64 at_), (4, D.sl CoR cs .no), (5, D.ptr 0 0), (6, D.ptr 1 0), (7, D.ptr 2 0), (10, D.sl WaR [] (.own 3)), (11, D.int .i64 0), (13, D.sl WaR l1 (.own 4)), (14, D.int .i64 y2)], [Ent.box [D.sl BxR st .no, D.int .i64 lo, D.int .i64 hi], Ent.box [D.int .i64 b0, D.int .i64 b1, D.int .i64 b2, D.int .i64 b3], Ent.box [D.int .i64 o0, D.int .i64 o1], Ent.tok WaR 0, Ent.tok WaR l3]⟩
theorem warnR_0s (fu m : Nat) (at_ : Int) (cs : List (Int × Int × Int × Int × Int)) (y0 : Int) (st : List (Int × Int × Int × Int)) (lo : Int) (hi : Int) (b0 : Int) (b1 : Int) (b2 : Int) (b3 : Int) (o0 : Int) (o1 : Int) : warnR_0 fu (m + 1) at_ cs y0 st lo hi b0 b1 b2 b3 o0 o1 =
  bif decide (y0 < (↑cs.length : Int)) then
   bif decide (0 ≤ y0) && decide (y0 < (↑cs.length : Int)) then
    bif !Sp.vb ((cs.getD y0.toNat CoR.dflt).fst, (cs.getD y0.toNat CoR.dflt).snd.fst, (cs.getD y0.toNat CoR.dflt).snd.snd.fst, (cs.getD y0.toNat CoR.dflt).snd.snd.snd.fst) then
     some ((D.tup [D.sl WaR [] .fresh, D.int .i64 2], []))
    else
     bif decide (0 ≤ y0) && decide (y0 < (↑cs.length : Int)) then
      bif decide ((cs.getD y0.toNat CoR.dflt).snd.snd.snd.snd < 0) then
       some ((D.tup [D.sl WaR [] .fresh, D.int .i64 2], []))
      else
       bif decide (0 ≤ y0) && decide (y0 < (↑cs.length : Int)) then
        bif decide ((cs.getD y0.toNat CoR.dflt).snd.snd.snd.snd > 16777216) then
         some ((D.tup [D.sl WaR [] .fresh, D.int .i64 2], []))
        else
         warnR_0 fu m at_ cs (w64 (y0 + 1)) st lo hi b0 b1 b2 b3 o0 o1
       else
        none
     else
      none
   else
    none
  else
   warnR_2 fu fu at_ cs [] 0 st lo hi b0 b1 b2 b3 o0 o1 0 := by kernel_rfl
theorem warnR_2s (fu m : Nat) (at_ : Int) (cs : List (Int × Int × Int × Int × Int)) (l1 : List (Int × Int × Int)) (y2 : Int) (st : List (Int × Int × Int × Int)) (lo : Int) (hi : Int) (b0 : Int) (b1 : Int) (b2 : Int) (b3 : Int) (o0 : Int) (o1 : Int) (l3 : Nat) : warnR_2 fu (m + 1) at_ cs l1 y2 st lo hi b0 b1 b2 b3 o0 o1 l3 =
  bif decide (y2 < (↑cs.length : Int)) then
   bif decide (0 ≤ y2) && decide (y2 < (↑cs.length : Int)) then
    bif decide (Ms.tg fu lo hi (b0, b1, b2, b3) ((cs.getD y2.toNat CoR.dflt).fst, (cs.getD y2.toNat CoR.dflt).snd.fst, (cs.getD y2.toNat CoR.dflt).snd.snd.fst, (cs.getD y2.toNat CoR.dflt).snd.snd.snd.fst)) then
     bif decide (0 ≤ y2) && decide (y2 < (↑cs.length : Int)) then
      bif decide (w64 (at_ + w64 (1000 * (cs.getD y2.toNat CoR.dflt).snd.snd.snd.snd)) ≤ w64 (o0 + (Sp.trav lo hi (b0, b1, b2, b3) ((cs.getD y2.toNat CoR.dflt).fst, (cs.getD y2.toNat CoR.dflt).snd.fst, (cs.getD y2.toNat CoR.dflt).snd.snd.fst, (cs.getD y2.toNat CoR.dflt).snd.snd.snd.fst)).fst)) then
       bif lenOk l3 l1.length && room (l1 ++ [(w64 (o0 + (Sp.trav lo hi (b0, b1, b2, b3) ((cs.getD y2.toNat CoR.dflt).fst, (cs.getD y2.toNat CoR.dflt).snd.fst, (cs.getD y2.toNat CoR.dflt).snd.snd.fst, (cs.getD y2.toNat CoR.dflt).snd.snd.snd.fst)).fst), w64 (o1 + (Sp.trav lo hi (b0, b1, b2, b3) ((cs.getD y2.toNat CoR.dflt).fst, (cs.getD y2.toNat CoR.dflt).snd.fst, (cs.getD y2.toNat CoR.dflt).snd.snd.fst, (cs.getD y2.toNat CoR.dflt).snd.snd.snd.fst)).snd), 2)]).length 24 then
        warnR_2 fu m at_ cs (l1 ++ [(w64 (o0 + (Sp.trav lo hi (b0, b1, b2, b3) ((cs.getD y2.toNat CoR.dflt).fst, (cs.getD y2.toNat CoR.dflt).snd.fst, (cs.getD y2.toNat CoR.dflt).snd.snd.fst, (cs.getD y2.toNat CoR.dflt).snd.snd.snd.fst)).fst), w64 (o1 + (Sp.trav lo hi (b0, b1, b2, b3) ((cs.getD y2.toNat CoR.dflt).fst, (cs.getD y2.toNat CoR.dflt).snd.fst, (cs.getD y2.toNat CoR.dflt).snd.snd.fst, (cs.getD y2.toNat CoR.dflt).snd.snd.snd.fst)).snd), 2)]) (w64 (y2 + 1)) st lo hi b0 b1 b2 b3 o0 o1 ((l1 ++ [(w64 (o0 + (Sp.trav lo hi (b0, b1, b2, b3) ((cs.getD y2.toNat CoR.dflt).fst, (cs.getD y2.toNat CoR.dflt).snd.fst, (cs.getD y2.toNat CoR.dflt).snd.snd.fst, (cs.getD y2.toNat CoR.dflt).snd.snd.snd.fst)).fst), w64 (o1 + (Sp.trav lo hi (b0, b1, b2, b3) ((cs.getD y2.toNat CoR.dflt).fst, (cs.getD y2.toNat CoR.dflt).snd.fst, (cs.getD y2.toNat CoR.dflt).snd.snd.fst, (cs.getD y2.toNat CoR.dflt).snd.snd.snd.fst)).snd), 2)]).length)
       else
        none
      else
       bif decide (w64 (at_ + w64 (1000 * (cs.getD y2.toNat CoR.dflt).snd.snd.snd.snd)) > w64 (o1 + (Sp.trav lo hi (b0, b1, b2, b3) ((cs.getD y2.toNat CoR.dflt).fst, (cs.getD y2.toNat CoR.dflt).snd.fst, (cs.getD y2.toNat CoR.dflt).snd.snd.fst, (cs.getD y2.toNat CoR.dflt).snd.snd.snd.fst)).snd)) then
        bif lenOk l3 l1.length && room (l1 ++ [(w64 (o0 + (Sp.trav lo hi (b0, b1, b2, b3) ((cs.getD y2.toNat CoR.dflt).fst, (cs.getD y2.toNat CoR.dflt).snd.fst, (cs.getD y2.toNat CoR.dflt).snd.snd.fst, (cs.getD y2.toNat CoR.dflt).snd.snd.snd.fst)).fst), w64 (o1 + (Sp.trav lo hi (b0, b1, b2, b3) ((cs.getD y2.toNat CoR.dflt).fst, (cs.getD y2.toNat CoR.dflt).snd.fst, (cs.getD y2.toNat CoR.dflt).snd.snd.fst, (cs.getD y2.toNat CoR.dflt).snd.snd.snd.fst)).snd), 0)]).length 24 then
         warnR_2 fu m at_ cs (l1 ++ [(w64 (o0 + (Sp.trav lo hi (b0, b1, b2, b3) ((cs.getD y2.toNat CoR.dflt).fst, (cs.getD y2.toNat CoR.dflt).snd.fst, (cs.getD y2.toNat CoR.dflt).snd.snd.fst, (cs.getD y2.toNat CoR.dflt).snd.snd.snd.fst)).fst), w64 (o1 + (Sp.trav lo hi (b0, b1, b2, b3) ((cs.getD y2.toNat CoR.dflt).fst, (cs.getD y2.toNat CoR.dflt).snd.fst, (cs.getD y2.toNat CoR.dflt).snd.snd.fst, (cs.getD y2.toNat CoR.dflt).snd.snd.snd.fst)).snd), 0)]) (w64 (y2 + 1)) st lo hi b0 b1 b2 b3 o0 o1 ((l1 ++ [(w64 (o0 + (Sp.trav lo hi (b0, b1, b2, b3) ((cs.getD y2.toNat CoR.dflt).fst, (cs.getD y2.toNat CoR.dflt).snd.fst, (cs.getD y2.toNat CoR.dflt).snd.snd.fst, (cs.getD y2.toNat CoR.dflt).snd.snd.snd.fst)).fst), w64 (o1 + (Sp.trav lo hi (b0, b1, b2, b3) ((cs.getD y2.toNat CoR.dflt).fst, (cs.getD y2.toNat CoR.dflt).snd.fst, (cs.getD y2.toNat CoR.dflt).snd.snd.fst, (cs.getD y2.toNat CoR.dflt).snd.snd.snd.fst)).snd), 0)]).length)
        else
         none
       else
        bif lenOk l3 l1.length && room (l1 ++ [(w64 (o0 + (Sp.trav lo hi (b0, b1, b2, b3) ((cs.getD y2.toNat CoR.dflt).fst, (cs.getD y2.toNat CoR.dflt).snd.fst, (cs.getD y2.toNat CoR.dflt).snd.snd.fst, (cs.getD y2.toNat CoR.dflt).snd.snd.snd.fst)).fst), w64 (o1 + (Sp.trav lo hi (b0, b1, b2, b3) ((cs.getD y2.toNat CoR.dflt).fst, (cs.getD y2.toNat CoR.dflt).snd.fst, (cs.getD y2.toNat CoR.dflt).snd.snd.fst, (cs.getD y2.toNat CoR.dflt).snd.snd.snd.fst)).snd), 1)]).length 24 then
         warnR_2 fu m at_ cs (l1 ++ [(w64 (o0 + (Sp.trav lo hi (b0, b1, b2, b3) ((cs.getD y2.toNat CoR.dflt).fst, (cs.getD y2.toNat CoR.dflt).snd.fst, (cs.getD y2.toNat CoR.dflt).snd.snd.fst, (cs.getD y2.toNat CoR.dflt).snd.snd.snd.fst)).fst), w64 (o1 + (Sp.trav lo hi (b0, b1, b2, b3) ((cs.getD y2.toNat CoR.dflt).fst, (cs.getD y2.toNat CoR.dflt).snd.fst, (cs.getD y2.toNat CoR.dflt).snd.snd.fst, (cs.getD y2.toNat CoR.dflt).snd.snd.snd.fst)).snd), 1)]) (w64 (y2 + 1)) st lo hi b0 b1 b2 b3 o0 o1 ((l1 ++ [(w64 (o0 + (Sp.trav lo hi (b0, b1, b2, b3) ((cs.getD y2.toNat CoR.dflt).fst, (cs.getD y2.toNat CoR.dflt).snd.fst, (cs.getD y2.toNat CoR.dflt).snd.snd.fst, (cs.getD y2.toNat CoR.dflt).snd.snd.snd.fst)).fst), w64 (o1 + (Sp.trav lo hi (b0, b1, b2, b3) ((cs.getD y2.toNat CoR.dflt).fst, (cs.getD y2.toNat CoR.dflt).snd.fst, (cs.getD y2.toNat CoR.dflt).snd.snd.fst, (cs.getD y2.toNat CoR.dflt).snd.snd.snd.fst)).snd), 1)]).length)
        else
         none
     else
      none
    else
     none
   else
    none
  else
   some ((D.tup [D.sl WaR l1 .no, D.int .i64 0], [])) := by kernel_rfl
theorem warnR_e (fu : Nat) (st : List (Int × Int × Int × Int)) (lo : Int) (hi : Int) (b0 : Int) (b1 : Int) (b2 : Int) (b3 : Int) (o0 : Int) (o1 : Int) (at_ : Int) (cs : List (Int × Int × Int × Int × Int)) : (cf11 fu).call 61 0 39 [ntD st lo hi, bxD b0 b1 b2 b3, spD o0 o1, D.int .i64 at_, D.sl CoR cs .no] [] (fun d σ => some (d, σ)) =
  bif decide (gf fu = true ∧ st.length < fu) then
   bif Sp.net st lo hi != 0 then
    bif decide (gf fu = true ∧ st.length < fu) then
     some ((D.tup [D.sl WaR [] .fresh, D.int .i64 (Sp.net st lo hi)], []))
    else
     none
   else
    bif !Sp.vb (b0, b1, b2, b3) then
     some ((D.tup [D.sl WaR [] .fresh, D.int .i64 2], []))
    else
     bif decide (o0 ≤ o1) then
      bif decide (o0 ≥ -1125899906842624) then
       bif !decide (o1 ≤ 1125899906842624) then
        some ((D.tup [D.sl WaR [] .fresh, D.int .i64 2], []))
       else
        bif decide (at_ < -1125899906842624) then
         some ((D.tup [D.sl WaR [] .fresh, D.int .i64 3], []))
        else
         bif decide (at_ > 1125899906842624) then
          some ((D.tup [D.sl WaR [] .fresh, D.int .i64 3], []))
         else
          bif decide ((↑cs.length : Int) > 16) then
           some ((D.tup [D.sl WaR [] .fresh, D.int .i64 6], []))
          else
           warnR_0 fu fu at_ cs 0 st lo hi b0 b1 b2 b3 o0 o1
      else
       some ((D.tup [D.sl WaR [] .fresh, D.int .i64 2], []))
     else
      some ((D.tup [D.sl WaR [] .fresh, D.int .i64 2], []))
  else
   none := by kernel_rfl
end Go.Proofs.Ytaheamdoldiojaa.P
namespace Go.Proofs.Ytaheamdoldiojaa.P
open Go Go.RowKit Go.Am
theorem ruleTreeP (h r g : Int) : (bif decide (h ≥ 1) then (bif !decide (h ≤ 1073741824) then some (D.int .i64 2, ([] : List Ent)) else bif decide (r < 1) then some (D.int .i64 2, []) else bif decide (r > 256) then some (D.int .i64 2, []) else bif decide (g < 1) then some (D.int .i64 2, []) else bif decide (g > 16) then some (D.int .i64 2, []) else some (D.int .i64 0, [])) else some (D.int .i64 2, [])) = some (D.int .i64 (Ms.rule h r g), []) := by
  rw [← ruleTree]
  by_cases h1 : h ≥ 1
  · rw [cp h1, cn (show ¬ h < 1 by omega)]
    by_cases h2 : h ≤ 1073741824
    · rw [decide_eq_true h2, cn (show ¬ h > 1073741824 by omega)]
      rfl
    · rw [decide_eq_false h2, cp (show h > 1073741824 by omega)]
      rfl
  · rw [cn h1, cp (show h < 1 by omega)]
theorem gaugesP_i {fu : Nat} (hf : gh fu = true) (l : Gs) (h r g : Int) : (cf10 fu).call 61 0 61 [.sl GaR l .no, rlD h r g] [] (fun d σ => some (d, σ)) = some (.int .i64 (Ms.gau l h r g), []) := by
  rw [gaugesP_e]
  unfold Ms.gau
  by_cases h1 : (l.length : Int) < 1
  · rw [cp h1, if_pos (.inl h1)]
  rw [cn h1]
  by_cases h2 : (l.length : Int) > 16
  · rw [cp h2, if_pos (.inr h2)]
  rw [cn h2, if_neg (by omega), cp ⟨hf, by omega⟩, Ms.idx_ge _ _ _ (by omega)]
  by_cases h3 : l.any p6 = true
  · rw [h3]
    rfl
  rw [Bool.eq_false_iff.2 h3, cond_false, cond_false, cp ⟨hf, by omega, by omega⟩, Ms.idx_ge _ _ _ (by omega)]
  by_cases h4 : l.any (p17 (Ms.N l)) = true
  · rw [h4]
    rfl
  rw [Bool.eq_false_iff.2 h4, cond_false, cond_false, cp ⟨hf, by omega⟩, Ms.idx_ge _ _ _ (by omega)]
  by_cases h5 : l.any p2 = true
  · rw [h5]
    rfl
  rw [Bool.eq_false_iff.2 h5, cond_false, cond_false]
  exact ruleTreeP h r g
theorem gauPS_ok (fu : Nat) : SpecOk Try.prog 61 (gauS fu) := tab_ok ⟨Try.f61, Try.func61, rfl⟩ fun args d h => by
  split at h
  · obtain ⟨l, hx, h'⟩ := map_some' h
    cases lst_eq hx
    obtain ⟨h1, rfl⟩ := bool_pair h'
    exact says_of (cf10_ok fu) (gaugesP_i h1 l _ _ _)
  · cases h
def sp12 : Nat → FuncId → Option (List D → (D → Option Res) → Option Res) := also 61 gauS sp11
theorem sp12_ok (fu : Nat) : ∀ f s, sp12 fu f = some s → SpecOk Try.prog f s := also_ok (gauPS_ok fu) (sp11_ok fu)
noncomputable def cf12 (fu : Nat) : Cfg := cfgS sp12 fu
theorem cf12_ok (fu : Nat) : CfgOk (cf12 fu) := cfgS_ok (sp12_ok fu)
end Go.Proofs.Ytaheamdoldiojaa.P
namespace Go.Proofs.Ytaheamdoldiojaa.P
open Go Go.RowKit Go.Am
set_option maxRecDepth 100000
theorem first_e (fu : Nat) (l : List (List (Int × Int))) (h : Int) (r : Int) (g : Int) : (cf12 fu).call 61 0 23 [D.sl GaR l .no, rlD h r g] [] (fun d σ => some (d, σ)) =
  bif gh fu then
   bif Ms.gau l h r g != 0 then
    some ((D.tup [D.int .i64 0, D.int .i64 0, D.int .i64 (Ms.gau l h r g)], []))
   else
    bif decide (gh fu = true ∧ alOk l ∧ rlOk h r) then
     bif decide (gh fu = true ∧ (Ms.alarm h r g l (Ms.N l)).length ≤ 1000) then
      bif decide (Ms.idx (fun x => 2 == x) (Ms.alarm h r g l (Ms.N l)) 0 < 0) then
       some ((D.tup [D.int .i64 0, D.int .i64 0, D.int .i64 5], []))
      else
       bif decide (gh fu = true ∧ (Ms.alarm h r g l (Ms.N l)).length ≤ 1000) then
        some ((D.tup [D.int .i64 (Ms.idx (fun x => 2 == x) (Ms.alarm h r g l (Ms.N l)) 0), D.int .i64 (Ms.idx (fun x => x != 0) (Ms.alarm h r g l (Ms.N l)) 0), D.int .i64 0], []))
       else
        none
     else
      none
    else
     none
  else
   none := by kernel_rfl
theorem raised_e (fu : Nat) (l : List (List (Int × Int))) (h : Int) (r : Int) (g : Int) (k : Int) : (cf12 fu).call 61 0 21 [D.sl GaR l .no, rlD h r g, D.int .i64 k] [] (fun d σ => some (d, σ)) =
  bif gh fu then
   bif Ms.gau l h r g != 0 then
    some ((D.tup [D.int .i64 0, D.int .i64 (Ms.gau l h r g)], []))
   else
    bif decide (k < 0) then
     some ((D.tup [D.int .i64 0, D.int .i64 3], []))
    else
     bif decide (0 ≤ 0) && decide (0 < (↑l.length : Int)) then
      bif decide (k ≥ ((List.length (l.getD (Int.toNat 0) GaR.dflt) : Nat) : Int)) then
       some ((D.tup [D.int .i64 0, D.int .i64 3], []))
      else
       bif decide (gh fu = true ∧ alOk l ∧ rlOk h r) then
        bif decide (0 ≤ k) && decide (k < (((Ms.alarm h r g l (Ms.N l)).length : Nat) : Int)) then
         some ((D.tup [D.int .i64 ((Ms.alarm h r g l (Ms.N l)).getD k.toNat AnR.dflt), D.int .i64 0], []))
        else
         none
       else
        none
     else
      none
  else
   none := by kernel_rfl
end Go.Proofs.Ytaheamdoldiojaa.P
namespace Go.Proofs.Ytaheamdoldiojaa.P
open Go Go.RowKit Go.Am
/-! ### Raised, First -/
theorem gau_0 {l : Gs} {h r g : Int} (e : Ms.gau l h r g = 0) : alOk l ∧ rlOk h r := by
  unfold Ms.gau at e
  by_cases h1 : (l.length : Int) < 1 ∨ (l.length : Int) > 16
  · rw [if_pos h1] at e
    exact absurd e (by decide)
  rw [if_neg h1] at e
  cases h3 : l.any p6
  case true => rw [h3, cond_true] at e; exact absurd e (by decide)
  rw [h3, cond_false] at e
  cases h4 : l.any (p17 (Ms.N l))
  case true => rw [h4, cond_true] at e; exact absurd e (by decide)
  rw [h4, cond_false] at e
  cases h5 : l.any p2
  case true => rw [h5, cond_true] at e; exact absurd e (by decide)
  rw [h5, cond_false] at e
  unfold Ms.rule at e
  have hr : rlOk h r ∧ 1 ≤ g ∧ g ≤ 16 := Decidable.byContradiction fun q => by
    rw [if_neg q] at e
    exact absurd e (by decide)
  have h0 : 0 < l.length := by omega
  have n6 := List.any_eq_false.1 h3 (l[0]) (List.getElem_mem h0)
  have hN : (l[0]).length ≤ 256 := by
    unfold p6 at n6
    have := of_decide_eq_false (Bool.eq_false_iff.2 n6)
    omega
  refine ⟨⟨by omega, h0, ?_, ?_⟩, hr.1⟩
  · unfold Ms.N
    rw [show l.getD 0 ([] : List (Int × Int)) = l[0] by simp [List.getD, h0]]
    exact hN
  · rw [List.all_eq_true]
    intro x hx
    have := List.any_eq_false.1 h4 x hx
    unfold p17 at this
    have q : ((x.length : Int) != (Ms.N l : Int)) = false := Bool.eq_false_iff.2 this
    exact decide_eq_true (by have := bne_eq_false_iff_eq.1 q; omega)
def Ms.rsd (l : Gs) (h r g k : Int) : Int × Int := if Ms.gau l h r g ≠ 0 then (0, Ms.gau l h r g) else if k < 0 ∨ k ≥ (Ms.N l : Int) then (0, 3) else (Sp.enough g (Ms.col (Ms.rows h r l) k.toNat), 0)
theorem alarm_len (h r g : Int) (l : Gs) (N : Nat) : (Ms.alarm h r g l N).length = N := by unfold Ms.alarm; simp
theorem alarm_get (h r g : Int) (l : Gs) (N k : Nat) (hk : k < N) : (Ms.alarm h r g l N).getD k 0 = Sp.enough g (Ms.col (Ms.rows h r l) k) := by
  unfold Ms.alarm
  simp [List.getD, hk]
theorem N_at {l : Gs} (a : alOk l) : List.length (l.getD (Int.toNat 0) GaR.dflt) = Ms.N l := rfl
theorem raised_i {fu : Nat} (hf : gh fu = true) (l : Gs) (h r g k : Int) : (cf12 fu).call 61 0 21 [.sl GaR l .no, rlD h r g, .int .i64 k] [] (fun d σ => some (d, σ)) = some (.tup [.int .i64 (Ms.rsd l h r g k).1, .int .i64 (Ms.rsd l h r g k).2], []) := by
  rw [raised_e, ct' hf]
  unfold Ms.rsd
  by_cases e : Ms.gau l h r g = 0
  · obtain ⟨a, b⟩ := gau_0 e
    rw [cf' (by simp [e]), if_neg (fun q => q e)]
    by_cases k0 : k < 0
    · rw [cp k0, if_pos (.inl k0)]
    rw [cn k0, ca ⟨by omega, by have := a.2.1; omega⟩, N_at a]
    by_cases k1 : k ≥ (Ms.N l : Int)
    · rw [cp k1, if_pos (.inr k1)]
    rw [cn k1, cp ⟨hf, a, b⟩, ca ⟨by omega, by rw [alarm_len]; omega⟩, if_neg (by omega), show AnR.dflt = (0 : Int) from rfl, alarm_get h r g l _ _ (by omega)]
  · rw [ct' (by simpa using e), if_pos e]
theorem raisedRA_i {fu : Nat} (hf : gh fu = true) (l : Gs) (h r g k : Int) : (cf10 fu).call 61 0 36 [.sl GaR l .no, rlD h r g, .int .i64 k] [] (fun d σ => some (d, σ)) = some (.tup [.int .i64 (Ms.rsd l h r g k).1, .int .i64 (Ms.rsd l h r g k).2], []) := by
  rw [raisedRA_e, ct' hf]
  unfold Ms.rsd
  by_cases e : Ms.gau l h r g = 0
  · obtain ⟨a, b⟩ := gau_0 e
    rw [cf' (by simp [e]), if_neg (fun q => q e)]
    by_cases k0 : k < 0
    · rw [cp k0, if_pos (.inl k0)]
    rw [cn k0, ca ⟨by omega, by have := a.2.1; omega⟩, N_at a]
    by_cases k1 : k ≥ (Ms.N l : Int)
    · rw [cp k1, if_pos (.inr k1)]
    rw [cn k1, cp ⟨hf, a, b, by omega, by omega⟩, if_neg (by omega)]
  · rw [ct' (by simpa using e), ct' hf, if_pos e]
def Ms.fst (l : Gs) (h r g : Int) : Int × Int × Int := if Ms.gau l h r g ≠ 0 then (0, 0, Ms.gau l h r g) else if Ms.idx (fun x => 2 == x) (Ms.alarm h r g l (Ms.N l)) 0 < 0 then (0, 0, 5) else (Ms.idx (fun x => 2 == x) (Ms.alarm h r g l (Ms.N l)) 0, Ms.idx (fun x => x != 0) (Ms.alarm h r g l (Ms.N l)) 0, 0)
theorem first_i {fu : Nat} (hf : gh fu = true) (l : Gs) (h r g : Int) : (cf12 fu).call 61 0 23 [.sl GaR l .no, rlD h r g] [] (fun d σ => some (d, σ)) = some (.tup [.int .i64 (Ms.fst l h r g).1, .int .i64 (Ms.fst l h r g).2.1, .int .i64 (Ms.fst l h r g).2.2], []) := by
  rw [first_e, ct' hf]
  unfold Ms.fst
  by_cases e : Ms.gau l h r g = 0
  · obtain ⟨a, b⟩ := gau_0 e
    rw [cf' (by simp [e]), if_neg (fun q => q e), cp ⟨hf, a, b⟩, cp ⟨hf, by rw [alarm_len]; have := a.2.2.1; omega⟩]
    by_cases q : Ms.idx (fun x => 2 == x) (Ms.alarm h r g l (Ms.N l)) 0 < 0
    · rw [cp q, if_pos q]
    · rw [cn q, if_neg q, cp ⟨hf, by rw [alarm_len]; have := a.2.2.1; omega⟩]
  · rw [ct' (by simpa using e), if_pos e]
/-- The first sample by which it is for certain, and the first by which it may be. -/
def Ms.fs (a : Int) : List Int → Int → Int × Int × Int
  | [], _ => (0, 0, 5)
  | v :: vs, i => if v = 2 then (i, if a < 0 then i else a, 0) else Ms.fs (if v ≠ 0 ∧ a < 0 then i else a) vs (i + 1)
theorem Ms.fs_idx : ∀ (xs : List Int) (a i : Int), 0 ≤ i → Ms.fs a xs i = if Ms.idx (fun x => 2 == x) xs i < 0 then (0, 0, 5) else (Ms.idx (fun x => 2 == x) xs i, if a < 0 then Ms.idx (fun x => x != 0) xs i else a, 0)
  | [], a, i, hi => rfl
  | v :: vs, a, i, hi => by
    rw [Ms.fs, Ms.idx, Ms.idx]
    by_cases c : v = 2
    · rw [if_pos c, if_pos (show (2 == v) = true by simp [c]), if_neg (show ¬ i < 0 by omega), if_pos (show (v != 0) = true by simp [c])]
    · rw [if_neg c, if_neg (show ¬ (2 == v) = true by simpa using fun q => c q.symm), Ms.fs_idx vs _ (i + 1) (by omega)]
      by_cases z : v = 0
      · rw [if_neg (show ¬ (v ≠ 0 ∧ a < 0) from fun q => q.1 z), if_neg (show ¬ (v != 0) = true by simp [z])]
      · by_cases ha : a < 0
        · rw [if_pos (show v ≠ 0 ∧ a < 0 from ⟨z, ha⟩), if_pos (show (v != 0) = true by simpa using z), if_neg (show ¬ i < 0 by omega), if_pos ha]
        · rw [if_neg (show ¬ (v ≠ 0 ∧ a < 0) from fun q => ha q.2), if_neg ha, if_neg ha]
theorem firstR_l {fu : Nat} (hf : gh fu = true) (l : Gs) (h r g : Int) (a : alOk l) (b : rlOk h r) : ∀ (n m i : Nat) (y : Int), i + n = Ms.N l → n < m → y < i → firstR_0 fu m l y (i : Int) h r g = some (.tup [.int .i64 (Ms.fs y ((Ms.alarm h r g l (Ms.N l)).drop i) i).1, .int .i64 (Ms.fs y ((Ms.alarm h r g l (Ms.N l)).drop i) i).2.1, .int .i64 (Ms.fs y ((Ms.alarm h r g l (Ms.N l)).drop i) i).2.2], [])
  | 0, m, i, y, hi, hm, hy => by
    obtain ⟨m, rfl⟩ : ∃ j, m = j + 1 := ⟨m - 1, by omega⟩
    rw [firstR_0s, ca ⟨by omega, by have := a.2.1; omega⟩, N_at a, cn (by omega), List.drop_eq_nil_of_le (by rw [alarm_len]; omega), Ms.fs]
  | n + 1, m, i, y, hi, hm, hy => by
    obtain ⟨m, rfl⟩ : ∃ j, m = j + 1 := ⟨m - 1, by omega⟩
    have hlt : i < Ms.N l := by omega
    have hla : i < (Ms.alarm h r g l (Ms.N l)).length := by rw [alarm_len]; exact hlt
    have hN := a.2.2.1
    have ih := fun y' (hy' : y' < ((i + 1 : Nat) : Int)) => firstR_l hf l h r g a b n m (i + 1) y' (by omega) (by omega) hy'
    have ev : (Ms.alarm h r g l (Ms.N l))[i] = Sp.enough g (Ms.col (Ms.rows h r l) i) := by
      rw [← alarm_get h r g l _ _ hlt]
      simp [List.getD, hla]
    rw [firstR_0s, ca ⟨by omega, by have := a.2.1; omega⟩, N_at a, cp (by omega), cp ⟨hf, a, b, by omega, by omega⟩, Int.toNat_natCast, w_succ hlt (by omega), drop_cons hla, Ms.fs, ev, ih i (by omega), ih y (by omega), show ((i : Int) + 1) = ((i + 1 : Nat) : Int) by omega]
    generalize Sp.enough g (Ms.col (Ms.rows h r l) i) = v
    by_cases c : v = 2
    · rw [show (v == 2) = true by simp [c], show (v != 0) = true by simp [c], if_pos c]
      simp only [cond_true]
      by_cases q : y < 0
      · rw [cp q, if_pos q]
      · rw [cn q, if_neg q]
    · rw [if_neg c, show (v == 2) = false by simpa using c]
      simp only [cond_false]
      by_cases z : v = 0
      · rw [cf' (show (v != 0) = false by simp [z]), if_neg (fun q => q.1 z)]
      · rw [ct' (show (v != 0) = true by simpa using z)]
        by_cases q : y < 0
        · rw [cp q, if_pos ⟨z, q⟩]
        · rw [cn q, if_neg (fun p => q p.2)]
theorem firstR_i {fu : Nat} (hf : gh fu = true) (l : Gs) (h r g : Int) : (cf10 fu).call 61 0 37 [.sl GaR l .no, rlD h r g] [] (fun d σ => some (d, σ)) = some (.tup [.int .i64 (Ms.fst l h r g).1, .int .i64 (Ms.fst l h r g).2.1, .int .i64 (Ms.fst l h r g).2.2], []) := by
  have g2 := gh_2 hf
  rw [firstR_e, ct' hf]
  unfold Ms.fst
  by_cases e : Ms.gau l h r g = 0
  · obtain ⟨a, b⟩ := gau_0 e
    have q := firstR_l hf l h r g a b (Ms.N l) fu 0 (-1) (by omega) (by have := a.2.2.1; omega) (by omega)
    rw [List.drop_zero, show ((0 : Nat) : Int) = 0 from rfl, Ms.fs_idx _ _ _ (by omega), if_pos (show (-1 : Int) < 0 by decide)] at q
    rw [cf' (by simp [e]), if_neg (fun q => q e)]
    exact q
  · rw [ct' (by simpa using e), ct' hf, if_pos e]
def rsdS (fu : Nat) : List D → (D → Option Res) → Option Res := tabS fun
  | [a, .agg [.int .i64 h, .int .i64 r, .int .i64 g], .int .i64 k] => (lst GaR a).map fun l => (gh fu, .tup [.int .i64 (Ms.rsd l h r g k).1, .int .i64 (Ms.rsd l h r g k).2])
  | _ => none
theorem rsdPS_ok (fu : Nat) : SpecOk Try.prog 21 (rsdS fu) := tab_ok ⟨Try.f21, Try.func21, rfl⟩ fun args d h => by
  split at h
  · obtain ⟨l, hx, h'⟩ := map_some' h
    cases lst_eq hx
    obtain ⟨h1, rfl⟩ := bool_pair h'
    exact says_of (cf12_ok fu) (raised_i h1 l _ _ _ _)
  · cases h
theorem rsdRS_ok (fu : Nat) : SpecOk Try.prog 36 (rsdS fu) := tab_ok ⟨Try.f36, Try.func36, rfl⟩ fun args d h => by
  split at h
  · obtain ⟨l, hx, h'⟩ := map_some' h
    cases lst_eq hx
    obtain ⟨h1, rfl⟩ := bool_pair h'
    exact says_of (cf10_ok fu) (raisedRA_i h1 l _ _ _ _)
  · cases h
def fstS (fu : Nat) : List D → (D → Option Res) → Option Res := tabS fun
  | [a, .agg [.int .i64 h, .int .i64 r, .int .i64 g]] => (lst GaR a).map fun l => (gh fu, .tup [.int .i64 (Ms.fst l h r g).1, .int .i64 (Ms.fst l h r g).2.1, .int .i64 (Ms.fst l h r g).2.2])
  | _ => none
theorem fstPS_ok (fu : Nat) : SpecOk Try.prog 23 (fstS fu) := tab_ok ⟨Try.f23, Try.func23, rfl⟩ fun args d h => by
  split at h
  · obtain ⟨l, hx, h'⟩ := map_some' h
    cases lst_eq hx
    obtain ⟨h1, rfl⟩ := bool_pair h'
    exact says_of (cf12_ok fu) (first_i h1 l _ _ _)
  · cases h
theorem fstRS_ok (fu : Nat) : SpecOk Try.prog 37 (fstS fu) := tab_ok ⟨Try.f37, Try.func37, rfl⟩ fun args d h => by
  split at h
  · obtain ⟨l, hx, h'⟩ := map_some' h
    cases lst_eq hx
    obtain ⟨h1, rfl⟩ := bool_pair h'
    exact says_of (cf10_ok fu) (firstR_i h1 l _ _ _)
  · cases h
theorem huge_l {fu : Nat} (l : Gs) (hl : l.length ≤ 20) : ∀ n m i : Nat, i + n = l.length → n < m → huge_0 fu m l (i : Int) = some (.bool ((l.drop i).any fun x => decide ((x.length : Int) > 20) && decide ((x.length : Int) ≤ 256) || decide ((x.length : Int) > 300)), [])
  | 0, m, i, hi, hm => by
    obtain ⟨m, rfl⟩ : ∃ j, m = j + 1 := ⟨m - 1, by omega⟩
    rw [huge_0s, cn (by omega), List.drop_eq_nil_of_le (by omega)]
    rfl
  | n + 1, m, i, hi, hm => by
    obtain ⟨m, rfl⟩ : ∃ j, m = j + 1 := ⟨m - 1, by omega⟩
    have hlt : i < l.length := by omega
    have e0 : (decide (0 ≤ (i : Int)) && decide ((i : Int) < (l.length : Int))) = true := by rw [decide_eq_true (by omega), decide_eq_true (by omega)]; rfl
    rw [huge_0s, cp (by omega)]
    simp only [e0, cond_true]
    rw [getD_nat i hlt, w_succ hlt (by omega), huge_l l hl n m (i + 1) (by omega) (by omega), drop_cons hlt, List.any_cons]
    by_cases c1 : (l[i].length : Int) > 20
    · rw [cp c1, decide_eq_true c1]
      by_cases c2 : (l[i].length : Int) ≤ 256
      · rw [cp c2, decide_eq_true c2]
        rfl
      · rw [cn c2, decide_eq_false c2]
        by_cases c3 : (l[i].length : Int) > 300
        · rw [cp c3, decide_eq_true c3]
          rfl
        · rw [cn c3, decide_eq_false c3]
          rfl
    · rw [cn c1, decide_eq_false c1, cn (show ¬ (l[i].length : Int) > 300 by omega), decide_eq_false (show ¬ (l[i].length : Int) > 300 by omega)]
      rfl
def Ms.huge (l : Gs) : Bool := decide ((l.length : Int) > 20) || l.any fun x => decide ((x.length : Int) > 20) && decide ((x.length : Int) ≤ 256) || decide ((x.length : Int) > 300)
theorem huge_i {fu : Nat} (hf : gh fu = true) (l : Gs) : (cf9 fu).call 61 0 17 [.sl GaR l .no] [] (fun d σ => some (d, σ)) = some (.bool (Ms.huge l), []) := by
  have g2 := gh_2 hf
  rw [huge_e]
  unfold Ms.huge
  by_cases c : (l.length : Int) > 20
  · rw [cp c, decide_eq_true c]
    rfl
  · have q := huge_l (fu := fu) l (by omega) l.length fu 0 (by omega) (by omega)
    rw [List.drop_zero] at q
    rw [cn c, decide_eq_false c, Bool.false_or]
    exact q
def hugeS (fu : Nat) : List D → (D → Option Res) → Option Res := tabS fun
  | [a] => (lst GaR a).map fun l => (gh fu, .bool (Ms.huge l))
  | _ => none
theorem hugeS_ok (fu : Nat) : SpecOk Try.prog 17 (hugeS fu) := tab_ok ⟨Try.f17, Try.func17, rfl⟩ fun args d h => by
  split at h
  · obtain ⟨l, hx, h'⟩ := map_some' h
    cases lst_eq hx
    obtain ⟨h1, rfl⟩ := bool_pair h'
    exact says_of (cf9_ok fu) (huge_i h1 l)
  · cases h
end Go.Proofs.Ytaheamdoldiojaa.P
namespace Go.Proofs.Ytaheamdoldiojaa.P
open Go Go.RowKit Go.Am
/-! ### Warn -/
abbrev cbx (c : Co) : Int × Int × Int × Int := (c.1, c.2.1, c.2.2.1, c.2.2.2.1)
def Ms.w1 (lo hi : Int) (b : Int × Int × Int × Int) (o0 o1 at_ : Int) (c : Co) : Int × Int × Int :=
  (w64 (o0 + (Sp.trav lo hi b (cbx c)).1), w64 (o1 + (Sp.trav lo hi b (cbx c)).2), if w64 (at_ + w64 (1000 * c.2.2.2.2)) ≤ w64 (o0 + (Sp.trav lo hi b (cbx c)).1) then 2 else if w64 (at_ + w64 (1000 * c.2.2.2.2)) > w64 (o1 + (Sp.trav lo hi b (cbx c)).2) then 0 else 1)
theorem w1_eq (lo hi : Int) (b : Int × Int × Int × Int) (o0 o1 at_ : Int) (c : Co) : Ms.w1 lo hi b o0 o1 at_ c = (w64 (o0 + (Sp.trav lo hi b (cbx c)).1), w64 (o1 + (Sp.trav lo hi b (cbx c)).2), if w64 (at_ + w64 (1000 * c.2.2.2.2)) ≤ w64 (o0 + (Sp.trav lo hi b (cbx c)).1) then 2 else if w64 (at_ + w64 (1000 * c.2.2.2.2)) > w64 (o1 + (Sp.trav lo hi b (cbx c)).2) then 0 else 1) := rfl
theorem okC_vb {c : Co} (h : okC c = true) : Sp.vb (cbx c) = true := (Bool.and_eq_true_iff.1 h).1
def Ms.wrn (st : List (Int × Int × Int × Int)) (lo hi : Int) (b : Int × Int × Int × Int) (o0 o1 at_ : Int) (cs : List Co) : List (Int × Int × Int) × Int :=
  if Sp.net st lo hi ≠ 0 then ([], Sp.net st lo hi) else if Sp.vb b = true ∧ o0 ≤ o1 ∧ o0 ≥ -1125899906842624 ∧ o1 ≤ 1125899906842624 then (if at_ ≥ -1125899906842624 ∧ at_ ≤ 1125899906842624 then (if (cs.length : Int) > 16 then ([], 6) else if cs.all okC = true then (cs.map (Ms.w1 lo hi b o0 o1 at_), 0) else ([], 2)) else ([], 3)) else ([], 2)
theorem says_strip' {P : Program} {f : FuncId} {args : List D} {d : D} (h : Says P f args d) : Says P f args d.strip := fun Y w vs hY hv => (h Y w vs hY hv).mono fun e w' ⟨v, he, hR, hb⟩ => ⟨v, he, R.strip d v hR, hb⟩
theorem net_0 {st : List (Int × Int × Int × Int)} {lo hi : Int} (h : Sp.net st lo hi = 0) : 1 ≤ lo ∧ lo ≤ hi ∧ hi ≤ 20000 := by
  unfold Sp.net at h
  have n : Sp.nok st lo hi := Decidable.byContradiction fun q => by
    rw [if_neg q] at h
    exact absurd h (by decide)
  unfold Sp.nok Bo.v at n
  omega
abbrev waD (t : List (Int × Int × Int) × Int) : D := .tup [.sl WaR t.1 .no, .int .i64 t.2]
theorem warnP_1l {fu : Nat} (hf : gh fu = true) (st : List (Int × Int × Int × Int)) (lo hi b0 b1 b2 b3 o0 o1 at_ : Int) (hn : 1 ≤ lo ∧ lo ≤ hi ∧ hi ≤ 20000) (hb : Sp.vb (b0, b1, b2, b3) = true) (cs : List Co) (hc : cs.length ≤ 16) (ha : cs.all okC = true) : ∀ n m i : Nat, i + n = cs.length → n < m → warnP_1 fu m at_ ((cs.map (Ms.w1 lo hi (b0, b1, b2, b3) o0 o1 at_)).take i) cs (cs.length : Int) (i : Int) st lo hi b0 b1 b2 b3 o0 o1 ((cs.map (Ms.w1 lo hi (b0, b1, b2, b3) o0 o1 at_)).take i).length = some (waD (cs.map (Ms.w1 lo hi (b0, b1, b2, b3) o0 o1 at_), 0), [])
  | 0, m, i, hi', hm => by
    obtain ⟨m, rfl⟩ : ∃ j, m = j + 1 := ⟨m - 1, by omega⟩
    rw [warnP_1s, cn (by omega), List.take_of_length_le (by rw [List.length_map]; omega)]
  | n + 1, m, i, hi', hm => by
    obtain ⟨m, rfl⟩ : ∃ j, m = j + 1 := ⟨m - 1, by omega⟩
    have hlt : i < cs.length := by omega
    have hlm : i < (cs.map (Ms.w1 lo hi (b0, b1, b2, b3) o0 o1 at_)).length := by rw [List.length_map]; exact hlt
    have ok := okC_vb (List.all_eq_true.1 ha _ (List.getElem_mem hlt))
    have ih := warnP_1l hf st lo hi b0 b1 b2 b3 o0 o1 at_ hn hb cs hc ha n m (i + 1) (by omega) (by omega)
    rw [take_snoc hlm, List.getElem_map] at ih
    have hlen : ((cs.map (Ms.w1 lo hi (b0, b1, b2, b3) o0 o1 at_)).take i).length ≤ 16 := by rw [List.length_take, List.length_map]; omega
    rw [warnP_1s, cp (by omega), ca ⟨by omega, by omega⟩, getD_nat i hlt, cp ⟨gh_gf hf, hb, ok, hn⟩, w_succ hlt (by omega)]
    have e := w1_eq lo hi (b0, b1, b2, b3) o0 o1 at_ cs[i]
    generalize (cs.map (Ms.w1 lo hi (b0, b1, b2, b3) o0 o1 at_)).take i = acc at *
    have room : ∀ v, (lenOk acc.length acc.length && room (acc ++ [v]).length 24) = true := fun v => by
      rw [show lenOk acc.length acc.length = true from decide_eq_true rfl, show room (acc ++ [v]).length 24 = true from decide_eq_true (by rw [List.length_append]; show (acc.length + 1) * _ ≤ _; omega)]
      rfl
    by_cases c1 : w64 (at_ + w64 (1000 * cs[i].2.2.2.2)) ≤ w64 (o0 + (Sp.trav lo hi (b0, b1, b2, b3) (cbx cs[i])).1)
    · rw [if_pos c1] at e
      rw [e] at ih
      rw [cp c1, room, cond_true]
      exact ih
    rw [if_neg c1] at e
    rw [cn c1]
    by_cases c2 : w64 (at_ + w64 (1000 * cs[i].2.2.2.2)) > w64 (o1 + (Sp.trav lo hi (b0, b1, b2, b3) (cbx cs[i])).2)
    · rw [if_pos c2] at e
      rw [e] at ih
      rw [cp c2, room, cond_true]
      exact ih
    · rw [if_neg c2] at e
      rw [e] at ih
      rw [cn c2, room, cond_true]
      exact ih
theorem warnR_2l {fu : Nat} (hf : gh fu = true) (st : List (Int × Int × Int × Int)) (lo hi b0 b1 b2 b3 o0 o1 at_ : Int) (hn : 1 ≤ lo ∧ lo ≤ hi ∧ hi ≤ 20000) (hb : Sp.vb (b0, b1, b2, b3) = true) (cs : List Co) (hc : cs.length ≤ 16) (ha : cs.all okC = true) : ∀ n m i : Nat, i + n = cs.length → n < m → warnR_2 fu m at_ cs ((cs.map (Ms.w1 lo hi (b0, b1, b2, b3) o0 o1 at_)).take i) (i : Int) st lo hi b0 b1 b2 b3 o0 o1 ((cs.map (Ms.w1 lo hi (b0, b1, b2, b3) o0 o1 at_)).take i).length = some (waD (cs.map (Ms.w1 lo hi (b0, b1, b2, b3) o0 o1 at_), 0), [])
  | 0, m, i, hi', hm => by
    obtain ⟨m, rfl⟩ : ∃ j, m = j + 1 := ⟨m - 1, by omega⟩
    rw [warnR_2s, cn (by omega), List.take_of_length_le (by rw [List.length_map]; omega)]
  | n + 1, m, i, hi', hm => by
    obtain ⟨m, rfl⟩ : ∃ j, m = j + 1 := ⟨m - 1, by omega⟩
    have hlt : i < cs.length := by omega
    have hlm : i < (cs.map (Ms.w1 lo hi (b0, b1, b2, b3) o0 o1 at_)).length := by rw [List.length_map]; exact hlt
    have ok := okC_vb (List.all_eq_true.1 ha _ (List.getElem_mem hlt))
    have ih := warnR_2l hf st lo hi b0 b1 b2 b3 o0 o1 at_ hn hb cs hc ha n m (i + 1) (by omega) (by omega)
    rw [take_snoc hlm, List.getElem_map] at ih
    have hlen : ((cs.map (Ms.w1 lo hi (b0, b1, b2, b3) o0 o1 at_)).take i).length ≤ 16 := by rw [List.length_take, List.length_map]; omega
    rw [warnR_2s, cp (by omega), ca ⟨by omega, by omega⟩, getD_nat i hlt, cp ⟨gh_gf hf, hb, ok, hn⟩, w_succ hlt (by omega)]
    have e0 : (decide (0 ≤ (i : Int)) && decide ((i : Int) < (cs.length : Int))) = true := by rw [decide_eq_true (by omega), decide_eq_true (by omega)]; rfl
    simp only [e0, cond_true]
    have e := w1_eq lo hi (b0, b1, b2, b3) o0 o1 at_ cs[i]
    generalize (cs.map (Ms.w1 lo hi (b0, b1, b2, b3) o0 o1 at_)).take i = acc at *
    have room : ∀ v, (lenOk acc.length acc.length && room (acc ++ [v]).length 24) = true := fun v => by
      rw [show lenOk acc.length acc.length = true from decide_eq_true rfl, show room (acc ++ [v]).length 24 = true from decide_eq_true (by rw [List.length_append]; show (acc.length + 1) * _ ≤ _; omega)]
      rfl
    by_cases c1 : w64 (at_ + w64 (1000 * cs[i].2.2.2.2)) ≤ w64 (o0 + (Sp.trav lo hi (b0, b1, b2, b3) (cbx cs[i])).1)
    · rw [if_pos c1] at e
      rw [e] at ih
      rw [cp c1, room, cond_true]
      exact ih
    rw [if_neg c1] at e
    rw [cn c1]
    by_cases c2 : w64 (at_ + w64 (1000 * cs[i].2.2.2.2)) > w64 (o1 + (Sp.trav lo hi (b0, b1, b2, b3) (cbx cs[i])).2)
    · rw [if_pos c2] at e
      rw [e] at ih
      rw [cp c2, room, cond_true]
      exact ih
    · rw [if_neg c2] at e
      rw [e] at ih
      rw [cn c2, room, cond_true]
      exact ih
theorem warnR_0l {fu : Nat} (hf : gh fu = true) (st : List (Int × Int × Int × Int)) (lo hi b0 b1 b2 b3 o0 o1 at_ : Int) (hn : 1 ≤ lo ∧ lo ≤ hi ∧ hi ≤ 20000) (hb : Sp.vb (b0, b1, b2, b3) = true) (cs : List Co) (hc : cs.length ≤ 16) : ∀ n m i : Nat, i + n = cs.length → n < m → (cs.take i).all okC = true → ∃ x, warnR_0 fu m at_ cs (i : Int) st lo hi b0 b1 b2 b3 o0 o1 = some (x, []) ∧ x.strip = waD (if cs.all okC = true then (cs.map (Ms.w1 lo hi (b0, b1, b2, b3) o0 o1 at_), 0) else ([], 2))
  | 0, m, i, hi', hm, hp => by
    obtain ⟨m, rfl⟩ : ∃ j, m = j + 1 := ⟨m - 1, by omega⟩
    have g2 := gh_2 hf
    rw [List.take_of_length_le (by omega)] at hp
    have q := warnR_2l hf st lo hi b0 b1 b2 b3 o0 o1 at_ hn hb cs hc hp cs.length fu 0 (by omega) (by omega)
    rw [warnR_0s, cn (by omega), if_pos hp]
    exact ⟨_, q, rfl⟩
  | n + 1, m, i, hi', hm, hp => by
    obtain ⟨m, rfl⟩ : ∃ j, m = j + 1 := ⟨m - 1, by omega⟩
    have hlt : i < cs.length := by omega
    have e0 : (decide (0 ≤ (i : Int)) && decide ((i : Int) < (cs.length : Int))) = true := by rw [decide_eq_true (by omega), decide_eq_true (by omega)]; rfl
    have bad : okC cs[i] = false → (if cs.all okC = true then (cs.map (Ms.w1 lo hi (b0, b1, b2, b3) o0 o1 at_), 0) else ([], 2)) = (([], 2) : List (Int × Int × Int) × Int) := fun q => if_neg (fun p => by
      rw [List.all_eq_true.1 p _ (List.getElem_mem hlt)] at q
      cases q)
    rw [warnR_0s, cp (by omega)]
    simp only [e0, cond_true]
    simp only [getD_nat i hlt]
    rw [w_succ hlt (by omega)]
    cases v : Sp.vb (cbx cs[i])
    · rw [bad (by unfold okC; rw [v]; rfl)]
      exact ⟨_, rfl, rfl⟩
    by_cases c1 : cs[i].2.2.2.2 < 0
    · rw [bad (by unfold okC; rw [v, decide_eq_false (show ¬ cs[i].2.2.2.2 ≥ 0 by omega)]; rfl), cp c1]
      exact ⟨_, rfl, rfl⟩
    by_cases c2 : cs[i].2.2.2.2 > 16777216
    · rw [bad (by unfold okC; rw [v, decide_eq_false (show ¬ cs[i].2.2.2.2 ≤ 16777216 by omega), Bool.and_false]; rfl), cn c1, cp c2]
      exact ⟨_, rfl, rfl⟩
    rw [cf' (show (!true) = false from rfl), cn c1, cn c2]
    have q : okC cs[i] = true := by unfold okC; rw [v, decide_eq_true (show cs[i].2.2.2.2 ≥ 0 by omega), decide_eq_true (show cs[i].2.2.2.2 ≤ 16777216 by omega)]; rfl
    exact warnR_0l hf st lo hi b0 b1 b2 b3 o0 o1 at_ hn hb cs hc n m (i + 1) (by omega) (by omega) (by rw [take_snoc hlt, List.all_append, hp, List.all_cons, q]; rfl)
theorem warnP_i {fu : Nat} (hf : gh fu = true) (st : List (Int × Int × Int × Int)) (hs : st.length < fu) (lo hi b0 b1 b2 b3 o0 o1 at_ : Int) (cs : List Co) : ∃ x, (cf11 fu).call 61 0 38 [ntD st lo hi, bxD b0 b1 b2 b3, spD o0 o1, .int .i64 at_, .sl CoR cs .no] [] (fun d σ => some (d, σ)) = some (x, []) ∧ x.strip = waD (Ms.wrn st lo hi (b0, b1, b2, b3) o0 o1 at_ cs) := by
  have g2 := gh_2 hf
  rw [warnP_e, cp ⟨gh_gf hf, hs⟩]
  unfold Ms.wrn
  by_cases h : Sp.net st lo hi = 0
  · rw [cf' (by rw [h]; rfl), if_neg (fun q => q h), cp ⟨by omega, g2.2⟩]
    cases v : Sp.vb (b0, b1, b2, b3)
    · rw [if_neg (fun q => by cases q.1)]
      exact ⟨_, rfl, rfl⟩
    rw [cf' (by rfl)]
    by_cases c1 : o0 ≤ o1
    · rw [cp c1]
      by_cases c2 : o0 ≥ -1125899906842624
      · rw [cp c2]
        by_cases c3 : o1 ≤ 1125899906842624
        · rw [decide_eq_true c3, if_pos ⟨rfl, c1, c2, c3⟩]
          by_cases c4 : at_ ≥ -1125899906842624
          · rw [cp c4]
            by_cases c5 : at_ ≤ 1125899906842624
            · rw [decide_eq_true c5, if_pos ⟨c4, c5⟩]
              by_cases c6 : (cs.length : Int) > 16
              · rw [cp c6, if_pos c6]
                exact ⟨_, rfl, rfl⟩
              rw [cn c6, if_neg c6, cp ⟨hf, by omega⟩, Ms.idx_ge _ _ _ (by omega), any_not]
              cases a : cs.all okC
              · exact ⟨_, rfl, rfl⟩
              have q := warnP_1l hf st lo hi b0 b1 b2 b3 o0 o1 at_ (net_0 h) v cs (by omega) a cs.length fu 0 (by omega) (by omega)
              rw [if_pos rfl]
              simp only [Bool.not_true, cond_false]
              exact ⟨_, q, rfl⟩
            · rw [decide_eq_false c5, if_neg (fun q => c5 q.2)]
              exact ⟨_, rfl, rfl⟩
          · rw [cn c4, if_neg (fun q => c4 q.1)]
            exact ⟨_, rfl, rfl⟩
        · rw [decide_eq_false c3, if_neg (fun q => c3 q.2.2.2)]
          exact ⟨_, rfl, rfl⟩
      · rw [cn c2, if_neg (fun q => c2 q.2.2.1)]
        exact ⟨_, rfl, rfl⟩
    · rw [cn c1, if_neg (fun q => c1 q.2.1)]
      exact ⟨_, rfl, rfl⟩
  · rw [ct' (by simpa using h), if_pos h]
    exact ⟨_, rfl, rfl⟩
theorem warnR_i {fu : Nat} (hf : gh fu = true) (st : List (Int × Int × Int × Int)) (hs : st.length < fu) (lo hi b0 b1 b2 b3 o0 o1 at_ : Int) (cs : List Co) : ∃ x, (cf11 fu).call 61 0 39 [ntD st lo hi, bxD b0 b1 b2 b3, spD o0 o1, .int .i64 at_, .sl CoR cs .no] [] (fun d σ => some (d, σ)) = some (x, []) ∧ x.strip = waD (Ms.wrn st lo hi (b0, b1, b2, b3) o0 o1 at_ cs) := by
  have g2 := gh_2 hf
  rw [warnR_e, cp ⟨gh_gf hf, hs⟩, cp ⟨gh_gf hf, hs⟩]
  unfold Ms.wrn
  by_cases h : Sp.net st lo hi = 0
  · rw [cf' (by rw [h]; rfl), if_neg (fun q => q h)]
    cases v : Sp.vb (b0, b1, b2, b3)
    · rw [if_neg (fun q => by cases q.1)]
      exact ⟨_, rfl, rfl⟩
    rw [cf' (by rfl)]
    by_cases c1 : o0 ≤ o1
    · rw [cp c1]
      by_cases c2 : o0 ≥ -1125899906842624
      · rw [cp c2]
        by_cases c3 : o1 ≤ 1125899906842624
        · rw [decide_eq_true c3, if_pos ⟨rfl, c1, c2, c3⟩, cf' (by rfl)]
          by_cases c4 : at_ < -1125899906842624
          · rw [cp c4, if_neg (fun q => by omega)]
            exact ⟨_, rfl, rfl⟩
          rw [cn c4]
          by_cases c5 : at_ > 1125899906842624
          · rw [cp c5, if_neg (fun q => by omega)]
            exact ⟨_, rfl, rfl⟩
          rw [cn c5, if_pos ⟨by omega, by omega⟩]
          by_cases c6 : (cs.length : Int) > 16
          · rw [cp c6, if_pos c6]
            exact ⟨_, rfl, rfl⟩
          rw [cn c6, if_neg c6]
          exact warnR_0l hf st lo hi b0 b1 b2 b3 o0 o1 at_ (net_0 h) v cs (by omega) cs.length fu 0 (by omega) (by omega) rfl
        · rw [decide_eq_false c3, if_neg (fun q => c3 q.2.2.2)]
          exact ⟨_, rfl, rfl⟩
      · rw [cn c2, if_neg (fun q => c2 q.2.2.1)]
        exact ⟨_, rfl, rfl⟩
    · rw [cn c1, if_neg (fun q => c1 q.2.1)]
      exact ⟨_, rfl, rfl⟩
  · rw [ct' (by simpa using h), if_pos h]
    exact ⟨_, rfl, rfl⟩
def wrnS (fu : Nat) : List D → (D → Option Res) → Option Res := tabS fun
  | [.agg [a, .int .i64 lo, .int .i64 hi], .agg [.int .i64 b0, .int .i64 b1, .int .i64 b2, .int .i64 b3], .agg [.int .i64 o0, .int .i64 o1], .int .i64 at_, c] => match lst BxR a, lst CoR c with
    | some st, some cs => some (decide (gh fu = true ∧ st.length < fu), waD (Ms.wrn st lo hi (b0, b1, b2, b3) o0 o1 at_ cs))
    | _, _ => none
  | _ => none
theorem wrnPS_ok (fu : Nat) : SpecOk Try.prog 38 (wrnS fu) := tab_ok ⟨Try.f38, Try.func38, rfl⟩ fun args d h => by
  split at h
  · split at h
    · rename_i x _ _ st cs hx hy
      cases lst_eq hx
      cases lst_eq hy
      obtain ⟨h1, rfl⟩ := pair_true (Option.some.inj h)
      obtain ⟨d, q1, q2⟩ := warnP_i h1.1 _ h1.2 _ _ _ _ _ _ _ _ _ _
      have := says_strip' (says_of (cf11_ok fu) q1)
      rw [q2] at this
      exact this
    · cases h
  · cases h
theorem wrnRS_ok (fu : Nat) : SpecOk Try.prog 39 (wrnS fu) := tab_ok ⟨Try.f39, Try.func39, rfl⟩ fun args d h => by
  split at h
  · split at h
    · rename_i x _ _ st cs hx hy
      cases lst_eq hx
      cases lst_eq hy
      obtain ⟨h1, rfl⟩ := pair_true (Option.some.inj h)
      obtain ⟨d, q1, q2⟩ := warnR_i h1.1 _ h1.2 _ _ _ _ _ _ _ _ _ _
      have := says_strip' (says_of (cf11_ok fu) q1)
      rw [q2] at this
      exact this
    · cases h
  · cases h
end Go.Proofs.Ytaheamdoldiojaa.P
namespace Go.Proofs.Ytaheamdoldiojaa.P
open Go Go.RowKit Go.Am
def sp13 : Nat → FuncId → Option (List D → (D → Option Res) → Option Res) := also 21 rsdS (also 36 rsdS (also 23 fstS (also 37 fstS (also 38 wrnS (also 39 wrnS (also 17 hugeS sp12))))))
theorem sp13_ok (fu : Nat) : ∀ f s, sp13 fu f = some s → SpecOk Try.prog f s := also_ok (rsdPS_ok fu) (also_ok (rsdRS_ok fu) (also_ok (fstPS_ok fu) (also_ok (fstRS_ok fu) (also_ok (wrnPS_ok fu) (also_ok (wrnRS_ok fu) (also_ok (hugeS_ok fu) (sp12_ok fu)))))))
noncomputable def cf13 (fu : Nat) : Cfg := cfgS sp13 fu
theorem cf13_ok (fu : Nat) : CfgOk (cf13 fu) := cfgS_ok (sp13_ok fu)
end Go.Proofs.Ytaheamdoldiojaa.P
namespace Go.Proofs.Ytaheamdoldiojaa.P
open Go Go.RowKit Go.Am
set_option maxRecDepth 100000
noncomputable def alarms_0 (fu m : Nat) (l0 : List (Int × Int × Int)) (l1 : List (Int × Int × Int)) (y2 : Int) (h : Int) (r : Int) (g : Int) (st : List (Int × Int × Int × Int)) (lo : Int) (hi : Int) (b0 : Int) (b1 : Int) (b2 : Int) (b3 : Int) (o0 : Int) (o1 : Int) : Option Res := (cf13 fu).loop 60 8 [true, true, true, true, true, true, true, true, true, false, true] [] 4 m ⟨tmOf 141 [(16, D.bool false), (27, D.sl WaR l0 .no), (29, D.sl WaR l1 .no), (31, D.int .i64 y2)], [Ent.box [D.int .i64 h, D.int .i64 r, D.int .i64 g], Ent.box [D.sl BxR st .no, D.int .i64 lo, D.int .i64 hi], Ent.box [D.int .i64 b0, D.int .i64 b1, D.int .i64 b2, D.int .i64 b3], Ent.box [D.int .i64 o0, D.int .i64 o1]]⟩
theorem alarms_0s (fu m : Nat) (l0 : List (Int × Int × Int)) (l1 : List (Int × Int × Int)) (y2 : Int) (h : Int) (r : Int) (g : Int) (st : List (Int × Int × Int × Int)) (lo : Int) (hi : Int) (b0 : Int) (b1 : Int) (b2 : Int) (b3 : Int) (o0 : Int) (o1 : Int) : alarms_0 fu (m + 1) l0 l1 y2 h r g st lo hi b0 b1 b2 b3 o0 o1 =
  bif decide (y2 < (↑l0.length : Int)) then
   bif decide (0 ≤ y2) && decide (y2 < (↑l0.length : Int)) then
    bif decide (0 ≤ y2) && decide (y2 < (↑l1.length : Int)) then
     bif if true = true then !((l0.getD y2.toNat WaR.dflt).fst == (l1.getD y2.toNat WaR.dflt).fst && ((l0.getD y2.toNat WaR.dflt).snd.fst == (l1.getD y2.toNat WaR.dflt).snd.fst && true) && ((l0.getD y2.toNat WaR.dflt).snd.snd == (l1.getD y2.toNat WaR.dflt).snd.snd && true)) else (l0.getD y2.toNat WaR.dflt).fst == (l1.getD y2.toNat WaR.dflt).fst && ((l0.getD y2.toNat WaR.dflt).snd.fst == (l1.getD y2.toNat WaR.dflt).snd.fst && true) && ((l0.getD y2.toNat WaR.dflt).snd.snd == (l1.getD y2.toNat WaR.dflt).snd.snd && true) then
      some ((D.bool false, []))
     else
      alarms_0 fu m l0 l1 (w64 (y2 + 1)) h r g st lo hi b0 b1 b2 b3 o0 o1
    else
     none
   else
    none
  else
   some ((D.bool true, [])) := by kernel_rfl
theorem alarms_e (fu : Nat) (l : List (List (Int × Int))) (h : Int) (r : Int) (g : Int) (k : Int) (st : List (Int × Int × Int × Int)) (lo : Int) (hi : Int) (b0 : Int) (b1 : Int) (b2 : Int) (b3 : Int) (o0 : Int) (o1 : Int) (at_ : Int) (cs : List (Int × Int × Int × Int × Int)) : (cf13 fu).call 61 0 8 [D.sl GaR l .no, rlD h r g, D.int .i64 k, ntD st lo hi, bxD b0 b1 b2 b3, spD o0 o1, D.int .i64 at_, D.sl CoR cs .no] [] (fun d σ => some (d, σ)) =
  bif gh fu then
   bif Ms.huge l then
    some ((D.bool true, []))
   else
    bif decide ((↑st.length : Int) > 12) then
     some ((D.bool true, []))
    else
     bif decide ((↑cs.length : Int) > 20) then
      some ((D.bool true, []))
     else
      bif gh fu then
       bif gh fu then
        bif gh fu then
         bif gh fu then
          bif decide (gh fu = true ∧ st.length < fu) then
           bif decide (gh fu = true ∧ st.length < fu) then
            bif (Ms.rsd l h r g k).fst != (Ms.rsd l h r g k).fst then
             some ((D.bool false, []))
            else
             bif (Ms.rsd l h r g k).snd != (Ms.rsd l h r g k).snd then
              some ((D.bool false, []))
             else
              bif (Ms.fst l h r g).fst != (Ms.fst l h r g).fst then
               some ((D.bool false, []))
              else
               bif (Ms.fst l h r g).snd.fst != (Ms.fst l h r g).snd.fst then
                some ((D.bool false, []))
               else
                bif (Ms.fst l h r g).snd.snd != (Ms.fst l h r g).snd.snd then
                 some ((D.bool false, []))
                else
                 bif (Ms.wrn st lo hi (b0, b1, b2, b3) o0 o1 at_ cs).snd != (Ms.wrn st lo hi (b0, b1, b2, b3) o0 o1 at_ cs).snd then
                  some ((D.bool false, []))
                 else
                  bif (((Ms.wrn st lo hi (b0, b1, b2, b3) o0 o1 at_ cs).fst.length : Nat) : Int) != (((Ms.wrn st lo hi (b0, b1, b2, b3) o0 o1 at_ cs).fst.length : Nat) : Int) then
                   some ((D.bool false, []))
                  else
                   alarms_0 fu fu ((Ms.wrn st lo hi (b0, b1, b2, b3) o0 o1 at_ cs).fst) ((Ms.wrn st lo hi (b0, b1, b2, b3) o0 o1 at_ cs).fst) 0 h r g st lo hi b0 b1 b2 b3 o0 o1
           else
            none
          else
           none
         else
          none
        else
         none
       else
        none
      else
       none
  else
   none := by kernel_rfl
end Go.Proofs.Ytaheamdoldiojaa.P
namespace Go.Proofs.Ytaheamdoldiojaa.P
open Go.RowKit Go.Am
namespace soundAlarms
open Go.ChangeShapes Go.WideShapes Go.ChangeAt
set_option maxRecDepth 100000
theorem op24 : OpR Try.prog 24 (.cons (.int .i64) (.one (.int .i64))) := OpR.struct (fs := _) Try.underlying24 (OpF.cons (r := (.one (.int .i64))) (s := (.one (.int .i64))) rfl (by kernel_rfl) (OpR.int Try.underlying2) (OpF.last (r := (.one (.int .i64))) rfl (by kernel_rfl) (OpR.int Try.underlying2)))
theorem op45 : OpR Try.prog 45 (.one (.sl (.cons (.int .i64) (.one (.int .i64))))) := OpR.struct (fs := _) Try.underlying45 (OpF.last (r := (.one (.sl (.cons (.int .i64) (.one (.int .i64)))))) rfl (by kernel_rfl) (OpR.slice Try.underlying27 (by kernel_rfl) op24))
theorem op39 : OpR Try.prog 39 (.cons (.int .i64) (.cons (.int .i64) (.one (.int .i64)))) := OpR.struct (fs := _) Try.underlying39 (OpF.cons (r := (.one (.int .i64))) (s := (.cons (.int .i64) (.one (.int .i64)))) rfl (by kernel_rfl) (OpR.int Try.underlying2) (OpF.cons (r := (.one (.int .i64))) (s := (.one (.int .i64))) rfl (by kernel_rfl) (OpR.int Try.underlying3) (OpF.last (r := (.one (.int .i64))) rfl (by kernel_rfl) (OpR.int Try.underlying3))))
theorem op29 : OpR Try.prog 29 (.cons (.int .i64) (.cons (.int .i64) (.cons (.int .i64) (.one (.int .i64))))) := OpR.struct (fs := _) Try.underlying29 (OpF.cons (r := (.cons (.int .i64) (.one (.int .i64)))) (s := (.cons (.int .i64) (.one (.int .i64)))) rfl (by kernel_rfl) op24 (OpF.last (r := (.cons (.int .i64) (.one (.int .i64)))) rfl (by kernel_rfl) op24))
theorem op26 : OpR Try.prog 26 (.cons (.sl (.cons (.int .i64) (.cons (.int .i64) (.cons (.int .i64) (.one (.int .i64)))))) (.cons (.int .i64) (.one (.int .i64)))) := OpR.struct (fs := _) Try.underlying26 (OpF.cons (r := (.one (.sl (.cons (.int .i64) (.cons (.int .i64) (.cons (.int .i64) (.one (.int .i64)))))))) (s := (.cons (.int .i64) (.one (.int .i64)))) rfl (by kernel_rfl) (OpR.slice Try.underlying22 (by kernel_rfl) op29) (OpF.last (r := (.cons (.int .i64) (.one (.int .i64)))) rfl (by kernel_rfl) op24))
theorem op101 : OpR Try.prog 101 (.cons (.int .i64) (.cons (.int .i64) (.cons (.int .i64) (.cons (.int .i64) (.one (.int .i64)))))) := OpR.struct (fs := _) Try.underlying101 (OpF.cons (r := (.cons (.int .i64) (.cons (.int .i64) (.cons (.int .i64) (.one (.int .i64)))))) (s := (.one (.int .i64))) rfl (by kernel_rfl) op29 (OpF.last (r := (.one (.int .i64))) rfl (by kernel_rfl) (OpR.int Try.underlying2)))
def Pure : Prop := ∀ (x0 : Go.Am.Row.T (.one (.sl (.one (.sl (.cons (.int .i64) (.one (.int .i64)))))))) (x1 : Go.Am.Row.T (.cons (.int .i64) (.cons (.int .i64) (.one (.int .i64))))) (x2 : Int) (x3 : Go.Am.Row.T (.cons (.sl (.cons (.int .i64) (.cons (.int .i64) (.cons (.int .i64) (.one (.int .i64)))))) (.cons (.int .i64) (.one (.int .i64))))) (x4 : Go.Am.Row.T (.cons (.int .i64) (.cons (.int .i64) (.cons (.int .i64) (.one (.int .i64)))))) (x5 : Go.Am.Row.T (.cons (.int .i64) (.one (.int .i64)))) (x6 : Int) (x7 : Go.Am.Row.T (.one (.sl (.cons (.int .i64) (.cons (.int .i64) (.cons (.int .i64) (.cons (.int .i64) (.one (.int .i64))))))))), Go.Am.Row.ok (.one (.sl (.one (.sl (.cons (.int .i64) (.one (.int .i64))))))) x0 → Go.Am.Row.ok (.cons (.int .i64) (.cons (.int .i64) (.one (.int .i64)))) x1 → (Lit.int .i64 x2).wf = true → Go.Am.Row.ok (.cons (.sl (.cons (.int .i64) (.cons (.int .i64) (.cons (.int .i64) (.one (.int .i64)))))) (.cons (.int .i64) (.one (.int .i64)))) x3 → Go.Am.Row.ok (.cons (.int .i64) (.cons (.int .i64) (.cons (.int .i64) (.one (.int .i64))))) x4 → Go.Am.Row.ok (.cons (.int .i64) (.one (.int .i64))) x5 → (Lit.int .i64 x6).wf = true → Go.Am.Row.ok (.one (.sl (.cons (.int .i64) (.cons (.int .i64) (.cons (.int .i64) (.cons (.int .i64) (.one (.int .i64)))))))) x7 → Says Try.prog 8 [.sl (.one (.sl (.cons (.int .i64) (.one (.int .i64))))) x0 .no, .agg (Go.Am.Row.ds (.cons (.int .i64) (.cons (.int .i64) (.one (.int .i64)))) x1), .int .i64 x2, .agg (Go.Am.Row.ds (.cons (.sl (.cons (.int .i64) (.cons (.int .i64) (.cons (.int .i64) (.one (.int .i64)))))) (.cons (.int .i64) (.one (.int .i64)))) x3), .agg (Go.Am.Row.ds (.cons (.int .i64) (.cons (.int .i64) (.cons (.int .i64) (.one (.int .i64))))) x4), .agg (Go.Am.Row.ds (.cons (.int .i64) (.one (.int .i64))) x5), .int .i64 x6, .sl (.cons (.int .i64) (.cons (.int .i64) (.cons (.int .i64) (.cons (.int .i64) (.one (.int .i64)))))) x7 .no] (.bool true)
theorem own : ownKnob Try.prog.godebug = none := by kernel_rfl
theorem laidOut : laidOutB Try.prog = true := by kernel_rfl
theorem lifted (hP : Pure) (os : Os) (started : os.Started) (H : Type) (enc : TypeId × Value → H) :
    ReturnsInHanded {} Try.checked os 8 .any (Rows.soundAlarmsSpec.pre6 enc Try.prog Try.f8 Rows.soundAlarmsRow.domain false) (Rows.soundAlarmsSpec.post enc Try.prog Try.f8 false true false false) := by
  refine returnsInHanded_of_change_sized (C := Try.checked) own started (by kernel_rfl) Try.func8
    (ChangeSpec.witness6 (enc := enc) (C := Try.checked) false ⟨#[], #[.slice none 0 0, .agg #[.int .i64 0, .int .i64 0, .int .i64 0], .int .i64 0, .agg #[.slice none 0 0, .int .i64 0, .int .i64 0], .agg #[.int .i64 0, .int .i64 0, .int .i64 0, .int .i64 0], .agg #[.int .i64 0, .int .i64 0], .int .i64 0, .slice none 0 0], []⟩ 8 (by kernel_rfl) (by kernel_rfl) (by kernel_rfl) (by kernel_rfl)) ?_
  intro W base args ds gs before hval0 hW hcnd hsz0 _
  have hval : ∀ (j : Nat) t v, Try.f8.params[j]? = some t → args[j]? = some v → Value.okWide Try.prog W .any base t v := hval0
  have hW' := hW
  obtain ⟨p, q, hA0, hV, rfl, hfz, hnd⟩ := hW
  have hA : DataW.TrodAll enc Try.prog W 0 (fun _ => true) true Try.f8.params.toList args.toList ds p := hA0
  rw [Try.params8] at hA hval
  obtain ⟨v0, vs0, d0, ds0, p0, q0, hargs, rfl, rfl, h0, r0⟩ := trodAll_cons hA
  obtain ⟨v1, vs1, d1, ds1, p1, q1, rfl, rfl, rfl, h1, r1⟩ := trodAll_cons r0
  obtain ⟨v2, vs2, d2, ds2, p2, q2, rfl, rfl, rfl, h2, r2⟩ := trodAll_cons r1
  obtain ⟨v3, vs3, d3, ds3, p3, q3, rfl, rfl, rfl, h3, r3⟩ := trodAll_cons r2
  obtain ⟨v4, vs4, d4, ds4, p4, q4, rfl, rfl, rfl, h4, r4⟩ := trodAll_cons r3
  obtain ⟨v5, vs5, d5, ds5, p5, q5, rfl, rfl, rfl, h5, r5⟩ := trodAll_cons r4
  obtain ⟨v6, vs6, d6, ds6, p6, q6, rfl, rfl, rfl, h6, r6⟩ := trodAll_cons r5
  obtain ⟨v7, vs7, d7, ds7, p7, q7, rfl, rfl, rfl, h7, r7⟩ := trodAll_cons r6
  obtain ⟨rfl, rfl, rfl⟩ := trodAll_nil r7
  obtain rfl : args = #[v0, v1, v2, v3, v4, v5, v6, v7] := by cases args; simp_all
  obtain ⟨rfl, rfl⟩ := trodVars_none hV
  have k0 := h0
  have lt0 : ∀ x ∈ p0, x.block < W.heap.size := by obtain ⟨m, hm⟩ := k0; exact DataW.trod_lt m _ _ _ hm
  obtain ⟨m0, hm0⟩ := h0
  obtain ⟨x0, hk0, w0⟩ := OpR.run (OpR.slice Try.underlying37 (by kernel_rfl) op45) hm0
  obtain ⟨a0, len0, cap0, rfl⟩ := okWide_slice Try.underlying37 (hval 0 37 v0 rfl rfl)
  have k1 := h1
  have lt1 : ∀ x ∈ p1, x.block < W.heap.size := by obtain ⟨m, hm⟩ := k1; exact DataW.trod_lt m _ _ _ hm
  obtain ⟨m1, hm1⟩ := h1
  obtain ⟨x1, hk1, w1⟩ := OpR.run op39 hm1
  obtain ⟨x2, rfl, rfl, rfl, w2⟩ := open_int Try.underlying3 (hval 2 3 v2 rfl rfl) h2
  have k3 := h3
  have lt3 : ∀ x ∈ p3, x.block < W.heap.size := by obtain ⟨m, hm⟩ := k3; exact DataW.trod_lt m _ _ _ hm
  obtain ⟨m3, hm3⟩ := h3
  obtain ⟨x3, hk3, w3⟩ := OpR.run op26 hm3
  have k4 := h4
  have lt4 : ∀ x ∈ p4, x.block < W.heap.size := by obtain ⟨m, hm⟩ := k4; exact DataW.trod_lt m _ _ _ hm
  obtain ⟨m4, hm4⟩ := h4
  obtain ⟨x4, hk4, w4⟩ := OpR.run op29 hm4
  have k5 := h5
  have lt5 : ∀ x ∈ p5, x.block < W.heap.size := by obtain ⟨m, hm⟩ := k5; exact DataW.trod_lt m _ _ _ hm
  obtain ⟨m5, hm5⟩ := h5
  obtain ⟨x5, hk5, w5⟩ := OpR.run op24 hm5
  obtain ⟨x6, rfl, rfl, rfl, w6⟩ := open_int Try.underlying2 (hval 6 2 v6 rfl rfl) h6
  have k7 := h7
  have lt7 : ∀ x ∈ p7, x.block < W.heap.size := by obtain ⟨m, hm⟩ := k7; exact DataW.trod_lt m _ _ _ hm
  obtain ⟨m7, hm7⟩ := h7
  obtain ⟨x7, hk7, w7⟩ := OpR.run (OpR.slice Try.underlying79 (by kernel_rfl) op101) hm7
  obtain ⟨a7, len7, cap7, rfl⟩ := okWide_slice Try.underlying79 (hval 7 79 v7 rfl rfl)
  clear hA0 hval0 hsz0
  refine (hP x0 x1 x2 x3 x4 x5 x6 x7 w0 w1 w2 w3 w4 w5 w6 w7 (fun _ _ => True) W [_, _, _, _, _, _, _, _] (fun _ _ _ => trivial) ⟨_, _, rfl, arg_sl hk0, ⟨_, _, rfl, arg_agg hk1 (by decide), ⟨_, _, rfl, rfl, ⟨_, _, rfl, arg_agg hk3 (by decide), ⟨_, _, rfl, arg_agg hk4 (by decide), ⟨_, _, rfl, arg_agg hk5 (by decide), ⟨_, _, rfl, rfl, ⟨_, _, rfl, arg_sl hk7, rfl⟩⟩⟩⟩⟩⟩⟩⟩).mono fun e W' ⟨u, he, hu, bel⟩ => ?_
  subst he
  obtain rfl : u = .bool true := hu
  exact ⟨_, rfl, _, _, _, [], _, [], hW', trodAll_mk1 (shut_bool Try.underlying4 _), (trodAll_cons_mk (Below.trod laidOut (by kernel_rfl) (of_decide_eq_true (by kernel_rfl)) k0 bel lt0) (trodAll_cons_mk (Below.trod laidOut (by kernel_rfl) (of_decide_eq_true (by kernel_rfl)) k1 bel lt1) (trodAll_cons_mk (shut_int Try.underlying3 w2) (trodAll_cons_mk (Below.trod laidOut (by kernel_rfl) (of_decide_eq_true (by kernel_rfl)) k3 bel lt3) (trodAll_cons_mk (Below.trod laidOut (by kernel_rfl) (of_decide_eq_true (by kernel_rfl)) k4 bel lt4) (trodAll_cons_mk (Below.trod laidOut (by kernel_rfl) (of_decide_eq_true (by kernel_rfl)) k5 bel lt5) (trodAll_cons_mk (shut_int Try.underlying2 w6) (trodAll_cons_mk (Below.trod laidOut (by kernel_rfl) (of_decide_eq_true (by kernel_rfl)) k7 bel lt7) trodAll_mk0)))))))), rfl, bel.frame _, fun h => by cases h⟩
theorem over (hP : Pure) : Rows.soundAlarmsRow.holds Try.pinned (OpenSpec.ofChange Rows.soundAlarmsSpec) :=
  OpenClaim.holds_of_wide 8 Try.f8 rfl rfl rfl rfl rfl rfl rfl ⟨rfl, rfl, rfl, rfl, rfl⟩ rfl rfl rfl rfl rfl (by kernel_rfl) Try.func8 (by kernel_rfl)
    (of_decide_eq_true (by kernel_rfl)) (by unfold Func.isWrapper; first | (rw [if_pos (by decide +kernel)]; kernel_rfl) | (rw [if_neg (by decide +kernel)]; exact ⟨rfl, rfl⟩))
    (fun os started H enc _ => lifted hP os started H enc)
theorem proved (hP : Pure) : Rows.SoundAlarmsSaid := over hP
end soundAlarms
end Go.Proofs.Ytaheamdoldiojaa.P
namespace Go.Proofs.Ytaheamdoldiojaa.P
open Go Go.RowKit Go.Am
/-! ### SoundAlarms -/
theorem alarms_l {fu : Nat} (xs : List (Int × Int × Int)) (hl : xs.length ≤ 20) (h r g : Int) (st : List (Int × Int × Int × Int)) (lo hi b0 b1 b2 b3 o0 o1 : Int) : ∀ n m i : Nat, i + n = xs.length → n < m → alarms_0 fu m xs xs (i : Int) h r g st lo hi b0 b1 b2 b3 o0 o1 = some (.bool true, [])
  | 0, m, i, hi', hm => by
    obtain ⟨m, rfl⟩ : ∃ j, m = j + 1 := ⟨m - 1, by omega⟩
    rw [alarms_0s, cn (by omega)]
  | n + 1, m, i, hi', hm => by
    obtain ⟨m, rfl⟩ : ∃ j, m = j + 1 := ⟨m - 1, by omega⟩
    have hlt : i < xs.length := by omega
    rw [alarms_0s, cp (by omega), ca ⟨by omega, by omega⟩, ca ⟨by omega, by omega⟩, w_succ hlt (by omega), alarms_l xs hl h r g st lo hi b0 b1 b2 b3 o0 o1 n m (i + 1) (by omega) (by omega), cf' (by simp)]
theorem wrn_len (st : List (Int × Int × Int × Int)) (lo hi : Int) (b : Int × Int × Int × Int) (o0 o1 at_ : Int) (cs : List Co) (hc : cs.length ≤ 20) : (Ms.wrn st lo hi b o0 o1 at_ cs).1.length ≤ 20 := by
  unfold Ms.wrn
  repeat' split
  all_goals simp
  exact hc
theorem alarms_i {fu : Nat} (hf : gh fu = true) (l : Gs) (h r g k : Int) (st : List (Int × Int × Int × Int)) (lo hi b0 b1 b2 b3 o0 o1 at_ : Int) (cs : List Co) : (cf13 fu).call 61 0 8 [.sl GaR l .no, rlD h r g, .int .i64 k, ntD st lo hi, bxD b0 b1 b2 b3, spD o0 o1, .int .i64 at_, .sl CoR cs .no] [] (fun d σ => some (d, σ)) = some (.bool true, []) := by
  have g2 := gh_2 hf
  rw [alarms_e, ct' hf]
  cases Ms.huge l
  case true => rfl
  rw [cond_false]
  by_cases h12 : (st.length : Int) > 12
  · rw [cp h12]
  rw [cn h12]
  by_cases h20 : (cs.length : Int) > 20
  · rw [cp h20]
  have q := alarms_l (fu := fu) (Ms.wrn st lo hi (b0, b1, b2, b3) o0 o1 at_ cs).1 (wrn_len st lo hi _ o0 o1 at_ cs (by omega)) h r g st lo hi b0 b1 b2 b3 o0 o1 (Ms.wrn st lo hi (b0, b1, b2, b3) o0 o1 at_ cs).1.length fu 0 (by omega) (by have := wrn_len st lo hi (b0, b1, b2, b3) o0 o1 at_ cs (by omega); omega)
  rw [cn h20, ct' hf, ct' hf, ct' hf, ct' hf, cp ⟨hf, by omega⟩, cp ⟨hf, by omega⟩, cf' (by simp), cf' (by simp), cf' (by simp), cf' (by simp), cf' (by simp), cf' (by simp), cf' (by simp)]
  exact q
theorem soundAlarms_holds : Rows.SoundAlarmsSaid := soundAlarms.proved fun l r k n b o t cs _ _ _ _ _ _ _ _ => says_of (cf13_ok 2000) (alarms_i (by decide) l r.1 r.2.1 r.2.2 k n.1 n.2.1 n.2.2 b.1 b.2.1 b.2.2.1 b.2.2.2 o.1 o.2 t cs)
end Go.Proofs.Ytaheamdoldiojaa.P
