/- The examples of the chapter: SoundKnown returns true, whatever the world is: each part by the abstract machine's run (call_ok), the root by its contract. No conditions. -/
import Derived.Test.YtaheamdoldiojaaKAm1
import Derived.Test.YtaheamdoldiojaaKRoot0
import Derived.Test.YtaheamdoldiojaaRows
import Derived.WalkKit
import Derived.ProofKit
import Derived.OpenShut
import Derived.ShutString
import Derived.ChangeOld
import Derived.Below
import Derived.SizedLaws
import Derived.Carry
set_option linter.unusedVariables false
set_option linter.unusedSimpArgs false
namespace Go.Proofs.Ytaheamdoldiojaa.P
open Go.RowKit Go.Am

def isq (n : Nat) : Nat := Nat.rec (motive := fun _ => Nat → Nat) (fun x => x) (fun _ ih x => (fun y => if y < x then ih y else x) ((x + n / x) / 2)) 200 (n + 1)
/-- The root, told by its contract. -/
def rootSpec (args : List D) (k : D → Option Res) : Option Res := match args with
  | [.agg [.bool up], .int .i64 n] =>
    if 0 ≤ n ∧ n < 2305843009213693952 ∧ (isq n.toNat : Int) * (isq n.toNat : Int) ≤ n ∧ n < ((isq n.toNat : Int) + 1) * ((isq n.toNat : Int) + 1) then
      k (.int .i64 (if up && decide ((isq n.toNat : Int) * (isq n.toNat : Int) < n) then (isq n.toNat : Int) + 1 else (isq n.toNat : Int)))
    else none
  | _ => none
theorem rootSpec_ok : SpecOk Try.prog 133 rootSpec := by
  refine ⟨⟨Try.f133, Try.func133, rfl⟩, fun args k r h => ?_⟩
  unfold rootSpec at h
  split at h
  case h_2 => cases h
  rename_i up n
  split at h
  case isFalse => cases h
  rename_i hc
  have hq : (0 : Int) ≤ (isq n.toNat : Int) := Int.natCast_nonneg _
  generalize (isq n.toNat : Int) = q at h hc hq
  have hr : Rt.root n = q := Rt.root_of ⟨hq, hc.2.2.1, hc.2.2.2⟩ hc.1
  refine ⟨_, h, fun Y w vs hY hv => ?_⟩
  obtain ⟨v1, rest1, rfl, ⟨x, rfl, ⟨vb, r0, rfl, hb, h0⟩⟩, ⟨v2, rest2, rfl, h2, h3⟩⟩ := hv
  have h0 : r0 = [] := h0
  have h3 : rest2 = [] := h3
  have hb : vb = .bool up := hb
  have h2 : v2 = .int .i64 n := h2
  subst h0 h3 hb h2
  refine (bound_round_root.calls up n (if up && decide (q * q < n) then q + 1 else q) w ?_).mono fun e w' ⟨he, hb⟩ => ⟨_, he, rfl, hb⟩
  unfold bound_round_root.f
  rw [if_pos ⟨hc.1, hc.2.1⟩]
  unfold Rt.rootUp
  rw [hr]
  cases up
  · simp
  · by_cases q2 : q * q < n
    · simp [q2]
    · simp [q2]

theorem names_ok : NamesOk Try.prog := by
  have h : (Try.prog.funcs.toList.all fun fn => !(fn.name == "runtime.NumGoroutine")) = true := by kernel_rfl
  intro f fn hf
  have := List.all_eq_true.1 h fn (by
    rw [← Array.getElem?_toList] at hf
    exact List.mem_of_getElem? hf)
  simpa using this
def eqTypes (t : TypeId) : Bool := t == 24 || t == 29 || t == 84
theorem eq_ok : EqOk Try.prog eqTypes := by
  intro t h
  simp only [eqTypes, Bool.or_eq_true, beq_iff_eq] at h
  rcases h with (rfl | rfl) | rfl
  · exact ⟨by kernel_rfl, by kernel_rfl⟩
  · exact ⟨by kernel_rfl, by kernel_rfl⟩
  · exact ⟨by kernel_rfl, by kernel_rfl⟩
noncomputable def cfg0 : Cfg :=
  { P := Try.prog
    spec := fun f => if f = 133 then some rootSpec else none
    keep := fun _ _ => none
    keepTok := fun f => f == 59
    dyn := fun f => f == 112
    eqOk := eqTypes }
theorem cfg0_ok : CfgOk cfg0 := ⟨eq_ok, names_ok, by kernel_rfl, fun f sp h => by
  simp only [cfg0] at h
  split at h
  · rename_i hf
    subst hf
    cases h
    exact rootSpec_ok
  · cases h⟩
end Go.Proofs.Ytaheamdoldiojaa.P
namespace Go.Proofs.Ytaheamdoldiojaa.P
open Go.RowKit
namespace soundKnown
open Go.ChangeShapes Go.WideShapes Go.ChangeAt
theorem own : ownKnob Try.prog.godebug = none := by kernel_rfl
theorem shutB {H : Type} {enc : TypeId × Value → H} {W' : World} {bb : Nat} {sp : Nat → Bool} {hd : Bool} (c : Bool) : DataW.Trod enc Try.prog W' bb sp hd 4 (.bool c) (.lit (.bool c)) [] :=
  ⟨1, by simp [DataW.trod, Value.cells, Try.underlying4]⟩
set_option maxRecDepth 100000 in
theorem lifted (hP : ∀ W, Calls Try.prog 12 #[] W fun e W' => e = .returned (.bool true) ∧ Below W.heap.size W W') (os : Os) (started : os.Started) (H : Type) (enc : TypeId × Value → H) :
    ReturnsInHanded {} Try.checked os 12 .any (Rows.soundKnownSpec.pre6 enc Try.prog Try.f12 Rows.soundKnownRow.domain false) (Rows.soundKnownSpec.post enc Try.prog Try.f12 false true false false) := by
  refine returnsInHanded_of_change_sized (C := Try.checked) own started (by kernel_rfl) Try.func12
    (ChangeSpec.witness6 (enc := enc) (C := Try.checked) false ⟨#[], #[], []⟩ 8 (by kernel_rfl) (by kernel_rfl) (by kernel_rfl) (by kernel_rfl)) ?_
  intro W base args ds gs before hval0 hW hcnd hsz0 _
  have hW' := hW
  obtain ⟨p, q, hA0, hV, rfl, hfz, hnd⟩ := hW
  have hA : DataW.TrodAll enc Try.prog W 0 (fun _ => true) true Try.f12.params.toList args.toList ds p := hA0
  rw [Try.params12] at hA
  obtain ⟨rfl, rfl, rfl⟩ := trodAll_none hA
  obtain ⟨rfl, rfl⟩ := trodVars_none hV
  refine (hP W).mono fun e W' ⟨he, hd⟩ => ?_
  subst he
  exact ⟨_, rfl, _, _, _, [], _, [], hW', trodAll_mk1 (shutB _), trodAll_mk0, rfl, hd.frame _, fun h => by cases h⟩
theorem over (hP : ∀ W, Calls Try.prog 12 #[] W fun e W' => e = .returned (.bool true) ∧ Below W.heap.size W W') : Rows.soundKnownRow.holds Try.pinned (OpenSpec.ofChange Rows.soundKnownSpec) :=
  OpenClaim.holds_of_wide 12 Try.f12 rfl rfl rfl rfl rfl rfl rfl ⟨rfl, rfl, rfl, rfl, rfl⟩ rfl rfl rfl rfl rfl (by kernel_rfl) Try.func12 (by kernel_rfl)
    (of_decide_eq_true (by kernel_rfl)) (by unfold Func.isWrapper; first | (rw [if_pos (by decide +kernel)]; kernel_rfl) | (rw [if_neg (by decide +kernel)]; exact ⟨rfl, rfl⟩))
    (fun os started H enc _ => lifted hP os started H enc)
theorem proved (hP : ∀ W, Calls Try.prog 12 #[] W fun e W' => e = .returned (.bool true) ∧ Below W.heap.size W W') : Rows.SoundKnownSaid := over hP
end soundKnown
end Go.Proofs.Ytaheamdoldiojaa.P
namespace Go.Proofs.Ytaheamdoldiojaa.P
open Go.RowKit Go.Am

def xBox : Row := .cons (.int .i64) (.cons (.int .i64) (.cons (.int .i64) (.one (.int .i64))))
def xSpan : Row := .cons (.int .i64) (.one (.int .i64))
def xInt : Row := .one (.int .i64)
def xCoast : Row := .cons (.int .i64) (.cons (.int .i64) (.cons (.int .i64) (.cons (.int .i64) (.one (.int .i64)))))
def xWarn : Row := .cons (.int .i64) (.cons (.int .i64) (.one (.int .i64)))
def xNet (a b : Int) : D := .agg [.sl xBox [(0, 0, 0, 0), (3000, 3000, 0, 0), (0, 0, 4000, 4000)] .no, .int .i64 a, .int .i64 b]
def xArr : D := .sl xSpan [(100, 100), (2100, 2100), (2767, 2767)] .no
def xGau : D := .sl (.one (.sl xSpan)) [[(0, 1), (20, 30), (25, 40)], [(0, 5), (5, 25), (21, 22)]] .no
def xRul : D := .agg [.int .i64 20, .int .i64 2, .int .i64 1]
def xB (a b c d : Int) : D := .agg [.int .i64 a, .int .i64 b, .int .i64 c, .int .i64 d]
def xS (a b : Int) : D := .agg [.int .i64 a, .int .i64 b]
def xI (a : Int) : D := .int .i64 a
def xL (l : List Int) : D := .sl xInt l .no

def fLoud : List (List D × D) := [([.sl xSpan [(1, 2), (2, 5), (5, 9)] .no, xI 4], .tup [xL [0, 1, 2], xI 0])]
def fCount : List (List D × D) := [([xL [2, 1, 2, 0, 1], xI 2], .tup [xS 0 1, xI 0]), ([xL [2, 1, 2, 0, 1], xI 1], .tup [xS 1 3, xI 0])]
def fExample : List (List D × D) := [([], .tup [xNet 1500 1500, xArr])]
def fGauges : List (List D × D) := [([], .tup [xGau, xRul])]
def fTravel : List (List D × D) := [([xNet 1500 1500, xB 0 0 0 0, xI 2], .tup [xS 2666 2667, xI 0])]
def fOrigin : List (List D × D) := [([xNet 1500 1500, xArr, xB 0 0 0 0], .tup [xS 100 100, xI 0])]
def fExcl : List (List D × D) := [([xNet 1500 1500, xArr, xB 3000 3000 4000 4000], .tup [xI 0, xI 1, xI 0])]
def fRaised : List (List D × D) := [([xGau, xRul, xI 0], .tup [xI 0, xI 0]), ([xGau, xRul, xI 1], .tup [xI 0, xI 0]), ([xGau, xRul, xI 2], .tup [xI 2, xI 0])]
def fWarn : List (List D × D) := [([xNet 100 200, xB 0 0 0 0, xS 0 1000, xI 5000, .sl xCoast [(10000, 10000, 0, 0, 40), (10000, 10000, 0, 0, 45), (10000, 10000, 0, 0, 97)] .no], .tup [.sl xWarn [(50000, 101000, 2), (50000, 101000, 2), (50000, 101000, 0)] .no, xI 0])]
def fRegion : List (List D × D) := [([xNet 1500 1500, xArr, xB 0 4000 0 4000, xI 1], .tup [.sl xBox [(0, 2000, 0, 2000)] .no, xI 0])]
def fFirst : List (List D × D) := [([xGau, xRul], .tup [xI 2, xI 2, xI 0])]

set_option maxRecDepth 100000
theorem sLoud : ∀ x ∈ fLoud, Says Try.prog 29 x.1 x.2 := by
  simp only [fLoud, List.mem_singleton, forall_eq]
  exact says_of cfg0_ok (m := 60) (by kernel_rfl)
theorem sCount1 : Says Try.prog 30 [xL [2, 1, 2, 0, 1], xI 2] (.tup [xS 0 1, xI 0]) := says_of cfg0_ok (m := 60) (by kernel_rfl)
theorem sCount2 : Says Try.prog 30 [xL [2, 1, 2, 0, 1], xI 1] (.tup [xS 1 3, xI 0]) := says_of cfg0_ok (m := 60) (by kernel_rfl)
theorem sCount : ∀ x ∈ fCount, Says Try.prog 30 x.1 x.2 := fun x hx => by
  simp only [fCount, List.mem_cons, List.not_mem_nil, or_false] at hx
  rcases hx with rfl | rfl
  · exact sCount1
  · exact sCount2
theorem sExample : ∀ x ∈ fExample, Says Try.prog 55 x.1 x.2 := by
  simp only [fExample, List.mem_singleton, forall_eq]
  exact says_of cfg0_ok (m := 60) (by kernel_rfl)
theorem sGauges : ∀ x ∈ fGauges, Says Try.prog 57 x.1 x.2 := by
  simp only [fGauges, List.mem_singleton, forall_eq]
  exact says_of cfg0_ok (m := 60) (by kernel_rfl)
theorem sTravel : ∀ x ∈ fTravel, Says Try.prog 47 x.1 x.2 := by
  simp only [fTravel, List.mem_singleton, forall_eq]
  exact says_of cfg0_ok (m := 60) (by kernel_rfl)
theorem sOrigin : ∀ x ∈ fOrigin, Says Try.prog 28 x.1 x.2 := by
  simp only [fOrigin, List.mem_singleton, forall_eq]
  exact says_of cfg0_ok (m := 60) (by kernel_rfl)
theorem sExcl : ∀ x ∈ fExcl, Says Try.prog 40 x.1 x.2 := by
  simp only [fExcl, List.mem_singleton, forall_eq]
  exact says_of cfg0_ok (m := 60) (by kernel_rfl)
theorem sRaised0 : Says Try.prog 21 [xGau, xRul, xI 0] (.tup [xI 0, xI 0]) := says_of cfg0_ok (m := 60) (by kernel_rfl)
theorem sRaised1 : Says Try.prog 21 [xGau, xRul, xI 1] (.tup [xI 0, xI 0]) := says_of cfg0_ok (m := 60) (by kernel_rfl)
theorem sRaised2 : Says Try.prog 21 [xGau, xRul, xI 2] (.tup [xI 2, xI 0]) := says_of cfg0_ok (m := 60) (by kernel_rfl)
theorem sRaised : ∀ x ∈ fRaised, Says Try.prog 21 x.1 x.2 := fun x hx => by
  simp only [fRaised, List.mem_cons, List.not_mem_nil, or_false] at hx
  rcases hx with rfl | rfl | rfl
  · exact sRaised0
  · exact sRaised1
  · exact sRaised2
theorem sWarn : ∀ x ∈ fWarn, Says Try.prog 38 x.1 x.2 := by
  simp only [fWarn, List.mem_singleton, forall_eq]
  exact says_of cfg0_ok (m := 60) (by kernel_rfl)
theorem sRegion : ∀ x ∈ fRegion, Says Try.prog 15 x.1 x.2 := by
  simp only [fRegion, List.mem_singleton, forall_eq]
  exact says_of cfg0_ok (m := 60) (by kernel_rfl)
theorem sFirst : ∀ x ∈ fFirst, Says Try.prog 23 x.1 x.2 := by
  simp only [fFirst, List.mem_singleton, forall_eq]
  exact says_of cfg0_ok (m := 60) (by kernel_rfl)

noncomputable def tbl (f : FuncId) : Option (List D → (D → Option Res) → Option Res) :=
  if f = 29 then some (told fLoud) else if f = 30 then some (told fCount) else if f = 55 then some (told fExample) else if f = 57 then some (told fGauges) else if f = 47 then some (told fTravel) else
  if f = 28 then some (told fOrigin) else if f = 40 then some (told fExcl) else if f = 21 then some (told fRaised) else if f = 38 then some (told fWarn) else if f = 15 then some (told fRegion) else if f = 23 then some (told fFirst) else none
noncomputable def cfg1 : Cfg := { cfg0 with spec := tbl }
theorem cfg1_ok : CfgOk cfg1 := ⟨eq_ok, names_ok, cfg0_ok.mixed, fun f sp h => by
  have h : tbl f = some sp := h
  unfold tbl at h
  repeat' split at h
  all_goals first | (cases h; done) | skip
  all_goals (rename_i hf; subst hf; cases h)
  · exact told_ok ⟨Try.f29, Try.func29, rfl⟩ sLoud
  · exact told_ok ⟨Try.f30, Try.func30, rfl⟩ sCount
  · exact told_ok ⟨Try.f55, Try.func55, rfl⟩ sExample
  · exact told_ok ⟨Try.f57, Try.func57, rfl⟩ sGauges
  · exact told_ok ⟨Try.f47, Try.func47, rfl⟩ sTravel
  · exact told_ok ⟨Try.f28, Try.func28, rfl⟩ sOrigin
  · exact told_ok ⟨Try.f40, Try.func40, rfl⟩ sExcl
  · exact told_ok ⟨Try.f21, Try.func21, rfl⟩ sRaised
  · exact told_ok ⟨Try.f38, Try.func38, rfl⟩ sWarn
  · exact told_ok ⟨Try.f15, Try.func15, rfl⟩ sRegion
  · exact told_ok ⟨Try.f23, Try.func23, rfl⟩ sFirst⟩
theorem sKnown : Says Try.prog 12 [] (.bool true) := says_of cfg1_ok (m := 60) (by kernel_rfl)
theorem soundKnown_holds : Rows.SoundKnownSaid := soundKnown.proved fun W => (sKnown (fun _ _ => True) W [] (fun _ _ _ => trivial) rfl).mono fun e W' ⟨v, he, hv, hb⟩ => ⟨by rw [he, show v = _ from hv], hb⟩
#print axioms soundKnown_holds
end Go.Proofs.Ytaheamdoldiojaa.P
