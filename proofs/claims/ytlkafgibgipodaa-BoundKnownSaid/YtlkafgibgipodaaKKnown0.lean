/- The examples of the chapter: BoundKnown returns true, whatever the world is: each part by the abstract machine's run (call_ok), the root and Works by their contracts. No conditions. -/
import Derived.Test.YtlkafgibgipodaaKAm1
import Derived.Test.YtlkafgibgipodaaKRoot1
import Derived.Test.YtlkafgibgipodaaRows
import Derived.WalkKit
import Derived.ProofKit
import Derived.OpenShut
import Derived.ShutString
import Derived.ChangeOld
import Derived.Below
import Derived.SizedLaws
import Derived.Carry
set_option linter.unusedVariables false
set_option linter.unusedSimpArgs false
namespace Go.Proofs.Ytlkafgibgipodaa.P
open Go.RowKit Go.Am

def isq (n : Nat) : Nat := Nat.rec (motive := fun _ => Nat → Nat) (fun x => x) (fun _ ih x => (fun y => if y < x then ih y else x) ((x + n / x) / 2)) 200 (n + 1)
/-- The root, told by its contract. -/
def rootSpec (args : List D) (k : D → Option Res) : Option Res := match args with
  | [.agg [.bool up], .int .i64 n] =>
    if 0 ≤ n ∧ n < 2305843009213693952 ∧ (isq n.toNat : Int) * (isq n.toNat : Int) ≤ n ∧ n < ((isq n.toNat : Int) + 1) * ((isq n.toNat : Int) + 1) then
      k (.int .i64 (if up && decide ((isq n.toNat : Int) * (isq n.toNat : Int) < n) then (isq n.toNat : Int) + 1 else (isq n.toNat : Int)))
    else none
  | _ => none
theorem rootSpec_ok : SpecOk Try.prog 105 rootSpec := by
  refine ⟨⟨Try.f105, Try.func105, rfl⟩, fun args k r h => ?_⟩
  unfold rootSpec at h
  split at h
  case h_2 => cases h
  rename_i up n
  split at h
  case isFalse => cases h
  rename_i hc
  have hq : (0 : Int) ≤ (isq n.toNat : Int) := Int.natCast_nonneg _
  generalize (isq n.toNat : Int) = q at h hc hq
  have hr : Rt.root n = q := Rt.root_of ⟨hq, hc.2.2.1, hc.2.2.2⟩ hc.1
  refine ⟨_, h, fun Y w vs hY hv => ?_⟩
  obtain ⟨v1, rest1, rfl, ⟨x, rfl, ⟨vb, r0, rfl, hb, h0⟩⟩, ⟨v2, rest2, rfl, h2, h3⟩⟩ := hv
  have h0 : r0 = [] := h0
  have h3 : rest2 = [] := h3
  have hb : vb = .bool up := hb
  have h2 : v2 = .int .i64 n := h2
  subst h0 h3 hb h2
  refine (bound_round_root.calls up n (if up && decide (q * q < n) then q + 1 else q) w ?_).mono fun e w' ⟨he, hb⟩ => ⟨_, he, rfl, hb⟩
  unfold bound_round_root.f
  rw [if_pos ⟨hc.1, hc.2.1⟩]
  unfold Rt.rootUp
  rw [hr]
  cases up
  · simp
  · by_cases q2 : q * q < n
    · simp [q2]
    · simp [q2]

theorem names_ok : NamesOk Try.prog := by
  have h : (Try.prog.funcs.toList.all fun fn => !(fn.name == "runtime.NumGoroutine")) = true := by kernel_rfl
  intro f fn hf
  have := List.all_eq_true.1 h fn (by
    rw [← Array.getElem?_toList] at hf
    exact List.mem_of_getElem? hf)
  simpa using this
def eqTypes (t : TypeId) : Bool := t == 32
theorem eq_ok : EqOk Try.prog eqTypes := by
  intro t h
  simp only [eqTypes, beq_iff_eq] at h
  subst h
  exact ⟨by kernel_rfl, by kernel_rfl⟩
noncomputable def cfg0 : Cfg :=
  { P := Try.prog
    spec := fun f => if f = 105 then some rootSpec else none
    keep := fun _ _ => none
    keepTok := fun f => false
    dyn := fun f => false
    eqOk := eqTypes }
theorem cfg0_ok : CfgOk cfg0 := ⟨eq_ok, names_ok, by kernel_rfl, fun f sp h => by
  simp only [cfg0] at h
  split at h
  · rename_i hf
    subst hf
    cases h
    exact rootSpec_ok
  · cases h⟩
end Go.Proofs.Ytlkafgibgipodaa.P
namespace Go.Proofs.Ytlkafgibgipodaa.P
open Go.RowKit
namespace boundKnown
open Go.ChangeShapes Go.WideShapes Go.ChangeAt
theorem own : ownKnob Try.prog.godebug = none := by kernel_rfl
theorem shutB {H : Type} {enc : TypeId × Value → H} {W' : World} {bb : Nat} {sp : Nat → Bool} {hd : Bool} (c : Bool) : DataW.Trod enc Try.prog W' bb sp hd 4 (.bool c) (.lit (.bool c)) [] :=
  ⟨1, by simp [DataW.trod, Value.cells, Try.underlying4]⟩
set_option maxRecDepth 100000 in
theorem lifted (hP : ∀ W, Calls Try.prog 17 #[] W fun e W' => e = .returned (.bool true) ∧ Below W.heap.size W W') (os : Os) (started : os.Started) (H : Type) (enc : TypeId × Value → H) :
    ReturnsInHanded {} Try.checked os 17 .any (Rows.boundKnownSpec.pre6 enc Try.prog Try.f17 Rows.boundKnownRow.domain false) (Rows.boundKnownSpec.post enc Try.prog Try.f17 false true false false) := by
  refine returnsInHanded_of_change_sized (C := Try.checked) own started (by kernel_rfl) Try.func17
    (ChangeSpec.witness6 (enc := enc) (C := Try.checked) false ⟨#[], #[], []⟩ 8 (by kernel_rfl) (by kernel_rfl) (by kernel_rfl) (by kernel_rfl)) ?_
  intro W base args ds gs before hval0 hW hcnd hsz0 _
  have hW' := hW
  obtain ⟨p, q, hA0, hV, rfl, hfz, hnd⟩ := hW
  have hA : DataW.TrodAll enc Try.prog W 0 (fun _ => true) true Try.f17.params.toList args.toList ds p := hA0
  rw [Try.params17] at hA
  obtain ⟨rfl, rfl, rfl⟩ := trodAll_none hA
  obtain ⟨rfl, rfl⟩ := trodVars_none hV
  refine (hP W).mono fun e W' ⟨he, hd⟩ => ?_
  subst he
  exact ⟨_, rfl, _, _, _, [], _, [], hW', trodAll_mk1 (shutB _), trodAll_mk0, rfl, hd.frame _, fun h => by cases h⟩
theorem over (hP : ∀ W, Calls Try.prog 17 #[] W fun e W' => e = .returned (.bool true) ∧ Below W.heap.size W W') : Rows.boundKnownRow.holds Try.pinned (OpenSpec.ofChange Rows.boundKnownSpec) :=
  OpenClaim.holds_of_wide 17 Try.f17 rfl rfl rfl rfl rfl rfl rfl ⟨rfl, rfl, rfl, rfl, rfl⟩ rfl rfl rfl rfl rfl (by kernel_rfl) Try.func17 (by kernel_rfl)
    (of_decide_eq_true (by kernel_rfl)) (by unfold Func.isWrapper; first | (rw [if_pos (by decide +kernel)]; kernel_rfl) | (rw [if_neg (by decide +kernel)]; exact ⟨rfl, rfl⟩))
    (fun os started H enc _ => lifted hP os started H enc)
theorem proved (hP : ∀ W, Calls Try.prog 17 #[] W fun e W' => e = .returned (.bool true) ∧ Below W.heap.size W W') : Rows.BoundKnownSaid := over hP
end boundKnown
end Go.Proofs.Ytlkafgibgipodaa.P
namespace Go.Proofs.Ytlkafgibgipodaa.P
open Go.RowKit Go.Am
def xSpan : Row := .cons (.int .i64) (.one (.int .i64))
def xB (a b c d : Int) : D := .agg [.int .i64 a, .int .i64 b, .int .i64 c, .int .i64 d]
def xS (a b : Int) : D := .agg [.int .i64 a, .int .i64 b]
def xI (a : Int) : D := .int .i64 a
set_option maxRecDepth 100000
def fAdd : List (List D × D) := [([xS (-3) 5, xS 2 4], .tup [xS (-1) 9, xI 0])]
theorem sAdd0 : Says Try.prog 27 [xS (-3) 5, xS 2 4] (.tup [xS (-1) 9, xI 0]) := says_of cfg0_ok (m := 60) (by kernel_rfl)
theorem sAdd : ∀ x ∈ fAdd, Says Try.prog 27 x.1 x.2 := fun x hx => by
  simp only [fAdd, List.mem_cons, List.not_mem_nil, or_false] at hx
  subst hx
  exact sAdd0
def fSub : List (List D × D) := [([xS (-3) 5, xS 2 4], .tup [xS (-7) 3, xI 0])]
theorem sSub0 : Says Try.prog 30 [xS (-3) 5, xS 2 4] (.tup [xS (-7) 3, xI 0]) := says_of cfg0_ok (m := 60) (by kernel_rfl)
theorem sSub : ∀ x ∈ fSub, Says Try.prog 30 x.1 x.2 := fun x hx => by
  simp only [fSub, List.mem_cons, List.not_mem_nil, or_false] at hx
  subst hx
  exact sSub0
def fScale : List (List D × D) := [([xS (-3) 5, xI (-2), xI 3], .tup [xS (-4) 2, xI 0])]
theorem sScale0 : Says Try.prog 29 [xS (-3) 5, xI (-2), xI 3] (.tup [xS (-4) 2, xI 0]) := says_of cfg0_ok (m := 60) (by kernel_rfl)
theorem sScale : ∀ x ∈ fScale, Says Try.prog 29 x.1 x.2 := fun x hx => by
  simp only [fScale, List.mem_cons, List.not_mem_nil, or_false] at hx
  subst hx
  exact sScale0
def fRoot : List (List D × D) := [([xS 5 17], .tup [xS 2 5, xI 0])]
theorem sRoot0 : Says Try.prog 63 [xS 5 17] (.tup [xS 2 5, xI 0]) := says_of cfg0_ok (m := 60) (by kernel_rfl)
theorem sRoot : ∀ x ∈ fRoot, Says Try.prog 63 x.1 x.2 := fun x hx => by
  simp only [fRoot, List.mem_cons, List.not_mem_nil, or_false] at hx
  subst hx
  exact sRoot0
def fLine : List (List D × D) := [([xI 0, xS 0 10, xI 10, xS 5 20, xI 3], .tup [xS 1 13, xI 0])]
theorem sLine0 : Says Try.prog 68 [xI 0, xS 0 10, xI 10, xS 5 20, xI 3] (.tup [xS 1 13, xI 0]) := says_of cfg0_ok (m := 60) (by kernel_rfl)
theorem sLine : ∀ x ∈ fLine, Says Try.prog 68 x.1 x.2 := fun x hx => by
  simp only [fLine, List.mem_cons, List.not_mem_nil, or_false] at hx
  subst hx
  exact sLine0
def fDist : List (List D × D) := [([xB 0 2 0 2, xB 5 6 6 8], .tup [xS 5 10, xI 0])]
theorem sDist0 : Says Try.prog 56 [xB 0 2 0 2, xB 5 6 6 8] (.tup [xS 5 10, xI 0]) := says_of cfg0_ok (m := 60) (by kernel_rfl)
theorem sDist : ∀ x ∈ fDist, Says Try.prog 56 x.1 x.2 := fun x hx => by
  simp only [fDist, List.mem_cons, List.not_mem_nil, or_false] at hx
  subst hx
  exact sDist0
def fLess : List (List D × D) := [([xS 1 3, xS 3 5], .tup [xI 1, xI 0]), ([xS 1 2, xS 3 5], .tup [xI 2, xI 0]), ([xS 5 6, xS 3 5], .tup [xI 0, xI 0])]
theorem sLess0 : Says Try.prog 24 [xS 1 3, xS 3 5] (.tup [xI 1, xI 0]) := says_of cfg0_ok (m := 60) (by kernel_rfl)
theorem sLess1 : Says Try.prog 24 [xS 1 2, xS 3 5] (.tup [xI 2, xI 0]) := says_of cfg0_ok (m := 60) (by kernel_rfl)
theorem sLess2 : Says Try.prog 24 [xS 5 6, xS 3 5] (.tup [xI 0, xI 0]) := says_of cfg0_ok (m := 60) (by kernel_rfl)
theorem sLess : ∀ x ∈ fLess, Says Try.prog 24 x.1 x.2 := fun x hx => by
  simp only [fLess, List.mem_cons, List.not_mem_nil, or_false] at hx
  rcases hx with rfl | rfl | rfl
  · exact sLess0
  · exact sLess1
  · exact sLess2
def fIn : List (List D × D) := [([xS 1 3, xS 0 3], .tup [xI 2, xI 0]), ([xS 1 3, xS 3 9], .tup [xI 1, xI 0]), ([xS 1 2, xS 3 9], .tup [xI 0, xI 0])]
theorem sIn0 : Says Try.prog 25 [xS 1 3, xS 0 3] (.tup [xI 2, xI 0]) := says_of cfg0_ok (m := 60) (by kernel_rfl)
theorem sIn1 : Says Try.prog 25 [xS 1 3, xS 3 9] (.tup [xI 1, xI 0]) := says_of cfg0_ok (m := 60) (by kernel_rfl)
theorem sIn2 : Says Try.prog 25 [xS 1 2, xS 3 9] (.tup [xI 0, xI 0]) := says_of cfg0_ok (m := 60) (by kernel_rfl)
theorem sIn : ∀ x ∈ fIn, Says Try.prog 25 x.1 x.2 := fun x hx => by
  simp only [fIn, List.mem_cons, List.not_mem_nil, or_false] at hx
  rcases hx with rfl | rfl | rfl
  · exact sIn0
  · exact sIn1
  · exact sIn2
def fOut : List (List D × D) := [([.sl xSpan [(1, 3), (5, 6)] .no, xS 0 7], .tup [.sl xSpan [(0, 0), (4, 4), (7, 7)] .no, xI 0])]
theorem sOut0 : Says Try.prog 43 [.sl xSpan [(1, 3), (5, 6)] .no, xS 0 7] (.tup [.sl xSpan [(0, 0), (4, 4), (7, 7)] .no, xI 0]) := says_of cfg0_ok (m := 60) (by kernel_rfl)
theorem sOut : ∀ x ∈ fOut, Says Try.prog 43 x.1 x.2 := fun x hx => by
  simp only [fOut, List.mem_cons, List.not_mem_nil, or_false] at hx
  subst hx
  exact sOut0
def fWorks : List (List D × D) := [([], .bool true)]
theorem sWorks : ∀ x ∈ fWorks, Says Try.prog 18 x.1 x.2 := fun x hx => by
  simp only [fWorks, List.mem_cons, List.not_mem_nil, or_false] at hx
  subst hx
  intro Y w vs _ hv
  obtain rfl : vs = [] := hv
  exact (isobathlaw01_Works.calls 20 true w (Bo.works (Nat.le_refl _))).mono fun e w' ⟨he, hb⟩ => ⟨_, he, rfl, hb⟩
noncomputable def tbl (f : FuncId) : Option (List D → (D → Option Res) → Option Res) :=
  if f = 27 then some (told fAdd) else if f = 30 then some (told fSub) else if f = 29 then some (told fScale) else if f = 63 then some (told fRoot) else if f = 68 then some (told fLine) else if f = 56 then some (told fDist) else if f = 24 then some (told fLess) else if f = 25 then some (told fIn) else if f = 43 then some (told fOut) else if f = 18 then some (told fWorks) else none
noncomputable def cfg1 : Cfg := { cfg0 with spec := tbl }
theorem cfg1_ok : CfgOk cfg1 := ⟨eq_ok, names_ok, cfg0_ok.mixed, fun f sp h => by
  have h : tbl f = some sp := h
  unfold tbl at h
  repeat' split at h
  all_goals first | (cases h; done) | skip
  all_goals (rename_i hf; subst hf; cases h)
  · exact told_ok ⟨Try.f27, Try.func27, rfl⟩ sAdd
  · exact told_ok ⟨Try.f30, Try.func30, rfl⟩ sSub
  · exact told_ok ⟨Try.f29, Try.func29, rfl⟩ sScale
  · exact told_ok ⟨Try.f63, Try.func63, rfl⟩ sRoot
  · exact told_ok ⟨Try.f68, Try.func68, rfl⟩ sLine
  · exact told_ok ⟨Try.f56, Try.func56, rfl⟩ sDist
  · exact told_ok ⟨Try.f24, Try.func24, rfl⟩ sLess
  · exact told_ok ⟨Try.f25, Try.func25, rfl⟩ sIn
  · exact told_ok ⟨Try.f43, Try.func43, rfl⟩ sOut
  · exact told_ok ⟨Try.f18, Try.func18, rfl⟩ sWorks⟩
theorem sKnown : Says Try.prog 17 [] (.bool true) := says_of cfg1_ok (m := 60) (by kernel_rfl)
theorem boundKnown_holds : Rows.BoundKnownSaid := boundKnown.proved fun W => (sKnown (fun _ _ => True) W [] (fun _ _ _ => trivial) rfl).mono fun e W' ⟨v, he, hv, hb⟩ => ⟨by rw [he, show v = _ from hv], hb⟩
#print axioms boundKnown_holds
end Go.Proofs.Ytlkafgibgipodaa.P
