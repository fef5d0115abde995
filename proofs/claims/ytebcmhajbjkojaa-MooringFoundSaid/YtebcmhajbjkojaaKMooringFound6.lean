/- Found returns the first number of hours after which no cell is left and none was left by the area, and to search one more cell never adds a cell and never makes it later: both programs are told by one closed form, which is monotone in what is searched. Part 7 of 7. -/
-- Put together by wip/tools/shake.py, a program of this work: out of the words that the kit's print tool (print.sh) writes for a claim and what wip/tools/xprint.py prints, those that this claim reaches, and this work's own texts.
import Derived.Deep.Slices
import Derived.Test.YtebcmhajbjkojaaRows
import Derived.WalkKit
import Derived.ProofKit
import Derived.OpenShut
import Derived.ShutString
import Derived.ChangeOld
import Derived.Below
import Derived.SizedLaws
import Derived.Carry
import Derived.KernelRfl
import Derived.Test.YtebcmhajbjkojaaKMooringFound5
namespace Go.Proofs.Ytebcmhajbjkojaa.P
open Go.RowKit Go.Proofs.YtebcmhajbjkojaaW.PrintWords Go.Proofs.YtebcmhajbjkojaaW.PrintLast Go.Proofs.YtebcmhajbjkojaaW.PrintMore
attribute [local go_sem] max2_int min2_int max_two min_two max_three min_three max_four min_four   -- for this text's walks alone
set_option linter.unusedVariables false
set_option linter.unusedSimpArgs false
structure Opens {α : Type} (P : Program) (t : TypeId) (d : Kd α) (B : α → Prop) : Prop where
 run : ∀ {H : Type} {enc : TypeId × Value → H} {W : World} {fuel : Nat} {cs : List Value} {x : DataW H × List MemPlace}, DataW.trod enc P W 0 (fun _ => true) true fuel t cs = some x → ∃ a : α, d.K W a cs ∧ B a
theorem Opens.int {P : Program} {t : TypeId} {k : IntKind} (ht : P.underlying t = some (.int k)) : Opens P t (Kd.int k) (fun n => (Lit.int k n).wf = true) :=
 ⟨fun h => by
  obtain ⟨n, rfl, _, hw⟩ := DataW.trod_int ht h
  exact ⟨n, rfl, hw⟩⟩
theorem Opens.bool {P : Program} {t : TypeId} (ht : P.underlying t = some .bool) : Opens P t Kd.bool (fun _ => True) :=
 ⟨fun h => by
  obtain ⟨n, rfl, _⟩ := DataW.trod_bool ht h
  exact ⟨n, rfl, trivial⟩⟩
theorem Opens.slice {α : Type} {P : Program} {t e : TypeId} {d : Kd α} {B : α → Prop} (ht : P.underlying t = some (.slice e)) (hc : P.cellsOf e = d.sz) (he : Opens P e d B) :
  Opens P t (Kd.slice e d) (fun xs => xs.length ≤ 9223372036854775807 ∧ ∀ x ∈ xs, B x) := by
 refine ⟨fun {H enc W fuel cs x} h => ?_⟩
 rcases Deep.open_slice ht h with ⟨rfl, _⟩ | ⟨a, len, cap, m, n, D, Pl, rfl, _, hl, hm, hmm, _, hx⟩
 ·exact ⟨[], ⟨none, 0, rfl, Nat.le_refl _, Kd.C_nil _ _⟩, by simp, by simp⟩
 have hm' : cap ≤ 9223372036854775807 := by unfold maxLen at hm; exact hm
 have hme : m = cap := by simpa using hmm
 have hel : ∀ i, i < len → ∃ y : α, (∃ cs', W.cells? 0 (a.add (i * P.cellsOf e)) (P.cellsOf e) = some cs' ∧ d.K W y cs') ∧ B y := by
  intro i hi
  obtain ⟨cs', h1, h2⟩ := hx i (by omega)
  obtain ⟨y, hy, hB⟩ := he.run h2
  exact ⟨y, ⟨cs', h1, hy⟩, hB⟩
 rcases Nat.eq_zero_or_pos len with h0 | h0
 ·subst h0
  exact ⟨[], ⟨some a, cap, rfl, Nat.zero_le _, rfl, Nat.zero_le _, fun hp => absurd hp (Nat.lt_irrefl 0)⟩, by simp, by simp⟩
 have : Inhabited α := ⟨Classical.choose (hel 0 h0)⟩
 obtain ⟨f, hf⟩ := Deep.choose_lt (p := fun i y => (∃ cs', W.cells? 0 (a.add (i * P.cellsOf e)) (P.cellsOf e) = some cs' ∧ d.K W y cs') ∧ B y) hel
 have hlen : ((List.range len).map f).length = len := by simp
 refine ⟨(List.range len).map f, ⟨some a, cap, by rw [hlen], by rw [hlen]; exact hl, hlen ▸ rfl, by rw [hlen]; omega, fun _ => ⟨a, rfl, ?_⟩⟩, by rw [hlen]; omega, ?_⟩
 ·intro j p hj
  have hjl : j < len := by
   have := (List.getElem?_eq_some_iff.1 hj).1
   rwa [hlen] at this
  have hp : p = f j := by
   rw [List.getElem?_map, List.getElem?_range hjl] at hj
   exact (zsi hj).symm
  subst hp
  obtain ⟨⟨cs', h1, h2⟩, _⟩ := hf j hjl
  obtain ⟨_, h3, h4⟩ := World.cells?_some h1
  rw [hc] at h3 h4
  refine ⟨cs', h3, h2, fun i u hu => ?_⟩
  have hi : i < d.sz := by
   have := (List.getElem?_eq_some_iff.1 hu).1
   omega
  rw [← Deep.add_add]
  exact (h4 i hi).trans hu
 intro y hy
 obtain ⟨i, hi, rfl⟩ := List.mem_map.1 hy
 exact (hf i (List.mem_range.1 hi)).2
structure OpensF {α : Type} (P : Program) (fs : List Field) (off tot : Nat) (d : Kd α) (B : α → Prop) : Prop where
 run : ∀ {H : Type} {enc : TypeId × Value → H} {W : World} {n : Nat} {cs : List Value}, cs.length = tot → (∀ (i : Nat) (f : Field), fs[i]? = some f → ∃ y, DataW.trod enc P W 0 (fun _ => true) true n f.type ((cs.drop f.offset).take (P.cellsOf f.type)) = some y) → ∃ a : α, d.K W a (cs.drop off) ∧ B a
theorem OpensF.last {α : Type} {P : Program} {f : Field} {off tot : Nat} {d : Kd α} {B : α → Prop} (ho : f.offset = off) (ht : off + P.cellsOf f.type = tot) (h : Opens P f.type d B) : OpensF P [f] off tot d B := by
 refine ⟨fun {H enc W n cs} hl hy => ?_⟩
 obtain ⟨y, hy⟩ := hy 0 f rfl
 obtain ⟨a, ha, hB⟩ := h.run hy
 rw [ho, List.take_of_length_le (by rw [zld]; omega)] at ha
 exact ⟨a, ha, hB⟩
theorem OpensF.cons {α β : Type} {P : Program} {f : Field} {fs : List Field} {off tot : Nat} {d1 : Kd α} {d2 : Kd β} {B1 : α → Prop} {B2 : β → Prop} (ho : f.offset = off) (hs : P.cellsOf f.type = d1.sz) (h : Opens P f.type d1 B1) (hr : OpensF P fs (off + d1.sz) tot d2 B2) :
  OpensF P (f :: fs) off tot (Kd.pair d1 d2) (fun x => B1 x.1 ∧ B2 x.2) := by
 refine ⟨fun {H enc W n cs} hl hy => ?_⟩
 obtain ⟨y, hy0⟩ := hy 0 f rfl
 obtain ⟨a, ha, hB⟩ := h.run hy0
 obtain ⟨b, hb, hB2⟩ := hr.run hl (fun i g hg => hy (i + 1) g hg)
 rw [ho, hs] at ha
 refine ⟨(a, b), ⟨(cs.drop off).take d1.sz, cs.drop (off + d1.sz), ?_, ha, hb⟩, hB, hB2⟩
 rw [← List.drop_drop, List.take_append_drop]
theorem Opens.struct {α β : Type} {P : Program} {t : TypeId} {fs : Array Field} {d : Kd α} {B : α → Prop} (ht : P.underlying t = some (.struct fs)) (f : β → α) (g : α → β) (hg : ∀ a, f (g a) = a) (hF : OpensF P fs.toList 0 (P.cellsOf t) d B) : Opens P t (Kd.iso d f) (fun x => B (f x)) := by
 refine ⟨fun {H enc W fuel cs x} h => ?_⟩
 obtain ⟨xs, n, _, _, hl, hlen, hf⟩ := DataW.trod_struct ht h
 obtain ⟨a, ha, hB⟩ := hF.run (n := n) hl (fun i fl hfl => by
  have hfl' : fs[i]? = some fl := by simpa using hfl
  have hi : i < fs.size := (Array.getElem?_eq_some_iff.1 hfl').1
  exact ⟨xs[i]'(by omega), (hf i fl hfl').trans (List.getElem?_eq_getElem (by omega))⟩)
 refine ⟨g a, ?_, ?_⟩
 ·show d.K W (f (g a)) cs
  rw [hg]
  simpa using ha
 show B (f (g a))
 rw [hg]
 exact hB
theorem cells_agg {v : Value} {l : List Value} (h : v.cells.toList = l) (hl : 2 ≤ l.length) : v = .agg l.toArray := by
 subst h
 cases v <;> simp [Value.cells] at hl ⊢
end Go.Proofs.Ytebcmhajbjkojaa.P
namespace Go.Proofs.Ytebcmhajbjkojaa.P
open Go.RowKit Go.Proofs.YtebcmhajbjkojaaW.PrintWords Go.Proofs.YtebcmhajbjkojaaW.PrintLast Go.Proofs.YtebcmhajbjkojaaW.PrintMore
namespace mooringFound
open Go.ChangeShapes Go.WideShapes Go.ChangeAt
set_option linter.unusedVariables false
set_option linter.unusedSimpArgs false
def B72 (x : S72) : Prop := (fun n : Int => (Lit.int .i64 n).wf = true) x.f0 ∧ (fun n : Int => (Lit.int .i64 n).wf = true) x.f1
theorem opens72 : Opens Try.prog 72 k72 B72 := Opens.struct (fs := _) Try.underlying72 (fun x : S72 => (x.f0, x.f1)) (fun t => ⟨t.1, t.2⟩) (fun _ => rfl) (OpensF.cons rfl (by kernel_rfl) (Opens.int Try.underlying3) (OpensF.last rfl (by kernel_rfl) (Opens.int Try.underlying3)))
def B57 (x : S57) : Prop := (fun n : Int => (Lit.int .i64 n).wf = true) x.f0 ∧ (fun n : Int => (Lit.int .i64 n).wf = true) x.f1
theorem opens57 : Opens Try.prog 57 k57 B57 := Opens.struct (fs := _) Try.underlying57 (fun x : S57 => (x.f0, x.f1)) (fun t => ⟨t.1, t.2⟩) (fun _ => rfl) (OpensF.cons rfl (by kernel_rfl) (Opens.int Try.underlying2) (OpensF.last rfl (by kernel_rfl) (Opens.int Try.underlying2)))
def B79 (x : S79) : Prop := B57 x.f0 ∧ B57 x.f1 ∧ (fun xs : List Int => xs.length ≤ 9223372036854775807 ∧ ∀ x ∈ xs, (fun n : Int => (Lit.int .i64 n).wf = true) x) x.f2
theorem opens79 : Opens Try.prog 79 k79 B79 := Opens.struct (fs := _) Try.underlying79 (fun x : S79 => (x.f0, x.f1, x.f2)) (fun t => ⟨t.1, t.2.1, t.2.2⟩) (fun _ => rfl) (OpensF.cons rfl (by kernel_rfl) opens57 (OpensF.cons rfl (by kernel_rfl) opens57 (OpensF.last rfl (by kernel_rfl) (Opens.slice Try.underlying22 (by kernel_rfl) (Opens.int Try.underlying3)))))
def Pure : Prop := ∀ (x0 : S72) (x1 : (List Int)) (x2 : (List S79)) (x3 : Int) (x4 : Int), B72 x0 → (fun xs : List Int => xs.length ≤ 9223372036854775807 ∧ ∀ x ∈ xs, (fun n : Int => (Lit.int .i64 n).wf = true) x) x1 → (fun xs : List S79 => xs.length ≤ 9223372036854775807 ∧ ∀ x ∈ xs, B79 x) x2 → (fun n : Int => (Lit.int .u16 n).wf = true) x3 → (fun n : Int => (Lit.int .u16 n).wf = true) x4 → ∃ k, isobathlaw02_MooringFound.f k x0.f0 x0.f1 x1 x2 x3 x4 = some true
theorem own : ownKnob Try.prog.godebug = none := by kernel_rfl
theorem laidOut : laidOutB Try.prog = true := by kernel_rfl
set_option maxRecDepth 100000 in
theorem lifted (hP : Pure) (os : Os) (started : os.Started) (H : Type) (enc : TypeId × Value → H) :
  ReturnsInHanded {} Try.checked os 13 .any (Rows.mooringFoundSpec.pre6 enc Try.prog Try.f13 Rows.mooringFoundRow.domain false) (Rows.mooringFoundSpec.post enc Try.prog Try.f13 false true false false) := by
 refine returnsInHanded_of_change_sized (C := Try.checked) own started (by kernel_rfl) Try.func13
  (ChangeSpec.witness6 (enc := enc) (C := Try.checked) false ⟨#[], #[.agg #[.int .i64 0, .int .i64 0], .slice none 0 0, .slice none 0 0, .int .u16 0, .int .u16 0], []⟩ 8 (by kernel_rfl) (by kernel_rfl) (by kernel_rfl) (by kernel_rfl)) ?_
 intro W base args ds gs before hval0 hW hcnd hsz0 _
 have hval : ∀ (j : Nat) t v, Try.f13.params[j]? = some t → args[j]? = some v → Value.okWide Try.prog W .any base t v := hval0
 have hW' := hW
 obtain ⟨p, q, hA0, hV, rfl, hfz, hnd⟩ := hW
 have hA : DataW.TrodAll enc Try.prog W 0 (fun _ => true) true Try.f13.params.toList args.toList ds p := hA0
 rw [Try.params13] at hA hval
 obtain ⟨v0, vs0, d0, ds0, p0, q0, hargs, rfl, rfl, h0, r0⟩ := trodAll_cons hA
 obtain ⟨v1, vs1, d1, ds1, p1, q1, rfl, rfl, rfl, h1, r1⟩ := trodAll_cons r0
 obtain ⟨v2, vs2, d2, ds2, p2, q2, rfl, rfl, rfl, h2, r2⟩ := trodAll_cons r1
 obtain ⟨v3, vs3, d3, ds3, p3, q3, rfl, rfl, rfl, h3, r3⟩ := trodAll_cons r2
 obtain ⟨v4, vs4, d4, ds4, p4, q4, rfl, rfl, rfl, h4, r4⟩ := trodAll_cons r3
 obtain ⟨rfl, rfl, rfl⟩ := trodAll_nil r4
 obtain rfl : args = #[v0, v1, v2, v3, v4] := by cases args; simp_all
 obtain ⟨rfl, rfl⟩ := trodVars_none hV
 have k0 := h0
 have lt0 : ∀ x ∈ p0, x.block < W.heap.size := by obtain ⟨m, hm⟩ := k0; exact DataW.trod_lt m _ _ _ hm
 obtain ⟨m0, hm0⟩ := h0
 obtain ⟨x0, hk0, w0⟩ := Opens.run opens72 hm0
 have hcs0 := k72_open hk0
 obtain rfl := cells_agg hcs0 (by simp)
 have k1 := h1
 have lt1 : ∀ x ∈ p1, x.block < W.heap.size := by obtain ⟨m, hm⟩ := k1; exact DataW.trod_lt m _ _ _ hm
 obtain ⟨m1, hm1⟩ := h1
 obtain ⟨x1, hk1, w1⟩ := Opens.run (Opens.slice Try.underlying22 (by kernel_rfl) (Opens.int Try.underlying3)) hm1
 obtain ⟨a1, len1, cap1, rfl⟩ := okWide_slice Try.underlying22 (hval 1 22 v1 rfl rfl)
 obtain ⟨A1, c1, hcs1, hc1, hr1⟩ := hk1
 simp [Value.cells] at hcs1
 obtain ⟨rfl, rfl, rfl⟩ := hcs1
 have k2 := h2
 have lt2 : ∀ x ∈ p2, x.block < W.heap.size := by obtain ⟨m, hm⟩ := k2; exact DataW.trod_lt m _ _ _ hm
 obtain ⟨m2, hm2⟩ := h2
 obtain ⟨x2, hk2, w2⟩ := Opens.run (Opens.slice Try.underlying73 (by kernel_rfl) opens79) hm2
 obtain ⟨a2, len2, cap2, rfl⟩ := okWide_slice Try.underlying73 (hval 2 73 v2 rfl rfl)
 obtain ⟨A2, c2, hcs2, hc2, hr2⟩ := hk2
 simp [Value.cells] at hcs2
 obtain ⟨rfl, rfl, rfl⟩ := hcs2
 obtain ⟨x3, rfl, rfl, rfl, w3⟩ := open_int Try.underlying32 (hval 3 32 v3 rfl rfl) h3
 obtain ⟨x4, rfl, rfl, rfl, w4⟩ := open_int Try.underlying32 (hval 4 32 v4 rfl rfl) h4
 clear hA0 hval0 hsz0
 obtain ⟨k, hf⟩ := hP x0 x1 x2 x3 x4 w0 w1 w2 w3 w4
 refine (isobathlaw02_MooringFound.calls (k := k) (a0_0 := x0.f0) (a0_1 := x0.f1) (A1 := a1) (c1 := cap1) (l1 := x1) (P2_ := (fun k_ => k_ < W.heap.size)) (A2 := a2) (c2 := cap2) (l2 := x2) (a3 := x3) (a4 := x4) (r := true) (w := W) (hr1 := hr1) (hc1 := hc1) (hs2 := (Kd.V_mk hc2 (Kd.C_F k79_heap hr2))) (h := hf)).mono fun e W' ⟨he, hd⟩ => ?_
 have bel : Below W.heap.size W W' := by first | exact hd | (obtain ⟨m, rfl⟩ := hd; exact zbn (Below.refl _ _) m)
 subst he
 exact ⟨_, rfl, _, _, _, [], _, [], hW', trodAll_mk1 (shut_bool Try.underlying4 _), (trodAll_cons_mk (Below.trod laidOut (by kernel_rfl) (zod (by kernel_rfl)) k0 bel lt0) (trodAll_cons_mk (Below.trod laidOut (by kernel_rfl) (zod (by kernel_rfl)) k1 bel lt1) (trodAll_cons_mk (Below.trod laidOut (by kernel_rfl) (zod (by kernel_rfl)) k2 bel lt2) (trodAll_cons_mk (shut_int Try.underlying32 w3) (trodAll_cons_mk (shut_int Try.underlying32 w4) trodAll_mk0))))), rfl, bel.frame _, fun h => by cases h⟩
theorem over (hP : Pure) : Rows.mooringFoundRow.holds Try.pinned (OpenSpec.ofChange Rows.mooringFoundSpec) :=
 OpenClaim.holds_of_wide 13 Try.f13 rfl rfl rfl rfl rfl rfl rfl ⟨rfl, rfl, rfl, rfl, rfl⟩ rfl rfl rfl rfl rfl (by kernel_rfl) Try.func13 (by kernel_rfl)
  (zod (by kernel_rfl)) (by unfold Func.isWrapper; first | (rw [if_pos (by decide +kernel)]; kernel_rfl) | (rw [if_neg (by decide +kernel)]; exact ⟨rfl, rfl⟩))
  (fun os started H enc _ => lifted hP os started H enc)
theorem proved (hP : Pure) : Rows.MooringFoundSaid := over hP
end mooringFound
end Go.Proofs.Ytebcmhajbjkojaa.P
namespace Go.Proofs.Ytebcmhajbjkojaa.P
open Go.RowKit Go.Proofs.YtebcmhajbjkojaaW.PrintWords Go.Proofs.YtebcmhajbjkojaaW.PrintLast Go.Proofs.YtebcmhajbjkojaaW.PrintMore
attribute [local go_sem] max2_int min2_int max_two min_two max_three min_three max_four min_four   -- for this text's walks alone
set_option linter.unusedVariables false
set_option linter.unusedSimpArgs false
theorem Law2.fine60 : isobathlaw02_fine.f 60 = some true := by kernel_rfl
theorem Law2.fine {k : Nat} (hk : 60 ≤ k) : isobathlaw02_fine.f k = some true := LeO.up (fun k => isobathlaw02_fine.mono k) hk Law2.fine60
theorem Srch.mark_length (mk : List Bool) (x : Int) : (Srch.mark mk x).length = mk.length := by
 unfold Srch.mark
 split
 ·rfl
 rw [List.length_set]
theorem Srch.marks_length (xs : List Int) : ∀ mk : List Bool, (Srch.marks mk xs).length = mk.length := by
 induction xs with
 | nil => intro mk; rfl
 | cons x xs ih => intro mk; exact (ih _).trans (Srch.mark_length mk x)
theorem Srch.marks_cons (mk : List Bool) (x : Int) (xs : List Int) : Srch.marks mk (x :: xs) = Srch.marks (Srch.mark mk x) xs := rfl
theorem Srch.marks_append (mk : List Bool) (xs ys : List Int) : Srch.marks mk (xs ++ ys) = Srch.marks (Srch.marks mk xs) ys := List.foldl_append
theorem Srch.out_cons (x : Int) (xs : List Int) : Srch.out (x :: xs) = (decide (x < 0) || Srch.out xs) := rfl
theorem Srch.out_append (xs ys : List Int) : Srch.out (xs ++ ys) = (Srch.out xs || Srch.out ys) := List.any_append
theorem Srch.unmark_cons (mk : List Bool) (x : Int) (xs : List Int) : Srch.unmark mk (x :: xs) = Srch.unmark (mk.set x.toNat false) xs := rfl
theorem Srch.unmark_length (xs : List Int) : ∀ mk : List Bool, (Srch.unmark mk xs).length = mk.length := by
 induction xs with
 | nil => intro mk; rfl
 | cons x xs ih => intro mk; exact (ih _).trans List.length_set
theorem Srch.hourMk_cons (wd hg e0 e1 n0 n1 : Int) (mk : List Bool) (c : Int) (xs : List Int) : Srch.hourMk wd hg e0 e1 n0 n1 mk (c :: xs) = Srch.hourMk wd hg e0 e1 n0 n1 (Srch.marks mk (Srch.reach wd hg c e0 e1 n0 n1)) xs := rfl
theorem Srch.hourLf_cons (wd hg e0 e1 n0 n1 : Int) (c : Int) (xs : List Int) : Srch.hourLf wd hg e0 e1 n0 n1 (c :: xs) = (Srch.out (Srch.reach wd hg c e0 e1 n0 n1) || Srch.hourLf wd hg e0 e1 n0 n1 xs) := rfl
theorem Srch.hourMk_length (wd hg e0 e1 n0 n1 : Int) (xs : List Int) : ∀ mk : List Bool, (Srch.hourMk wd hg e0 e1 n0 n1 mk xs).length = mk.length := by
 induction xs with
 | nil => intro mk; rfl
 | cons x xs ih => intro mk; exact (ih _).trans (Srch.marks_length _ _)
def Srch.colR (wd hg c x : Int) : Nat → Int → List Int
 | 0, _ => []
 | r + 1, y => Srch.to wd hg c x y :: Srch.colR wd hg c x r (y + 1)
theorem Srch.col_colR (wd hg c x : Int) : ∀ (r : Nat) (y : Int), Srch.col wd hg c x y r = Srch.colR wd hg c x r y
 | 0, y => rfl
 | r + 1, y => by
  rw [Srch.colR, ← Srch.col_colR wd hg c x r (y + 1)]
  unfold Srch.col
  rw [List.range_succ_eq_map, List.map_cons, List.map_map]
  congr 1
  ·congr 1
   simp
  apply List.map_congr_left
  intro k _
  show Srch.to wd hg c x (y + ((k + 1 : Nat) : Int)) = Srch.to wd hg c x (y + 1 + (k : Int))
  congr 1
  omega
def Srch.colsR (wd hg c n0 : Int) (m : Nat) : Nat → Int → List Int
 | 0, _ => []
 | r + 1, x => Srch.colR wd hg c x m n0 ++ Srch.colsR wd hg c n0 m r (x + 1)
theorem Srch.colsR_snoc (wd hg c n0 : Int) (m : Nat) : ∀ (r : Nat) (x : Int), Srch.colsR wd hg c n0 m (r + 1) x = Srch.colsR wd hg c n0 m r x ++ Srch.colR wd hg c (x + (r : Int)) m n0
 | 0, x => by simp [Srch.colsR]
 | r + 1, x => by
  rw [Srch.colsR, Srch.colsR_snoc wd hg c n0 m r (x + 1), Srch.colsR, List.append_assoc]
  congr 2
  congr 1
  omega
theorem Srch.cols_colsR (wd hg c e0 n0 : Int) (m : Nat) : ∀ i : Nat, Srch.cols wd hg c e0 n0 m i = Srch.colsR wd hg c n0 m i e0
 | 0 => rfl
 | i + 1 => by rw [Srch.cols, Srch.colsR_snoc, Srch.cols_colsR wd hg c e0 n0 m i, Srch.col_colR]
theorem Srch.reach_colsR (wd hg c e0 e1 n0 n1 : Int) : Srch.reach wd hg c e0 e1 n0 n1 = Srch.colsR wd hg c n0 (Srch.many n0 n1) (Srch.many e0 e1) e0 := Srch.cols_colsR _ _ _ _ _ _ _
def Srch.from_ (mk : List Bool) : Nat → Nat → List Int
 | 0, _ => []
 | r + 1, j => if mk[j]?.getD false = true then (j : Int) :: Srch.from_ mk r (j + 1) else Srch.from_ mk r (j + 1)
theorem Srch.from_snoc (mk : List Bool) : ∀ (r j : Nat), Srch.from_ mk (r + 1) j = Srch.from_ mk r j ++ (if mk[j + r]?.getD false = true then [((j + r : Nat) : Int)] else [])
 | 0, j => by simp [Srch.from_]
 | r + 1, j => by
  rw [Srch.from_, Srch.from_snoc mk r (j + 1), Srch.from_, show j + 1 + r = j + (r + 1) by omega]
  by_cases q : mk[j]?.getD false = true
  ·rw [if_pos q, if_pos q]
   rfl
  rw [if_neg q, if_neg q]
theorem Srch.list_from (mk : List Bool) : ∀ j : Nat, Srch.list mk j = Srch.from_ mk j 0
 | 0 => rfl
 | j + 1 => by
  rw [Srch.from_snoc, ← Srch.list_from mk j, Nat.zero_add]
  by_cases q : mk[j]?.getD false = true
  ·rw [if_pos q, Srch.list_hit q]
  rw [if_neg q, Srch.list_miss (by simpa using q), List.append_nil]
theorem Srch.from_range (mk : List Bool) : ∀ (r j : Nat), ∀ x ∈ Srch.from_ mk r j, (j : Int) ≤ x ∧ x < (j : Int) + (r : Int)
 | 0, j, x, h => by cases h
 | r + 1, j, x, h => by
  rw [Srch.from_] at h
  by_cases q : mk[j]?.getD false = true
  ·rw [if_pos q] at h
   rcases List.mem_cons.1 h with rfl | h
   ·omega
   have := Srch.from_range mk r (j + 1) x h
   omega
  rw [if_neg q] at h
  have := Srch.from_range mk r (j + 1) x h
  omega
section
variable {wd hg e0 e1 n0 n1 : Int} {se : List Int}
theorem Srch.ref_l3 (x9 : Bool) (hse : ∀ x ∈ se, 0 ≤ x ∧ x < wd * hg) : ∀ (r i : Nat) (x8 : List Bool) (k : Nat), i + r = se.length → (x8.length : Int) = wd * hg → se.length ≤ 1000000 →
  isobathref02_Drift.l3 (k + r + 1) x8 x9 (i : Int) e0 e1 n0 n1 se = some (Srch.unmark x8 (se.drop i), x9)
 | 0, i, x8, k, hi, _, _ => by
  rw [isobathref02_Drift.l3, if_neg (by omega), List.drop_eq_nil_of_le (by omega)]
  rfl
 | r + 1, i, x8, k, hi, h8, hs => by
  have hlt : i < se.length := by omega
  have hx := hse _ (List.getElem_mem hlt)
  rw [show k + (r + 1) + 1 = (k + r + 1) + 1 by omega, isobathref02_Drift.l3, if_pos (by omega), if_pos (by omega), rd_nat hlt, if_pos hx.1, if_pos (by omega), wrap_succ hlt (by omega),
   Srch.ref_l3 x9 hse r (i + 1) _ k (by omega) (by rw [List.length_set]; exact h8) hs, drop_cons hlt, Srch.unmark_cons]
theorem Srch.area_le (hw0 : 1 ≤ wd) (hw1 : wd ≤ 24) (hh0 : 1 ≤ hg) (hh1 : hg ≤ 24) : wd * hg ≤ 576 := by
 have : wd * hg ≤ 24 * 24 := Int.mul_le_mul hw1 hh1 (by omega) (by omega)
 omega
theorem Srch.ref_l2 (hw0 : 1 ≤ wd) (hw1 : wd ≤ 24) (hh0 : 1 ≤ hg) (hh1 : hg ≤ 24) {c : Int} (hc0 : 0 ≤ c) (hc1 : c < wd * hg) (x1 : List Bool) {x : Int} (hx0 : -4 ≤ x) (hx1 : x ≤ 4) (hn0 : -4 ≤ n0) (hn1 : n1 ≤ 4) : ∀ (r : Nat) (y : Int) (x8 : List Bool) (x9 : Bool) (k : Nat), -4 ≤ y → y + (r : Int) = n1 + 1 → (x8.length : Int) = wd * hg →
  isobathref02_Drift.l2 (k + r + 1) x1 x8 x9 c x y wd hg e0 e1 n0 n1 se = isobathref02_Drift.l1 k x1 (Srch.marks x8 (Srch.colR wd hg c x r y)) (x9 || Srch.out (Srch.colR wd hg c x r y)) c (wrap64 (x + 1)) wd hg e0 e1 n0 n1 se
 | 0, y, x8, x9, k, hy, hr, _ => by
  rw [isobathref02_Drift.l2, if_neg (by omega)]
  show _ = isobathref02_Drift.l1 k x1 x8 (x9 || false) c (wrap64 (x + 1)) wd hg e0 e1 n0 n1 se
  rw [Bool.or_false]
 | r + 1, y, x8, x9, k, hy, hr, h8 => by
  have hA := Srch.area_le hw0 hw1 hh0 hh1
  have b1 := Int.emod_nonneg c (show wd ≠ 0 by omega)
  have b2 := Int.emod_lt_of_pos c (show 0 < wd by omega)
  have b3 : 0 ≤ c / wd := Int.ediv_nonneg hc0 (by omega)
  have b4 : c / wd ≤ c := Int.ediv_le_self _ hc0
  have w1 : wrap64 (c.tdiv wd) = c / wd := by rw [Int.tdiv_eq_ediv_of_nonneg hc0, wrap_id (by omega) (by omega)]
  have w2 : wrap64 (c.tmod wd + x) = c % wd + x := by rw [Int.tmod_eq_emod_of_nonneg hc0, wrap_id (by omega) (by omega)]
  have w3 : wrap64 (c / wd + y) = c / wd + y := by rw [wrap_id (by omega) (by omega)]
  have w4 : wrap64 (y + 1) = y + 1 := wrap_id (by omega) (by omega)
  have ih := fun x8' x9' h => Srch.ref_l2 hw0 hw1 hh0 hh1 hc0 hc1 x1 hx0 hx1 hn0 hn1 r (y + 1) x8' x9' k (by omega) (by omega) h
  rw [show k + (r + 1) + 1 = (k + r + 1) + 1 by omega, isobathref02_Drift.l2, if_pos (show y ≤ n1 by omega), if_neg (show ¬ wd = 0 by omega), w1, w2, w3, w4, Srch.colR, Srch.marks_cons, Srch.out_cons, ← Bool.or_assoc]
  obtain ⟨X, hX⟩ : ∃ X, c % wd + x = X := ⟨_, rfl⟩
  obtain ⟨Y, hY⟩ : ∃ Y, c / wd + y = Y := ⟨_, rfl⟩
  have hto : Srch.to wd hg c x y = if X < 0 ∨ Y < 0 ∨ wd ≤ X ∨ hg ≤ Y then -1 else Y * wd + X := by
   unfold Srch.to
   rw [hX, hY]
  rw [hX, hY]
  by_cases q : X < 0 ∨ Y < 0 ∨ wd ≤ X ∨ hg ≤ Y
  ·rw [hto, if_pos q]
   have e1 : Srch.mark x8 (-1) = x8 := rfl
   have e2 : (x9 || decide ((-1 : Int) < 0)) = true := by simp
   rw [e1, e2]
   have hi := ih x8 true h8
   by_cases q1 : X < 0
   ·rw [if_pos q1, hi]
   rw [if_neg q1]
   by_cases q2 : X ≥ wd
   ·rw [if_pos q2, hi]
   rw [if_neg q2]
   by_cases q3 : Y < 0
   ·rw [if_pos q3, hi]
   rw [if_neg q3, if_pos (by omega), hi]
  have p1 : ¬ X < 0 := fun h => q (.inl h)
  have p2 : ¬ X ≥ wd := fun h => q (.inr (.inr (.inl h)))
  have p3 : ¬ Y < 0 := fun h => q (.inr (.inl h))
  have p4 : ¬ Y ≥ hg := fun h => q (.inr (.inr (.inr h)))
  have m1 : 0 ≤ Y * wd := Int.mul_nonneg (by omega) (by omega)
  have m2 : Y * wd ≤ (hg - 1) * wd := Int.mul_le_mul_of_nonneg_right (by omega) (by omega)
  rw [Int.sub_mul, Int.one_mul, Int.mul_comm hg wd] at m2
  have w5 : wrap64 (Y * wd) = Y * wd := wrap_id (by omega) (by omega)
  have w6 : wrap64 (Y * wd + X) = Y * wd + X := wrap_id (by omega) (by omega)
  rw [hto, if_neg q, if_neg p1, if_neg p2, if_neg p3, if_neg p4, w5, w6, if_pos (by omega), if_pos (by omega)]
  have e1 : Srch.mark x8 (Y * wd + X) = x8.set (Y * wd + X).toNat true := by
   unfold Srch.mark
   rw [if_neg (by omega)]
  have e2 : (x9 || decide (Y * wd + X < 0)) = x9 := by
   rw [zdf (by omega), Bool.or_false]
  rw [e1, e2]
  exact ih _ x9 (by rw [List.length_set]; exact h8)
theorem Srch.ref_l1 (hw0 : 1 ≤ wd) (hw1 : wd ≤ 24) (hh0 : 1 ≤ hg) (hh1 : hg ≤ 24) {c : Nat} (hc1 : (c : Int) < wd * hg) {x1 : List Bool} (h1 : (x1.length : Int) = wd * hg) (hon : rdOf false x1 (c : Int) = true) (he0 : -4 ≤ e0) (he1 : e1 ≤ 4) (hn0 : -4 ≤ n0) (hn01 : n0 ≤ n1) (hn1 : n1 ≤ 4) : ∀ (r : Nat) (x : Int) (x8 : List Bool) (x9 : Bool) (k : Nat), -4 ≤ x → x + (r : Int) = e1 + 1 → (x8.length : Int) = wd * hg →
  isobathref02_Drift.l1 (k + r * (Srch.many n0 n1 + 3) + 2) x1 x8 x9 (c : Int) x wd hg e0 e1 n0 n1 se = isobathref02_Drift.l0 k x1 (Srch.marks x8 (Srch.colsR wd hg c n0 (Srch.many n0 n1) r x)) (x9 || Srch.out (Srch.colsR wd hg c n0 (Srch.many n0 n1) r x)) ((c + 1 : Nat) : Int) wd hg e0 e1 n0 n1 se
 | 0, x, x8, x9, k, hx, hr, _ => by
  have hA := Srch.area_le hw0 hw1 hh0 hh1
  rw [show k + 0 * (Srch.many n0 n1 + 3) + 2 = k + 1 + 1 by omega, isobathref02_Drift.l1, if_neg (by omega), isobathref02_Drift.j2, if_neg (by decide), wrap_id (by omega) (by omega)]
  show _ = isobathref02_Drift.l0 k x1 x8 (x9 || false) ((c + 1 : Nat) : Int) wd hg e0 e1 n0 n1 se
  rw [Bool.or_false]
  rfl
 | r + 1, x, x8, x9, k, hx, hr, h8 => by
  have hA := Srch.area_le hw0 hw1 hh0 hh1
  have hm : n0 + (Srch.many n0 n1 : Int) = n1 + 1 := by unfold Srch.many; omega
  obtain ⟨M, hM⟩ : ∃ M, Srch.many n0 n1 = M := ⟨_, rfl⟩
  have ih := fun x8' x9' h => Srch.ref_l1 hw0 hw1 hh0 hh1 hc1 h1 hon he0 he1 hn0 hn01 hn1 r (x + 1) x8' x9' k (by omega) (by omega) h
  rw [hM] at hm ih ⊢
  rw [Nat.succ_mul, show k + (r * (M + 3) + (M + 3)) + 2 = ((k + r * (M + 3) + 2) + M + 1) + 1 + 1 by omega, isobathref02_Drift.l1, if_pos (show x ≤ e1 by omega), if_pos (Int.natCast_nonneg _), if_pos (by omega), hon, isobathref02_Drift.j2, if_pos rfl,
   Srch.ref_l2 hw0 hw1 hh0 hh1 (Int.natCast_nonneg c) hc1 x1 hx (by omega) hn0 hn1 M n0 x8 x9 _ hn0 hm h8, wrap_id (by omega) (by omega), ih _ _ (by rw [Srch.marks_length]; exact h8), Srch.colsR, Srch.marks_append, Srch.out_append, Bool.or_assoc]
theorem Srch.ref_l0 (hw0 : 1 ≤ wd) (hw1 : wd ≤ 24) (hh0 : 1 ≤ hg) (hh1 : hg ≤ 24) {x1 : List Bool} (h1 : (x1.length : Int) = wd * hg) (he0 : -4 ≤ e0) (he01 : e0 ≤ e1) (he1 : e1 ≤ 4) (hn0 : -4 ≤ n0) (hn01 : n0 ≤ n1) (hn1 : n1 ≤ 4) (hse : ∀ x ∈ se, 0 ≤ x ∧ x < wd * hg) (hS : se.length ≤ 1000) : ∀ (r c : Nat) (x8 : List Bool) (x9 : Bool) (k : Nat), c + r = x1.length → (x8.length : Int) = wd * hg → r * 120 + 1100 ≤ k →
  isobathref02_Drift.l0 k x1 x8 x9 (c : Int) wd hg e0 e1 n0 n1 se = some (Srch.unmark (Srch.hourMk wd hg e0 e1 n0 n1 x8 (Srch.from_ x1 r c)) se, x9 || Srch.hourLf wd hg e0 e1 n0 n1 (Srch.from_ x1 r c))
 | 0, c, x8, x9, k, hc, h8, hk => by
  obtain ⟨k, rfl⟩ : ∃ k', k = (k' + se.length + 1) + 1 := ⟨k - se.length - 2, by omega⟩
  rw [isobathref02_Drift.l0, if_neg (by omega)]
  have h := Srch.ref_l3 (e0 := e0) (e1 := e1) (n0 := n0) (n1 := n1) x9 hse se.length 0 x8 k (by omega) h8 (by omega)
  rw [show ((0 : Nat) : Int) = 0 from rfl, List.drop_zero] at h
  rw [h]
  show _ = some (Srch.unmark x8 se, x9 || false)
  rw [Bool.or_false]
 | r + 1, c, x8, x9, k, hc, h8, hk => by
  have hA := Srch.area_le hw0 hw1 hh0 hh1
  have hlt : c < x1.length := by omega
  have hrd : rdOf false x1 (c : Int) = x1[c]?.getD false := by
   unfold rdOf
   rw [Int.toNat_natCast, List.getD_eq_getElem?_getD]
  have hM : Srch.many n0 n1 ≤ 9 := by unfold Srch.many; omega
  have hE : Srch.many e0 e1 ≤ 9 := by unfold Srch.many; omega
  have hEe : e0 + (Srch.many e0 e1 : Int) = e1 + 1 := by unfold Srch.many; omega
  obtain ⟨M, hMM⟩ : ∃ M, Srch.many n0 n1 = M := ⟨_, rfl⟩
  obtain ⟨E, hEE⟩ : ∃ E, Srch.many e0 e1 = E := ⟨_, rfl⟩
  have hEM : E * (M + 3) ≤ 9 * 12 := Nat.mul_le_mul (by omega) (by omega)
  rw [Srch.from_]
  by_cases q : x1[c]?.getD false = true
  ·obtain ⟨k, rfl⟩ : ∃ k', k = (k' + E * (M + 3) + 2) + 1 := ⟨k - E * (M + 3) - 3, by omega⟩
   have h := Srch.ref_l1 (se := se) hw0 hw1 hh0 hh1 (c := c) (by omega) h1 (hrd.trans q) he0 he1 hn0 hn01 hn1 E e0 x8 x9 k he0 (by omega) h8
   rw [hMM] at h
   rw [if_pos q, isobathref02_Drift.l0, if_pos (by omega), h, Srch.ref_l0 hw0 hw1 hh0 hh1 h1 he0 he01 he1 hn0 hn01 hn1 hse hS r (c + 1) _ _ k (by omega) (by rw [Srch.marks_length]; exact h8) (by omega), Srch.hourMk_cons, Srch.hourLf_cons, Srch.reach_colsR, hMM, hEE, Bool.or_assoc]
  have qf : x1[c]?.getD false = false := by simpa using q
  obtain ⟨k, rfl⟩ : ∃ k', k = k' + 1 + 1 + 1 := ⟨k - 3, by omega⟩
  rw [if_neg q, isobathref02_Drift.l0, if_pos (by omega), isobathref02_Drift.l1, if_pos he01, if_pos (Int.natCast_nonneg _), if_pos (by omega), hrd, qf, isobathref02_Drift.j2, if_neg (by decide), wrap_succ hlt (by omega)]
  exact Srch.ref_l0 hw0 hw1 hh0 hh1 h1 he0 he01 he1 hn0 hn01 hn1 hse hS r (c + 1) x8 x9 k (by omega) h8 (by omega)
theorem Srch.ref_drift (hw0 : 1 ≤ wd) (hw1 : wd ≤ 24) (hh0 : 1 ≤ hg) (hh1 : hg ≤ 24) {x1 : List Bool} (h1 : (x1.length : Int) = wd * hg) (he0 : -4 ≤ e0) (he01 : e0 ≤ e1) (he1 : e1 ≤ 4) (hn0 : -4 ≤ n0) (hn01 : n0 ≤ n1) (hn1 : n1 ≤ 4) (hse : ∀ x ∈ se, 0 ≤ x ∧ x < wd * hg) (hS : se.length ≤ 1000) {k : Nat} (hk : 71000 ≤ k) :
  isobathref02_Drift.f k wd hg x1 e0 e1 n0 n1 se = some (Srch.unmark (Srch.hourMk wd hg e0 e1 n0 n1 (List.replicate (wd * hg).toNat false) (Srch.list x1 (wd * hg).toNat)) se, Srch.hourLf wd hg e0 e1 n0 n1 (Srch.list x1 (wd * hg).toNat)) := by
 have hA := Srch.area_le hw0 hw1 hh0 hh1
 have h0 : 0 ≤ wd * hg := Int.mul_nonneg (by omega) (by omega)
 have hw : wrap64 (wd * hg) = wd * hg := wrap_id (by omega) (by omega)
 unfold isobathref02_Drift.f
 rw [hw, if_pos h0, if_pos (by omega)]
 have h := Srch.ref_l0 hw0 hw1 hh0 hh1 h1 he0 he01 he1 hn0 hn01 hn1 hse hS x1.length 0 (List.replicate (wd * hg).toNat false) false k (by omega) (by rw [List.length_replicate]; omega) (by omega)
 rw [show ((0 : Nat) : Int) = 0 from rfl, Bool.false_or, ← Srch.list_from, show x1.length = (wd * hg).toNat by omega] at h
 exact h
end
theorem Srch.ref_numbers_l0 {mk : List Bool} (hm : mk.length ≤ 1000) : ∀ (r j : Nat) (xs : List Int) (k : Nat), j + r = mk.length → xs.length ≤ j → isobathref02_numbers.l0 (k + r + 1) mk xs (j : Int) = some (xs ++ Srch.from_ mk r j)
 | 0, j, xs, k, hj, _ => by
  rw [isobathref02_numbers.l0, if_neg (by omega), Srch.from_, List.append_nil]
 | r + 1, j, xs, k, hj, hx => by
  have hlt : j < mk.length := by omega
  have hrd : rdOf false mk (j : Int) = mk[j]?.getD false := by
   unfold rdOf
   rw [Int.toNat_natCast, List.getD_eq_getElem?_getD]
  rw [show k + (r + 1) + 1 = (k + r + 1) + 1 by omega, isobathref02_numbers.l0, if_pos (by omega), if_pos (Int.natCast_nonneg _), hrd, Srch.from_, wrap_succ hlt (by omega)]
  by_cases q : mk[j]?.getD false = true
  ·rw [if_pos q, if_pos q, if_pos (by omega), Srch.ref_numbers_l0 hm r (j + 1) _ k (by omega) (by rw [List.length_append]; simp; omega), List.append_assoc]
   rfl
  rw [if_neg q, if_neg q, Srch.ref_numbers_l0 hm r (j + 1) _ k (by omega) (by omega)]
theorem Srch.ref_numbers {mk : List Bool} (hm : mk.length ≤ 1000) {k : Nat} (hk : 1100 ≤ k) : isobathref02_numbers.f k mk = some (Srch.list mk mk.length) := by
 obtain ⟨k, rfl⟩ : ∃ k', k = k' + mk.length + 1 := ⟨k - mk.length - 1, by omega⟩
 have h := Srch.ref_numbers_l0 hm mk.length 0 [] k (by omega) (by simp)
 rw [Srch.list_from]
 exact h
theorem Srch.ref_marked_l0 {m : Int} {l : List Int} (hl : ∀ x ∈ l, 0 ≤ x ∧ x < m) (hn : l.length ≤ 1000000) : ∀ (r i : Nat) (mk : List Bool) (k : Nat), i + r = l.length → (mk.length : Int) = m → isobathref02_marked.l0 (k + r + 1) l mk (i : Int) = some (Srch.marks mk (l.drop i))
 | 0, i, mk, k, hi, _ => by
  rw [isobathref02_marked.l0, if_neg (by omega), List.drop_eq_nil_of_le (by omega)]
  rfl
 | r + 1, i, mk, k, hi, hm => by
  have hlt : i < l.length := by omega
  have hx := hl _ (List.getElem_mem hlt)
  have e1 : Srch.mark mk l[i] = mk.set l[i].toNat true := by
   unfold Srch.mark
   rw [if_neg (by omega)]
  rw [show k + (r + 1) + 1 = (k + r + 1) + 1 by omega, isobathref02_marked.l0, if_pos (by omega), if_pos (by omega), rd_nat hlt, if_pos hx.1, if_pos (by omega), wrap_succ hlt (by omega),
   Srch.ref_marked_l0 hl hn r (i + 1) _ k (by omega) (by rw [List.length_set]; exact hm), drop_cons hlt, Srch.marks_cons, e1]
theorem Srch.ref_marked {wd hg : Int} (hw0 : 1 ≤ wd) (hw1 : wd ≤ 24) (hh0 : 1 ≤ hg) (hh1 : hg ≤ 24) {l : List Int} (hl : ∀ x ∈ l, 0 ≤ x ∧ x < wd * hg) (hn : l.length ≤ 1000) {k : Nat} (hk : 1100 ≤ k) : isobathref02_marked.f k wd hg l = some (Srch.marks (List.replicate (wd * hg).toNat false) l) := by
 have hA := Srch.area_le hw0 hw1 hh0 hh1
 have h0 : 0 ≤ wd * hg := Int.mul_nonneg (by omega) (by omega)
 have hw : wrap64 (wd * hg) = wd * hg := wrap_id (by omega) (by omega)
 obtain ⟨k, rfl⟩ : ∃ k', k = k' + l.length + 1 := ⟨k - l.length - 1, by omega⟩
 unfold isobathref02_marked.f
 rw [hw, if_pos h0, if_pos (by omega)]
 have h := Srch.ref_marked_l0 hl (by omega) l.length 0 (List.replicate (wd * hg).toNat false) k (by omega) (by rw [List.length_replicate]; omega)
 rw [show ((0 : Nat) : Int) = 0 from rfl, List.drop_zero] at h
 exact h
theorem Srch.mark_at (mk : List Bool) {x : Int} (hx : 0 ≤ x) {i : Nat} (hi : i < mk.length) : (Srch.mark mk x)[i]?.getD false = (mk[i]?.getD false || decide (x = (i : Int))) := by
 unfold Srch.mark
 rw [if_neg (by omega)]
 by_cases q : x = (i : Int)
 ·have : x.toNat = i := by omega
  subst this
  rw [zdt q, Bool.or_true]
  simp [hi]
 have : x.toNat ≠ i := by omega
 rw [zdf q, Bool.or_false]
 simp [this]
theorem Srch.marks_at : ∀ (l : List Int) (mk : List Bool) (_ : ∀ x ∈ l, 0 ≤ x) {i : Nat} (_ : i < mk.length), (Srch.marks mk l)[i]?.getD false = (mk[i]?.getD false || decide ((i : Int) ∈ l))
 | [], mk, _, i, hi => by
  show mk[i]?.getD false = _
  simp
 | x :: l, mk, h, i, hi => by
  rw [Srch.marks_cons, Srch.marks_at l _ (fun y hy => h y (List.mem_cons_of_mem _ hy)) (by rw [Srch.mark_length]; exact hi), Srch.mark_at mk (h x List.mem_cons_self) hi, Bool.or_assoc]
  congr 1
  by_cases q : x = (i : Int)
  ·rw [zdt q, Bool.true_or, zdt (q ▸ List.mem_cons_self)]
  rw [zdf q, Bool.false_or]
  congr 1
  simp [List.mem_cons, Ne.symm q]
theorem Srch.from_sorted (mk : List Bool) : ∀ (r j : Nat) (xs : List Int), xs.Pairwise (· < ·) → (∀ x ∈ xs, (j : Int) ≤ x ∧ x < (j : Int) + (r : Int)) → (∀ i : Nat, j ≤ i → i < j + r → (mk[i]?.getD false = true ↔ (i : Int) ∈ xs)) → Srch.from_ mk r j = xs
 | 0, j, xs, _, hx, _ => by
  cases xs with
  | nil => rfl
  | cons x xs =>
   have := hx x List.mem_cons_self
   omega
 | r + 1, j, xs, hs, hx, hm => by
  rw [Srch.from_]
  by_cases q : mk[j]?.getD false = true
  ·rw [if_pos q]
   have hj := (hm j (Nat.le_refl _) (by omega)).1 q
   cases xs with
   | nil => cases hj
   | cons x xs =>
    rw [List.pairwise_cons] at hs
    have hxj : x = (j : Int) := by
     rcases List.mem_cons.1 hj with h | h
     ·exact h.symm
     have := hs.1 _ h
     have := (hx x List.mem_cons_self).1
     omega
    rw [hxj]
    congr 1
    refine Srch.from_sorted mk r (j + 1) xs hs.2 (fun y hy => ?_) (fun i h1 h2 => ?_)
    ·have a := hs.1 y hy
     have b := hx y (List.mem_cons_of_mem _ hy)
     omega
    rw [hm i (by omega) (by omega)]
    constructor
    ·intro h
     rcases List.mem_cons.1 h with h | h
     ·omega
     exact h
    exact List.mem_cons_of_mem _
  rw [if_neg q]
  have hj : (j : Int) ∉ xs := fun h => q ((hm j (Nat.le_refl _) (by omega)).2 h)
  refine Srch.from_sorted mk r (j + 1) xs hs (fun y hy => ?_) (fun i h1 h2 => hm i (by omega) (by omega))
  have b := hx y hy
  have : y ≠ (j : Int) := fun e => hj (e ▸ hy)
  omega
theorem Srch.list_marks {m : Nat} {l : List Int} (hs : l.Pairwise (· < ·)) (hl : ∀ x ∈ l, 0 ≤ x ∧ x < (m : Int)) : Srch.list (Srch.marks (List.replicate m false) l) m = l := by
 rw [Srch.list_from]
 refine Srch.from_sorted _ m 0 l hs (fun x hx => by have := hl x hx; omega) (fun i _ hi => ?_)
 have e : (List.replicate m false)[i]?.getD false = false := by
  rw [List.getElem?_replicate]
  split <;> rfl
 rw [Srch.marks_at l _ (fun x hx => (hl x hx).1) (by rw [List.length_replicate]; omega), e, Bool.false_or, decide_eq_true_eq]
def Srch.okL (m : Int) : Int → List Int → Bool
 | _, [] => true
 | p, x :: l => decide (0 ≤ x) && decide (x < m) && decide (p < x) && Srch.okL m x l
theorem Srch.okL_spec {m : Int} : ∀ (l : List Int) (p : Int), Srch.okL m p l = true → (∀ x ∈ l, 0 ≤ x ∧ x < m ∧ p < x) ∧ l.Pairwise (· < ·)
 | [], _, _ => ⟨fun _ h => (by cases h), List.Pairwise.nil⟩
 | x :: l, p, h => by
  simp only [Srch.okL, Bool.and_eq_true, decide_eq_true_eq] at h
  obtain ⟨h1, h2⟩ := Srch.okL_spec l x h.2
  refine ⟨fun y hy => ?_, List.pairwise_cons.2 ⟨fun y hy => (h1 y hy).2.2, h2⟩⟩
  rcases List.mem_cons.1 hy with rfl | hy
  ·exact ⟨h.1.1.1, h.1.1.2, h.1.2⟩
  have := h1 y hy
  omega
def Srch.prev (l : List Int) (i : Nat) : Int := if i = 0 then -1 else l.getD (i - 1) 0
theorem Srch.prev_succ {l : List Int} {i : Nat} (h : i < l.length) : Srch.prev l (i + 1) = l[i] := by
 unfold Srch.prev
 rw [if_neg (by omega)]
 simp [List.getD, h]
theorem Srch.rd_prev {l : List Int} {i : Nat} (h0 : 0 < i) (hi : i ≤ 9223372036854775807) : wrap64 ((i : Int) - 1) = ((i - 1 : Nat) : Int) ∧ rd l ((i - 1 : Nat) : Int) = Srch.prev l i := by
 refine ⟨by rw [wrap_id (by omega) (by omega)]; omega, ?_⟩
 unfold Srch.prev rd
 rw [if_neg (by omega), Int.toNat_natCast]
section
variable {wd hg : Int}
theorem Srch.has_l0 (hw0 : 1 ≤ wd) (hw1 : wd ≤ 24) (hh0 : 1 ≤ hg) (hh1 : hg ≤ 24) {l : List Int} (hn : l.length ≤ 1000000) : ∀ (r i k : Nat), i + r = l.length → mooring_area_has.l0 (k + r + 1) l l (l.length : Int) (i : Int) wd hg = some (Srch.okL (wd * hg) (Srch.prev l i) (l.drop i))
 | 0, i, k, hi => by
  rw [mooring_area_has.l0, if_neg (by omega), List.drop_eq_nil_of_le (by omega)]
  rfl
 | r + 1, i, k, hi => by
  have hA := Srch.area_le hw0 hw1 hh0 hh1
  have h0 : 0 ≤ wd * hg := Int.mul_nonneg (by omega) (by omega)
  have hw : wrap64 (wd * hg) = wd * hg := wrap_id (by omega) (by omega)
  have hlt : i < l.length := by omega
  have ih := Srch.has_l0 hw0 hw1 hh0 hh1 hn r (i + 1) k (by omega)
  rw [Srch.prev_succ hlt] at ih
  rw [show k + (r + 1) + 1 = (k + r + 1) + 1 by omega, mooring_area_has.l0, if_pos (by omega), if_pos (by omega), if_pos (by omega), rd_nat hlt, hw, wrap_succ hlt (by omega), ih, drop_cons hlt, Srch.okL]
  by_cases q1 : l[i] < 0
  ·rw [if_pos q1, zdf (by omega)]
   rfl
  rw [if_neg q1, zdt (show 0 ≤ l[i] by omega), Bool.true_and]
  by_cases q2 : l[i] ≥ wd * hg
  ·rw [if_pos q2, zdf (by omega)]
   rfl
  rw [if_neg q2, zdt (show l[i] < wd * hg by omega), Bool.true_and]
  by_cases q3 : (i : Int) > 0
  ·obtain ⟨e1, e2⟩ := Srch.rd_prev (l := l) (i := i) (by omega) (by omega)
   rw [if_pos q3, e1, if_pos (by omega), if_pos (by omega), e2]
   by_cases q4 : l[i] ≤ Srch.prev l i
   ·rw [if_pos q4, zdf (by omega)]
    rfl
   rw [if_neg q4, zdt (show Srch.prev l i < l[i] by omega), Bool.true_and]
  have e : Srch.prev l i = -1 := by
   unfold Srch.prev
   rw [if_pos (by omega)]
  rw [if_neg q3, e, zdt (show -1 < l[i] by omega), Bool.true_and]
theorem Srch.has_f (hw0 : 1 ≤ wd) (hw1 : wd ≤ 24) (hh0 : 1 ≤ hg) (hh1 : hg ≤ 24) {l : List Int} (hn : l.length ≤ 1000000) {k : Nat} (hk : l.length < k) : mooring_area_has.f k wd hg l = some (Srch.okL (wd * hg) (-1) l) := by
 obtain ⟨k, rfl⟩ : ∃ k', k = k' + l.length + 1 := ⟨k - l.length - 1, by omega⟩
 exact Srch.has_l0 hw0 hw1 hh0 hh1 hn l.length 0 k (by omega)
theorem Srch.cells_l0 (hw0 : 1 ≤ wd) (hw1 : wd ≤ 24) (hh0 : 1 ≤ hg) (hh1 : hg ≤ 24) {l : List Int} (hn : l.length ≤ 1000000) : ∀ (r i k : Nat), i + r = l.length → isobathref02_cells.l0 (k + r + 1) l (i : Int) wd hg = some (Srch.okL (wd * hg) (Srch.prev l i) (l.drop i))
 | 0, i, k, hi => by
  rw [isobathref02_cells.l0, if_neg (by omega), List.drop_eq_nil_of_le (by omega)]
  rfl
 | r + 1, i, k, hi => by
  have hA := Srch.area_le hw0 hw1 hh0 hh1
  have h0 : 0 ≤ wd * hg := Int.mul_nonneg (by omega) (by omega)
  have hw : wrap64 (wd * hg) = wd * hg := wrap_id (by omega) (by omega)
  have hlt : i < l.length := by omega
  have ih := Srch.cells_l0 hw0 hw1 hh0 hh1 hn r (i + 1) k (by omega)
  rw [Srch.prev_succ hlt] at ih
  rw [show k + (r + 1) + 1 = (k + r + 1) + 1 by omega, isobathref02_cells.l0, if_pos (by omega), if_pos (by omega), rd_nat hlt, hw, wrap_succ hlt (by omega), ih, drop_cons hlt, Srch.okL]
  by_cases q1 : l[i] < 0
  ·rw [if_pos q1, zdf (by omega)]
   rfl
  rw [if_neg q1, zdt (show 0 ≤ l[i] by omega), Bool.true_and]
  by_cases q2 : l[i] ≥ wd * hg
  ·rw [if_pos q2, zdf (by omega)]
   rfl
  rw [if_neg q2, zdt (show l[i] < wd * hg by omega), Bool.true_and]
  by_cases q3 : (i : Int) > 0
  ·obtain ⟨e1, e2⟩ := Srch.rd_prev (l := l) (i := i) (by omega) (by omega)
   rw [if_pos q3, e1, if_pos (by omega), if_pos (by omega), e2]
   by_cases q4 : l[i] ≤ Srch.prev l i
   ·rw [if_pos q4, zdf (by omega)]
    rfl
   rw [if_neg q4, zdt (show Srch.prev l i < l[i] by omega), Bool.true_and]
  have e : Srch.prev l i = -1 := by
   unfold Srch.prev
   rw [if_pos (by omega)]
  rw [if_neg q3, e, zdt (show -1 < l[i] by omega), Bool.true_and]
theorem Srch.cells_f (hw0 : 1 ≤ wd) (hw1 : wd ≤ 24) (hh0 : 1 ≤ hg) (hh1 : hg ≤ 24) {l : List Int} (hn : l.length ≤ 1000000) {k : Nat} (hk : l.length < k) : isobathref02_cells.f k wd hg l = some (Srch.okL (wd * hg) (-1) l) := by
 obtain ⟨k, rfl⟩ : ∃ k', k = k' + l.length + 1 := ⟨k - l.length - 1, by omega⟩
 exact Srch.cells_l0 hw0 hw1 hh0 hh1 hn l.length 0 k (by omega)
end
def Srch.okS (a b : Int) : Bool := decide (a ≤ b) && decide (-4 ≤ a) && decide (b ≤ 4)
theorem Srch.check1 (a b : Int) : mooring_area_check_1.f a b = some (!Srch.okS a b) := by
 unfold mooring_area_check_1.f Srch.okS
 by_cases q1 : a > b
 ·rw [if_pos q1, zdf (by omega)]
  rfl
 rw [if_neg q1, zdt (show a ≤ b by omega), Bool.true_and]
 by_cases q2 : a < -4
 ·rw [if_pos q2, zdf (by omega)]
  rfl
 rw [if_neg q2, zdt (show -4 ≤ a by omega), Bool.true_and]
 by_cases q3 : b > 4
 ·rw [zdt q3, zdf (by omega)]
  rfl
 rw [zdf q3, zdt (show b ≤ 4 by omega)]
 rfl
theorem Srch.shift (a b : Int) : isobathref02_shift.f a b = some (Srch.okS a b) := by
 unfold isobathref02_shift.f Srch.okS
 by_cases q1 : a ≤ b
 ·rw [if_pos q1, zdt q1, Bool.true_and]
  by_cases q2 : a ≥ -4
  ·rw [if_pos q2, zdt (show -4 ≤ a by omega), Bool.true_and]
  rw [if_neg q2, zdf (show ¬ -4 ≤ a by omega)]
  rfl
 rw [if_neg q1, zdf q1]
 rfl
def Srch.okH (m : Int) (h : S79) : Bool := Srch.okS h.f0.f0 h.f0.f1 && Srch.okS h.f1.f0 h.f1.f1 && Srch.okL m (-1) h.f2
def Srch.Few (l : List S79) : Prop := l.length ≤ 60 ∧ ∀ h ∈ l, h.f2.length ≤ 700
theorem Srch.hour_at {l : List S79} {i : Nat} (h : i < l.length) : rd_T79 l (i : Int) = l[i] := by
 unfold rd_T79
 rw [Int.toNat_natCast]
 simp [List.getD, h]
def Srch.err (wd hg : Int) (st : List Int) (l : List S79) : Int := if 48 < l.length then 6 else if 1 ≤ wd ∧ wd ≤ 24 ∧ 1 ≤ hg ∧ hg ≤ 24 ∧ Srch.okL (wd * hg) (-1) st = true ∧ l.all (Srch.okH (wd * hg)) = true then 0 else 2
section
variable {wd hg : Int} {st : List Int} {l : List S79}
theorem Srch.check_l0 (hl : Srch.Few l) (hw0 : 1 ≤ wd) (hw1 : wd ≤ 24) (hh0 : 1 ≤ hg) (hh1 : hg ≤ 24) : ∀ (r i k : Nat), i + r = l.length → r + 1100 ≤ k → mooring_area_check.l0 k l (l.length : Int) (i : Int) wd hg = some (if (l.drop i).all (Srch.okH (wd * hg)) = true then 0 else 2)
 | 0, i, k, hi, hk => by
  obtain ⟨k, rfl⟩ : ∃ k', k = k' + 1 := ⟨k - 1, by omega⟩
  rw [mooring_area_check.l0, if_neg (by omega), List.drop_eq_nil_of_le (by omega)]
  rfl
 | r + 1, i, k, hi, hk => by
  obtain ⟨k, rfl⟩ : ∃ k', k = k' + 1 := ⟨k - 1, by omega⟩
  have hlt : i < l.length := by omega
  have h60 := hl.1
  have hs := hl.2 _ (List.getElem_mem hlt)
  rw [mooring_area_check.l0, if_pos (by omega), if_pos (by omega), if_pos (by omega), Srch.hour_at hlt, Srch.check1, Srch.check1, Srch.has_f hw0 hw1 hh0 hh1 (by omega) (by omega), wrap_succ hlt (by omega), Srch.check_l0 hl hw0 hw1 hh0 hh1 r (i + 1) k (by omega) (by omega), drop_cons hlt, List.all_cons]
  simp only [Option.bind_some, Srch.okH]
  by_cases u1 : Srch.okS l[i].f0.f0 l[i].f0.f1 = true <;> by_cases u2 : Srch.okS l[i].f1.f0 l[i].f1.f1 = true <;> by_cases u3 : Srch.okL (wd * hg) (-1) l[i].f2 = true <;> simp [u1, u2, u3]
theorem Srch.search_l0 (hl : Srch.Few l) (hst : st.length ≤ 700) (hw0 : 1 ≤ wd) (hw1 : wd ≤ 24) (hh0 : 1 ≤ hg) (hh1 : hg ≤ 24) : ∀ (r i k : Nat), i + r = l.length → r + 1100 ≤ k → isobathref02_search.l0 k st l (i : Int) wd hg = some (if Srch.okL (wd * hg) (-1) st = true ∧ (l.drop i).all (Srch.okH (wd * hg)) = true then 0 else 2)
 | 0, i, k, hi, hk => by
  obtain ⟨k, rfl⟩ : ∃ k', k = k' + 1 := ⟨k - 1, by omega⟩
  rw [isobathref02_search.l0, if_neg (by omega), List.drop_eq_nil_of_le (by omega), Srch.cells_f hw0 hw1 hh0 hh1 (by omega) (by omega), Option.bind_some]
  by_cases u : Srch.okL (wd * hg) (-1) st = true <;> simp [u]
 | r + 1, i, k, hi, hk => by
  obtain ⟨k, rfl⟩ : ∃ k', k = k' + 1 := ⟨k - 1, by omega⟩
  have hlt : i < l.length := by omega
  have h60 := hl.1
  have hs := hl.2 _ (List.getElem_mem hlt)
  rw [isobathref02_search.l0, if_pos (by omega), if_pos (by omega), Srch.hour_at hlt, Srch.shift, Srch.shift, Srch.cells_f hw0 hw1 hh0 hh1 (by omega) (by omega), wrap_succ hlt (by omega), Srch.search_l0 hl hst hw0 hw1 hh0 hh1 r (i + 1) k (by omega) (by omega), drop_cons hlt, List.all_cons]
  simp only [Option.bind_some, Srch.okH]
  by_cases u1 : Srch.okS l[i].f0.f0 l[i].f0.f1 = true <;> by_cases u2 : Srch.okS l[i].f1.f0 l[i].f1.f1 = true <;> by_cases u3 : Srch.okL (wd * hg) (-1) l[i].f2 = true <;> simp [u1, u2, u3]
theorem Srch.check_f (hl : Srch.Few l) (hst : st.length ≤ 700) {k : Nat} (hk : 1200 ≤ k) : mooring_area_check.f k wd hg st l = some (Srch.err wd hg st l) := by
 have h60 := hl.1
 unfold mooring_area_check.f Srch.err
 by_cases q0 : 48 < l.length
 ·rw [if_pos (by omega), if_pos q0]
 rw [if_neg (by omega), if_neg q0]
 obtain ⟨k, rfl⟩ : ∃ k', k = k' + 1 := ⟨k - 1, by omega⟩
 have e1 : mn wd hg < 1 ↔ wd < 1 ∨ hg < 1 := by unfold mn; split <;> omega
 have e2 : mx wd hg > 24 ↔ wd > 24 ∨ hg > 24 := by unfold mx; split <;> omega
 by_cases q1 : mn wd hg < 1
 ·rw [if_pos q1, mooring_area_check.j0, if_pos rfl, if_neg (by rw [e1] at q1; omega)]
 rw [if_neg q1]
 by_cases q2 : mx wd hg > 24
 ·rw [if_pos q2, mooring_area_check.j0, if_pos rfl, if_neg (by rw [e2] at q2; omega)]
 rw [if_neg q2]
 rw [e1] at q1
 rw [e2] at q2
 have hw0 : 1 ≤ wd := by omega
 have hw1 : wd ≤ 24 := by omega
 have hh0 : 1 ≤ hg := by omega
 have hh1 : hg ≤ 24 := by omega
 rw [Srch.has_f hw0 hw1 hh0 hh1 (by omega) (by omega), Option.bind_some, mooring_area_check.j0]
 by_cases q3 : Srch.okL (wd * hg) (-1) st = true
 ·have h := Srch.check_l0 hl hw0 hw1 hh0 hh1 l.length 0 k (by omega) (by omega)
  rw [show ((0 : Nat) : Int) = 0 from rfl, List.drop_zero] at h
  rw [q3, if_neg (by decide), h]
  simp [hw0, hw1, hh0, hh1]
 rw [if_pos (by simpa using q3), if_neg (by simp [q3])]
theorem Srch.search_f (hl : Srch.Few l) (hst : st.length ≤ 700) {k : Nat} (hk : 1200 ≤ k) : isobathref02_search.f k wd hg st l = some (Srch.err wd hg st l) := by
 have h60 := hl.1
 unfold isobathref02_search.f Srch.err
 by_cases q0 : 48 < l.length
 ·rw [if_pos (by omega), if_pos q0]
 rw [if_neg (by omega), if_neg q0]
 obtain ⟨k, rfl⟩ : ∃ k', k = k' + 1 := ⟨k - 1, by omega⟩
 by_cases q1 : wd < 1
 ·rw [if_pos q1, isobathref02_search.j0, if_pos rfl, if_neg (by omega)]
 rw [if_neg q1]
 by_cases q2 : wd > 24
 ·rw [if_pos q2, isobathref02_search.j0, if_pos rfl, if_neg (by omega)]
 rw [if_neg q2]
 by_cases q3 : hg < 1
 ·rw [if_pos q3, isobathref02_search.j0, if_pos rfl, if_neg (by omega)]
 rw [if_neg q3, isobathref02_search.j0]
 by_cases q4 : hg > 24
 ·rw [zdt q4, if_pos rfl, if_neg (by omega)]
 rw [zdf q4, if_neg (by decide)]
 have hw0 : 1 ≤ wd := by omega
 have hw1 : wd ≤ 24 := by omega
 have hh0 : 1 ≤ hg := by omega
 have hh1 : hg ≤ 24 := by omega
 have h := Srch.search_l0 hl hst hw0 hw1 hh0 hh1 l.length 0 k (by omega) (by omega)
 rw [show ((0 : Nat) : Int) = 0 from rfl, List.drop_zero] at h
 rw [h]
 simp [hw0, hw1, hh0, hh1]
end
theorem Srch.err_ok {wd hg : Int} {st : List Int} {l : List S79} (h : Srch.err wd hg st l = 0) : l.length ≤ 48 ∧ 1 ≤ wd ∧ wd ≤ 24 ∧ 1 ≤ hg ∧ hg ≤ 24 ∧ Srch.okL (wd * hg) (-1) st = true ∧ ∀ x ∈ l, Srch.okH (wd * hg) x = true := by
 unfold Srch.err at h
 by_cases q0 : 48 < l.length
 ·rw [if_pos q0] at h
  cases h
 rw [if_neg q0] at h
 by_cases q1 : 1 ≤ wd ∧ wd ≤ 24 ∧ 1 ≤ hg ∧ hg ≤ 24 ∧ Srch.okL (wd * hg) (-1) st = true ∧ l.all (Srch.okH (wd * hg)) = true
 ·obtain ⟨a, b, c, d, e, f⟩ := q1
  exact ⟨by omega, a, b, c, d, e, fun x hx => List.all_eq_true.1 f x hx⟩
 rw [if_neg q1] at h
 cases h
theorem Srch.err_of {wd hg : Int} {st : List Int} {l : List S79} (h0 : l.length ≤ 48) (hw0 : 1 ≤ wd) (hw1 : wd ≤ 24) (hh0 : 1 ≤ hg) (hh1 : hg ≤ 24) (h1 : Srch.okL (wd * hg) (-1) st = true) (h2 : ∀ x ∈ l, Srch.okH (wd * hg) x = true) : Srch.err wd hg st l = 0 := by
 unfold Srch.err
 rw [if_neg (by omega), if_pos ⟨hw0, hw1, hh0, hh1, h1, List.all_eq_true.2 h2⟩]
def Srch.next (wd hg : Int) (mk : List Bool) (h : S79) : List Bool := Srch.unmark (Srch.hourMk wd hg h.f0.f0 h.f0.f1 h.f1.f0 h.f1.f1 (List.replicate (wd * hg).toNat false) (Srch.list mk (wd * hg).toNat)) h.f2
def Srch.lost (wd hg : Int) (mk : List Bool) (h : S79) : Bool := Srch.hourLf wd hg h.f0.f0 h.f0.f1 h.f1.f0 h.f1.f1 (Srch.list mk (wd * hg).toNat)
def Srch.go (wd hg : Int) : List S79 → List Bool × Bool → List Bool × Bool
 | [], p => p
 | h :: l, p => Srch.go wd hg l (Srch.next wd hg p.1 h, p.2 || Srch.lost wd hg p.1 h)
theorem Srch.go_append (wd hg : Int) : ∀ (l l' : List S79) (p : List Bool × Bool), Srch.go wd hg (l ++ l') p = Srch.go wd hg l' (Srch.go wd hg l p)
 | [], _, _ => rfl
 | h :: l, l', p => Srch.go_append wd hg l l' _
theorem Srch.next_length (wd hg : Int) (mk : List Bool) (h : S79) : (Srch.next wd hg mk h).length = (wd * hg).toNat := by
 unfold Srch.next
 rw [Srch.unmark_length, Srch.hourMk_length, List.length_replicate]
theorem Srch.list_mem {mk : List Bool} {m : Nat} {x : Int} (h : x ∈ Srch.list mk m) : 0 ≤ x ∧ x < (m : Int) := by
 rw [Srch.list_from] at h
 have := Srch.from_range mk m 0 x h
 omega
section
variable {wd hg : Int} {st : List Int} {l : List S79}
theorem Srch.hour_f (hw0 : 1 ≤ wd) (hw1 : wd ≤ 24) (hh0 : 1 ≤ hg) (hh1 : hg ≤ 24) {h : S79} (hH : Srch.okH (wd * hg) h = true) (h7 : h.f2.length ≤ 700) (mk : List Bool) : mooring_area_hour.f wd hg (Srch.list mk (wd * hg).toNat) h.f0.f0 h.f0.f1 h.f1.f0 h.f1.f1 h.f2 = some (Srch.list (Srch.next wd hg mk h) (wd * hg).toNat, Srch.lost wd hg mk h) := by
 have hA := Srch.area_le hw0 hw1 hh0 hh1
 have h0 : 0 ≤ wd * hg := Int.mul_nonneg (by omega) (by omega)
 have hl := Srch.list_le mk (wd * hg).toNat
 simp only [Srch.okH, Srch.okS, Bool.and_eq_true, decide_eq_true_eq] at hH
 obtain ⟨⟨⟨⟨a1, a2⟩, a3⟩, ⟨b1, b2⟩, b3⟩, c⟩ := hH
 have hs := (Srch.okL_spec _ _ c).1
 have fit : Srch.fits wd hg h.f0.f0 h.f0.f1 h.f1.f0 h.f1.f1 (Srch.list mk (wd * hg).toNat) h.f2 = true := by
  unfold Srch.fits
  simp only [Bool.and_eq_true, decide_eq_true_eq, List.all_eq_true]
  refine ⟨⟨⟨⟨⟨⟨⟨⟨⟨⟨⟨⟨⟨hw0, hw1⟩, hh0⟩, hh1⟩, a2⟩, a1⟩, a3⟩, b2⟩, b1⟩, b3⟩, by omega⟩, by omega⟩, fun x hx => ?_⟩, fun x hx => ⟨(hs x hx).1, (hs x hx).2.1⟩⟩
  have := Srch.list_mem hx
  exact ⟨this.1, by omega⟩
 unfold mooring_area_hour.f
 rw [if_pos fit]
 rfl
theorem Srch.drift_f (hw0 : 1 ≤ wd) (hw1 : wd ≤ 24) (hh0 : 1 ≤ hg) (hh1 : hg ≤ 24) {h : S79} (hH : Srch.okH (wd * hg) h = true) (h7 : h.f2.length ≤ 700) {mk : List Bool} (hm : mk.length = (wd * hg).toNat) {k : Nat} (hk : 71000 ≤ k) : isobathref02_Drift.f k wd hg mk h.f0.f0 h.f0.f1 h.f1.f0 h.f1.f1 h.f2 = some (Srch.next wd hg mk h, Srch.lost wd hg mk h) := by
 have h0 : 0 ≤ wd * hg := Int.mul_nonneg (by omega) (by omega)
 simp only [Srch.okH, Srch.okS, Bool.and_eq_true, decide_eq_true_eq] at hH
 obtain ⟨⟨⟨⟨a1, a2⟩, a3⟩, ⟨b1, b2⟩, b3⟩, c⟩ := hH
 have hs := (Srch.okL_spec _ _ c).1
 rw [Srch.ref_drift hw0 hw1 hh0 hh1 (by omega) a2 a1 a3 b2 b1 b3 (fun x hx => ⟨(hs x hx).1, (hs x hx).2.1⟩) (by omega) hk]
 rfl
theorem Srch.where_l0 (hw0 : 1 ≤ wd) (hw1 : wd ≤ 24) (hh0 : 1 ≤ hg) (hh1 : hg ≤ 24) (hl : Srch.Few l) (hH : ∀ x ∈ l, Srch.okH (wd * hg) x = true) : ∀ (r i : Nat) (mk : List Bool) (lf : Bool) (k : Nat), i + r = l.length → r < k → mooring_Where.l0 k (Srch.list mk (wd * hg).toNat) lf l (l.length : Int) (i : Int) wd hg = some (Srch.list (Srch.go wd hg (l.drop i) (mk, lf)).1 (wd * hg).toNat, (Srch.go wd hg (l.drop i) (mk, lf)).2, 0)
 | 0, i, mk, lf, k, hi, hk => by
  obtain ⟨k, rfl⟩ : ∃ k', k = k' + 1 := ⟨k - 1, by omega⟩
  rw [mooring_Where.l0, if_neg (by omega), List.drop_eq_nil_of_le (by omega)]
  rfl
 | r + 1, i, mk, lf, k, hi, hk => by
  obtain ⟨k, rfl⟩ : ∃ k', k = k' + 1 := ⟨k - 1, by omega⟩
  have hlt : i < l.length := by omega
  have h60 := hl.1
  rw [mooring_Where.l0, if_pos (by omega), if_pos (by omega), if_pos (by omega), Srch.hour_at hlt, Srch.hour_f hw0 hw1 hh0 hh1 (hH _ (List.getElem_mem hlt)) (hl.2 _ (List.getElem_mem hlt)) mk, Option.bind_some, wrap_succ hlt (by omega), drop_cons hlt, Srch.go]
  cases lf with
  | true => rw [if_pos rfl]; exact Srch.where_l0 hw0 hw1 hh0 hh1 hl hH r (i + 1) _ _ k (by omega) (by omega)
  | false => rw [if_neg (by decide), Bool.false_or]; exact Srch.where_l0 hw0 hw1 hh0 hh1 hl hH r (i + 1) _ _ k (by omega) (by omega)
theorem Srch.refWhere_l0 (hw0 : 1 ≤ wd) (hw1 : wd ≤ 24) (hh0 : 1 ≤ hg) (hh1 : hg ≤ 24) (hl : Srch.Few l) (hH : ∀ x ∈ l, Srch.okH (wd * hg) x = true) : ∀ (r i : Nat) (mk : List Bool) (lf : Bool) (k : Nat), i + r = l.length → mk.length = (wd * hg).toNat → r + 72000 ≤ k → isobathref02_Where.l0 k l mk lf (i : Int) wd hg = some (Srch.list (Srch.go wd hg (l.drop i) (mk, lf)).1 (wd * hg).toNat, (Srch.go wd hg (l.drop i) (mk, lf)).2, 0)
 | 0, i, mk, lf, k, hi, hm, hk => by
  have hA := Srch.area_le hw0 hw1 hh0 hh1
  obtain ⟨k, rfl⟩ : ∃ k', k = k' + 1 := ⟨k - 1, by omega⟩
  rw [isobathref02_Where.l0, if_neg (by omega), List.drop_eq_nil_of_le (by omega), Srch.ref_numbers (by omega) (by omega), hm, Option.bind_some]
  rfl
 | r + 1, i, mk, lf, k, hi, hm, hk => by
  obtain ⟨k, rfl⟩ : ∃ k', k = k' + 1 := ⟨k - 1, by omega⟩
  have hlt : i < l.length := by omega
  have h60 := hl.1
  rw [isobathref02_Where.l0, if_pos (by omega), if_pos (by omega), Srch.hour_at hlt, Srch.drift_f hw0 hw1 hh0 hh1 (hH _ (List.getElem_mem hlt)) (hl.2 _ (List.getElem_mem hlt)) hm (by omega), Option.bind_some, wrap_succ hlt (by omega), drop_cons hlt, Srch.go]
  cases lf with
  | true => rw [if_pos rfl]; exact Srch.refWhere_l0 hw0 hw1 hh0 hh1 hl hH r (i + 1) _ _ k (by omega) (Srch.next_length _ _ _ _) (by omega)
  | false => rw [if_neg (by decide), Bool.false_or]; exact Srch.refWhere_l0 hw0 hw1 hh0 hh1 hl hH r (i + 1) _ _ k (by omega) (Srch.next_length _ _ _ _) (by omega)
end
def Srch.start (wd hg : Int) (st : List Int) : List Bool := Srch.marks (List.replicate (wd * hg).toNat false) st
theorem Srch.start_length (wd hg : Int) (st : List Int) : (Srch.start wd hg st).length = (wd * hg).toNat := by
 unfold Srch.start
 rw [Srch.marks_length, List.length_replicate]
theorem Srch.start_list {wd hg : Int} (hw0 : 1 ≤ wd) (hh0 : 1 ≤ hg) {st : List Int} (h : Srch.okL (wd * hg) (-1) st = true) : Srch.list (Srch.start wd hg st) (wd * hg).toNat = st := by
 have h0 : 0 ≤ wd * hg := Int.mul_nonneg (by omega) (by omega)
 obtain ⟨h1, h2⟩ := Srch.okL_spec _ _ h
 exact Srch.list_marks h2 fun x hx => ⟨(h1 x hx).1, by have := (h1 x hx).2.1; omega⟩
def Srch.whr (wd hg : Int) (st : List Int) (l : List S79) : List Int × Bool × Int :=
 if Srch.err wd hg st l = 0 then (Srch.list (Srch.go wd hg l (Srch.start wd hg st, false)).1 (wd * hg).toNat, (Srch.go wd hg l (Srch.start wd hg st, false)).2, 0) else ([], false, Srch.err wd hg st l)
section
variable {wd hg : Int} {st : List Int} {l : List S79}
theorem Srch.where_f (hl : Srch.Few l) (hst : st.length ≤ 700) {k : Nat} (hk : 1200 ≤ k) : mooring_Where.f k wd hg st l = some (Srch.whr wd hg st l) := by
 unfold mooring_Where.f Srch.whr
 rw [Srch.check_f hl hst hk, Option.bind_some]
 by_cases q : Srch.err wd hg st l = 0
 ·obtain ⟨h48, hw0, hw1, hh0, hh1, hS, hH⟩ := Srch.err_ok q
  rw [if_pos q, if_pos q]
  unfold slices_Clone_int_int.f
  rw [if_pos (by omega), Option.bind_some]
  have h := Srch.where_l0 hw0 hw1 hh0 hh1 hl hH l.length 0 (Srch.start wd hg st) false k (by omega) (by omega)
  rw [show ((0 : Nat) : Int) = 0 from rfl, List.drop_zero, Srch.start_list hw0 hh0 hS] at h
  exact h
 rw [if_neg q, if_neg q]
theorem Srch.refWhere_f (hl : Srch.Few l) (hst : st.length ≤ 700) {k : Nat} (hk : 73000 ≤ k) : isobathref02_Where.f k wd hg st l = some (Srch.whr wd hg st l) := by
 unfold isobathref02_Where.f Srch.whr
 rw [Srch.search_f hl hst (by omega), Option.bind_some]
 by_cases q : Srch.err wd hg st l = 0
 ·obtain ⟨h48, hw0, hw1, hh0, hh1, hS, hH⟩ := Srch.err_ok q
  obtain ⟨h1, h2⟩ := Srch.okL_spec _ _ hS
  rw [if_pos q, if_pos q, Srch.ref_marked hw0 hw1 hh0 hh1 (fun x hx => ⟨(h1 x hx).1, (h1 x hx).2.1⟩) (by omega) (by omega), Option.bind_some]
  have h := Srch.refWhere_l0 hw0 hw1 hh0 hh1 hl hH l.length 0 (Srch.start wd hg st) false k (by omega) (Srch.start_length _ _ _) (by omega)
  rw [show ((0 : Nat) : Int) = 0 from rfl, List.drop_zero] at h
  exact h
 rw [if_neg q, if_neg q]
end
def Srch.fnd (wd hg : Int) : Nat → List S79 → List Bool → Int × Int
 | n, [], mk => if (Srch.list mk (wd * hg).toNat).length = 0 then ((n : Int), 0) else (0, 5)
 | n, h :: l, mk => if (Srch.list mk (wd * hg).toNat).length = 0 then ((n : Int), 0) else if Srch.lost wd hg mk h = true then (0, 5) else Srch.fnd wd hg (n + 1) l (Srch.next wd hg mk h)
def Srch.fndE (wd hg : Int) (st : List Int) (l : List S79) : Int × Int := if Srch.err wd hg st l = 0 then Srch.fnd wd hg 0 l (Srch.start wd hg st) else (0, Srch.err wd hg st l)
theorem Srch.found_l0 {wd hg : Int} {l : List S79} (hw0 : 1 ≤ wd) (hw1 : wd ≤ 24) (hh0 : 1 ≤ hg) (hh1 : hg ≤ 24) (hl : Srch.Few l) (hH : ∀ x ∈ l, Srch.okH (wd * hg) x = true) : ∀ (r i : Nat) (mk : List Bool) (k : Nat), i + r = l.length → r < k → mooring_Found.l0 k l (Srch.list mk (wd * hg).toNat) l (l.length : Int) (i : Int) wd hg = some (Srch.fnd wd hg i (l.drop i) mk)
 | 0, i, mk, k, hi, hk => by
  obtain ⟨k, rfl⟩ : ∃ k', k = k' + 1 := ⟨k - 1, by omega⟩
  rw [mooring_Found.l0, if_neg (by omega), List.drop_eq_nil_of_le (by omega), Srch.fnd]
  by_cases q : (Srch.list mk (wd * hg).toNat).length = 0
  ·rw [if_pos q, if_neg (by omega), show i = l.length by omega]
  rw [if_neg q, if_pos (by omega)]
 | r + 1, i, mk, k, hi, hk => by
  obtain ⟨k, rfl⟩ : ∃ k', k = k' + 1 := ⟨k - 1, by omega⟩
  have hlt : i < l.length := by omega
  have h60 := hl.1
  rw [mooring_Found.l0, if_pos (by omega), if_pos (by omega), if_pos (by omega), drop_cons hlt, Srch.fnd]
  by_cases q : (Srch.list mk (wd * hg).toNat).length = 0
  ·rw [if_pos q, if_pos (by omega)]
  rw [if_neg q, if_neg (by omega), Srch.hour_at hlt, Srch.hour_f hw0 hw1 hh0 hh1 (hH _ (List.getElem_mem hlt)) (hl.2 _ (List.getElem_mem hlt)) mk, Option.bind_some, wrap_succ hlt (by omega)]
  by_cases q2 : Srch.lost wd hg mk l[i] = true
  ·rw [if_pos q2, if_pos q2]
  rw [if_neg q2, if_neg q2]
  exact Srch.found_l0 hw0 hw1 hh0 hh1 hl hH r (i + 1) _ k (by omega) (by omega)
section
variable {wd hg : Int} {st : List Int} {l : List S79}
theorem Srch.found_f (hl : Srch.Few l) (hst : st.length ≤ 700) {k : Nat} (hk : 1200 ≤ k) : mooring_Found.f k wd hg st l = some (Srch.fndE wd hg st l) := by
 unfold mooring_Found.f Srch.fndE
 rw [Srch.check_f hl hst hk, Option.bind_some]
 by_cases q : Srch.err wd hg st l = 0
 ·obtain ⟨h48, hw0, hw1, hh0, hh1, hS, hH⟩ := Srch.err_ok q
  rw [if_pos q, if_pos q]
  have h := Srch.found_l0 hw0 hw1 hh0 hh1 hl hH l.length 0 (Srch.start wd hg st) k (by omega) (by omega)
  rw [show ((0 : Nat) : Int) = 0 from rfl, List.drop_zero, Srch.start_list hw0 hh0 hS] at h
  exact h
 rw [if_neg q, if_neg q]
theorem Srch.whr_take (hl : Srch.Few l) (hst : st.length ≤ 700) (q : Srch.err wd hg st l = 0) (i : Nat) : Srch.Few (l.take i) ∧ Srch.whr wd hg st (l.take i) = (Srch.list (Srch.go wd hg (l.take i) (Srch.start wd hg st, false)).1 (wd * hg).toNat, (Srch.go wd hg (l.take i) (Srch.start wd hg st, false)).2, 0) := by
 obtain ⟨h48, hw0, hw1, hh0, hh1, hS, hH⟩ := Srch.err_ok q
 refine ⟨⟨?_, fun h hh => hl.2 h (List.mem_of_mem_take hh)⟩, ?_⟩
 ·rw [zlt]
  have := hl.1
  omega
 unfold Srch.whr
 rw [if_pos (Srch.err_of (by rw [zlt]; omega) hw0 hw1 hh0 hh1 hS fun x hx => hH x (List.mem_of_mem_take hx))]
end
theorem Law2.wide_l0 {l : List S79} (hn : l.length ≤ 60) : ∀ (r i k : Nat), i + r = l.length → r < k → isobathlaw02_wide.l0 k l (i : Int) = some ((l.drop i).any fun h => decide (700 < h.f2.length))
 | 0, i, k, hi, hk => by
  obtain ⟨k, rfl⟩ : ∃ k', k = k' + 1 := ⟨k - 1, by omega⟩
  rw [isobathlaw02_wide.l0, if_neg (by omega), List.drop_eq_nil_of_le (by omega)]
  rfl
 | r + 1, i, k, hi, hk => by
  obtain ⟨k, rfl⟩ : ∃ k', k = k' + 1 := ⟨k - 1, by omega⟩
  have hlt : i < l.length := by omega
  rw [isobathlaw02_wide.l0, if_pos (by omega), if_pos (by omega), Srch.hour_at hlt, wrap_succ hlt (by omega), Law2.wide_l0 hn r (i + 1) k (by omega) (by omega), drop_cons hlt, List.any_cons]
  by_cases q : 700 < l[i].f2.length
  ·rw [if_pos (by omega), zdt q, Bool.true_or]
  rw [if_neg (by omega), zdf q, Bool.false_or]
theorem Law2.wide (st : List Int) (l : List S79) {k : Nat} (hk : 70 ≤ k) : ∃ b, isobathlaw02_wide.f k st l = some b ∧ (b = false → st.length ≤ 700 ∧ Srch.Few l) := by
 unfold isobathlaw02_wide.f
 obtain ⟨k, rfl⟩ : ∃ k', k = k' + 1 := ⟨k - 1, by omega⟩
 have big : isobathlaw02_wide.j0 (k + 1) l true = some true := by
  rw [isobathlaw02_wide.j0, if_pos rfl]
 have small : ∃ b, isobathlaw02_wide.j0 (k + 1) l (decide ((l.length : Int) > 60)) = some b ∧ (b = false → Srch.Few l) := by
  rw [isobathlaw02_wide.j0]
  by_cases q : (l.length : Int) > 60
  ·rw [zdt q, if_pos rfl]
   exact ⟨true, rfl, fun h => by cases h⟩
  rw [zdf q, if_neg (by decide)]
  refine ⟨_, Law2.wide_l0 (by omega) l.length 0 k (by omega) (by omega), fun h => ⟨by omega, fun x hx => ?_⟩⟩
  rw [List.drop_zero, List.any_eq_false] at h
  have := h x hx
  simpa using this
 by_cases q1 : (st.length : Int) > 700
 ·rw [if_pos q1, big]
  exact ⟨true, rfl, fun h => by cases h⟩
 rw [if_neg q1]
 obtain ⟨b, hb, hF⟩ := small
 by_cases q2 : (l.length : Int) > 8
 ·rw [if_pos q2]
  by_cases q3 : (l.length : Int) ≤ 48
  ·rw [if_pos q3, big]
   exact ⟨true, rfl, fun h => by cases h⟩
  rw [if_neg q3]
  exact ⟨b, hb, fun h => ⟨by omega, hF h⟩⟩
 rw [if_neg q2]
 exact ⟨b, hb, fun h => ⟨by omega, hF h⟩⟩
theorem Srch.mark_at' (mk : List Bool) (x : Int) {i : Nat} (hi : i < mk.length) : (Srch.mark mk x)[i]?.getD false = (mk[i]?.getD false || decide (x = (i : Int))) := by
 by_cases h : 0 ≤ x
 ·exact Srch.mark_at mk h hi
 unfold Srch.mark
 rw [if_pos (by omega), zdf (by omega), Bool.or_false]
theorem Srch.marks_at' : ∀ (l : List Int) (mk : List Bool) {i : Nat} (_ : i < mk.length), (Srch.marks mk l)[i]?.getD false = (mk[i]?.getD false || decide ((i : Int) ∈ l))
 | [], mk, i, hi => by
  show mk[i]?.getD false = _
  simp
 | x :: l, mk, i, hi => by
  rw [Srch.marks_cons, Srch.marks_at' l _ (by rw [Srch.mark_length]; exact hi), Srch.mark_at' mk x hi, Bool.or_assoc]
  congr 1
  by_cases q : x = (i : Int)
  ·rw [zdt q, Bool.true_or, zdt (q ▸ List.mem_cons_self)]
  rw [zdf q, Bool.false_or]
  congr 1
  simp [List.mem_cons, Ne.symm q]
theorem Srch.hourMk_at {wd hg e0 e1 n0 n1 : Int} : ∀ (l : List Int) (mk : List Bool) {i : Nat} (_ : i < mk.length), (Srch.hourMk wd hg e0 e1 n0 n1 mk l)[i]?.getD false = (mk[i]?.getD false || l.any fun c => decide ((i : Int) ∈ Srch.reach wd hg c e0 e1 n0 n1))
 | [], mk, i, hi => by
  show mk[i]?.getD false = _
  simp
 | c :: l, mk, i, hi => by
  rw [Srch.hourMk_cons, Srch.hourMk_at l _ (by rw [Srch.marks_length]; exact hi), Srch.marks_at' _ _ hi, Bool.or_assoc, List.any_cons]
theorem Srch.unmark_at : ∀ (l : List Int) (mk : List Bool) (_ : ∀ x ∈ l, 0 ≤ x) {i : Nat} (_ : i < mk.length), (Srch.unmark mk l)[i]?.getD false = (mk[i]?.getD false && !decide ((i : Int) ∈ l))
 | [], mk, _, i, hi => by
  show mk[i]?.getD false = _
  simp
 | x :: l, mk, h, i, hi => by
  have hx := h x List.mem_cons_self
  rw [Srch.unmark_cons, Srch.unmark_at l _ (fun y hy => h y (List.mem_cons_of_mem _ hy)) (by rw [List.length_set]; exact hi)]
  by_cases q : x = (i : Int)
  ·have e : x.toNat = i := by omega
   rw [zdt (show (i : Int) ∈ x :: l from q ▸ List.mem_cons_self), e]
   simp [hi]
  have e : x.toNat ≠ i := by omega
  have e2 : ((i : Int) ∈ x :: l) = ((i : Int) ∈ l) := by simp [List.mem_cons, Ne.symm q]
  simp only [e2]
  simp [e]
theorem Srch.mem_list {mk : List Bool} {m : Nat} {x : Int} : x ∈ Srch.list mk m ↔ ∃ j : Nat, j < m ∧ x = (j : Int) ∧ mk[j]?.getD false = true := by
 unfold Srch.list
 simp only [List.mem_map, List.mem_filter, List.mem_range]
 constructor
 ·rintro ⟨j, ⟨h1, h2⟩, rfl⟩
  exact ⟨j, h1, rfl, h2⟩
 rintro ⟨j, h1, rfl, h2⟩
 exact ⟨j, ⟨h1, h2⟩, rfl⟩
theorem Srch.from_pairwise (mk : List Bool) : ∀ (r j : Nat), (Srch.from_ mk r j).Pairwise (· < ·)
 | 0, _ => List.Pairwise.nil
 | r + 1, j => by
  rw [Srch.from_]
  by_cases q : mk[j]?.getD false = true
  ·rw [if_pos q, List.pairwise_cons]
   refine ⟨fun x hx => ?_, Srch.from_pairwise mk r (j + 1)⟩
   have := Srch.from_range mk r (j + 1) x hx
   omega
  rw [if_neg q]
  exact Srch.from_pairwise mk r (j + 1)
theorem Srch.list_pairwise (mk : List Bool) (m : Nat) : (Srch.list mk m).Pairwise (· < ·) := by
 rw [Srch.list_from]
 exact Srch.from_pairwise mk m 0
def Srch.le (m : Nat) (a b : List Bool) : Prop := ∀ j : Nat, j < m → a[j]?.getD false = true → b[j]?.getD false = true
theorem Srch.le.list {m : Nat} {a b : List Bool} (h : Srch.le m a b) {x : Int} (hx : x ∈ Srch.list a m) : x ∈ Srch.list b m := by
 obtain ⟨j, h1, h2, h3⟩ := Srch.mem_list.1 hx
 exact Srch.mem_list.2 ⟨j, h1, h2, h j h1 h3⟩
def Srch.More (h h' : S79) : Prop := h'.f0 = h.f0 ∧ h'.f1 = h.f1 ∧ (∀ x ∈ h.f2, x ∈ h'.f2) ∧ (∀ x ∈ h'.f2, 0 ≤ x) ∧ ∀ x ∈ h.f2, 0 ≤ x
theorem Srch.next_at {wd hg : Int} {h : S79} (h0 : ∀ x ∈ h.f2, 0 ≤ x) (mk : List Bool) {j : Nat} (hj : j < (wd * hg).toNat) : (Srch.next wd hg mk h)[j]?.getD false = (((Srch.list mk (wd * hg).toNat).any fun c => decide ((j : Int) ∈ Srch.reach wd hg c h.f0.f0 h.f0.f1 h.f1.f0 h.f1.f1)) && !decide ((j : Int) ∈ h.f2)) := by
 unfold Srch.next
 have e : (List.replicate (wd * hg).toNat false)[j]?.getD false = false := by
  rw [List.getElem?_replicate]
  split <;> rfl
 rw [Srch.unmark_at _ _ h0 (by rw [Srch.hourMk_length, List.length_replicate]; exact hj), Srch.hourMk_at _ _ (by rw [List.length_replicate]; exact hj), e, Bool.false_or]
theorem Srch.More.next {wd hg : Int} {h h' : S79} (hh : Srch.More h h') {a b : List Bool} (hab : Srch.le (wd * hg).toNat a b) : Srch.le (wd * hg).toNat (Srch.next wd hg a h') (Srch.next wd hg b h) := by
 obtain ⟨e0, e1, hs, p1, p0⟩ := hh
 intro j hj hx
 rw [Srch.next_at p1 a hj, e0, e1] at hx
 rw [Srch.next_at p0 b hj]
 simp only [Bool.and_eq_true, List.any_eq_true, Bool.not_eq_true', decide_eq_false_iff_not, decide_eq_true_eq] at hx ⊢
 obtain ⟨⟨c, hc, hr⟩, hn⟩ := hx
 exact ⟨⟨c, hab.list hc, hr⟩, fun hm => hn (hs _ hm)⟩
theorem Srch.More.lost {wd hg : Int} {h h' : S79} (hh : Srch.More h h') {a b : List Bool} (hab : Srch.le (wd * hg).toNat a b) (hx : Srch.lost wd hg a h' = true) : Srch.lost wd hg b h = true := by
 obtain ⟨e0, e1, _⟩ := hh
 unfold Srch.lost Srch.hourLf at hx ⊢
 rw [e0, e1] at hx
 rw [List.any_eq_true] at hx ⊢
 obtain ⟨c, hc, hr⟩ := hx
 exact ⟨c, hab.list hc, hr⟩
theorem Srch.More.refl {h : S79} (h0 : ∀ x ∈ h.f2, 0 ≤ x) : Srch.More h h := ⟨rfl, rfl, fun _ hx => hx, h0, h0⟩
inductive Srch.Mores : List S79 → List S79 → Prop where
 | nil : Srch.Mores [] []
 | cons {h h' : S79} {l l' : List S79} : Srch.More h h' → Srch.Mores l l' → Srch.Mores (h :: l) (h' :: l')
theorem Srch.Mores.go {wd hg : Int} {l l' : List S79} (hl : Srch.Mores l l') : ∀ {p q : List Bool × Bool}, Srch.le (wd * hg).toNat p.1 q.1 → Srch.le (wd * hg).toNat (Srch.go wd hg l' p).1 (Srch.go wd hg l q).1 := by
 induction hl with
 | nil => exact fun h => h
 | cons hh _ ih => exact fun h => ih (hh.next h)
theorem Srch.fnd_ge {wd hg : Int} : ∀ (l : List S79) (n : Nat) (mk : List Bool), (Srch.fnd wd hg n l mk).2 = 0 → (n : Int) ≤ (Srch.fnd wd hg n l mk).1
 | [], n, mk, h => by
  rw [Srch.fnd] at h ⊢
  by_cases q : (Srch.list mk (wd * hg).toNat).length = 0
  ·rw [if_pos q]
   exact Int.le_refl _
  rw [if_neg q] at h
  cases h
 | x :: l, n, mk, h => by
  rw [Srch.fnd] at h ⊢
  by_cases q : (Srch.list mk (wd * hg).toNat).length = 0
  ·rw [if_pos q]
   exact Int.le_refl _
  rw [if_neg q] at h ⊢
  by_cases q2 : Srch.lost wd hg mk x = true
  ·rw [if_pos q2] at h
   cases h
  rw [if_neg q2] at h ⊢
  have := Srch.fnd_ge l (n + 1) _ h
  omega
theorem Srch.fnd_cases {wd hg : Int} : ∀ (l : List S79) (n : Nat) (mk : List Bool), (Srch.fnd wd hg n l mk).2 = 0 ∨ Srch.fnd wd hg n l mk = (0, 5)
 | [], n, mk => by
  rw [Srch.fnd]
  by_cases q : (Srch.list mk (wd * hg).toNat).length = 0
  ·rw [if_pos q]
   exact .inl rfl
  rw [if_neg q]
  exact .inr rfl
 | x :: l, n, mk => by
  rw [Srch.fnd]
  by_cases q : (Srch.list mk (wd * hg).toNat).length = 0
  ·rw [if_pos q]
   exact .inl rfl
  rw [if_neg q]
  by_cases q2 : Srch.lost wd hg mk x = true
  ·rw [if_pos q2]
   exact .inr rfl
  rw [if_neg q2]
  exact Srch.fnd_cases l (n + 1) _
theorem Srch.le.empty {m : Nat} {a b : List Bool} (h : Srch.le m a b) (hb : (Srch.list b m).length = 0) : (Srch.list a m).length = 0 := by
 rw [List.length_eq_zero_iff] at hb ⊢
 rw [List.eq_nil_iff_forall_not_mem] at hb ⊢
 exact fun x hx => hb x (h.list hx)
theorem Srch.Mores.fnd {wd hg : Int} {l l' : List S79} (hl : Srch.Mores l l') : ∀ {n : Nat} {a b : List Bool}, Srch.le (wd * hg).toNat a b → (Srch.fnd wd hg n l b).2 = 0 → (Srch.fnd wd hg n l' a).2 = 0 ∧ (Srch.fnd wd hg n l' a).1 ≤ (Srch.fnd wd hg n l b).1 := by
 induction hl with
 | nil =>
  intro n a b hab h
  rw [Srch.fnd] at h ⊢
  rw [Srch.fnd]
  by_cases q : (Srch.list b (wd * hg).toNat).length = 0
  ·rw [if_pos (hab.empty q), if_pos q]
   exact ⟨rfl, Int.le_refl _⟩
  rw [if_neg q] at h
  cases h
 | @cons x x' l l' hh _ ih =>
  intro n a b hab h
  have hge := Srch.fnd_ge (x :: l) n b h
  rw [Srch.fnd] at h hge
  rw [Srch.fnd, Srch.fnd]
  by_cases qa : (Srch.list a (wd * hg).toNat).length = 0
  ·rw [if_pos qa]
   exact ⟨rfl, hge⟩
  have q : ¬ (Srch.list b (wd * hg).toNat).length = 0 := fun e => qa (hab.empty e)
  rw [if_neg q] at h hge
  by_cases q2 : Srch.lost wd hg b x = true
  ·rw [if_pos q2] at h
   cases h
  rw [if_neg q2] at h hge
  rw [if_neg qa, if_neg q, if_neg (fun e => q2 (hh.lost hab e)), if_neg q2]
  exact ih (hh.next hab) h
theorem Srch.okL_length {m : Int} : ∀ (l : List Int) (p : Int), p < m → Srch.okL m p l = true → (l.length : Int) ≤ m - p - 1
 | [], p, hp, _ => by
  simp only [List.length_nil]
  omega
 | x :: l, p, hp, h => by
  simp only [Srch.okL, Bool.and_eq_true, decide_eq_true_eq] at h
  have := Srch.okL_length l x (by omega) h.2
  simp only [List.length_cons]
  omega
theorem Srch.okL_of {m : Int} : ∀ (l : List Int) (p : Int), (∀ x ∈ l, 0 ≤ x ∧ x < m ∧ p < x) → l.Pairwise (· < ·) → Srch.okL m p l = true
 | [], _, _, _ => rfl
 | x :: l, p, h, hs => by
  rw [List.pairwise_cons] at hs
  have hx := h x List.mem_cons_self
  simp only [Srch.okL, Bool.and_eq_true, decide_eq_true_eq]
  exact ⟨⟨⟨hx.1, hx.2.1⟩, hx.2.2⟩, Srch.okL_of l x (fun y hy => ⟨(h y (List.mem_cons_of_mem _ hy)).1, (h y (List.mem_cons_of_mem _ hy)).2.1, hs.1 y hy⟩) hs.2⟩
def Srch.with_ (c : Int) (s : List Int) : List Int := s.filter (fun x => decide (x < c)) ++ [c] ++ s.filter (fun x => decide (x > c))
theorem Srch.mem_with {c : Int} {s : List Int} {x : Int} : x ∈ Srch.with_ c s ↔ x = c ∨ x ∈ s := by
 unfold Srch.with_
 simp only [List.mem_append, List.mem_filter, List.mem_singleton, decide_eq_true_eq]
 constructor
 ·rintro ((⟨h, _⟩ | h) | ⟨h, _⟩)
  ·exact .inr h
  ·exact .inl h
  exact .inr h
 rintro (h | h)
 ·exact .inl (.inr h)
 by_cases q : x < c
 ·exact .inl (.inl ⟨h, q⟩)
 by_cases q2 : x = c
 ·exact .inl (.inr q2)
 exact .inr ⟨h, by omega⟩
theorem Srch.with_ok {m c : Int} {s : List Int} (hs : Srch.okL m (-1) s = true) (hc0 : 0 ≤ c) (hc1 : c < m) : Srch.okL m (-1) (Srch.with_ c s) = true := by
 obtain ⟨h1, h2⟩ := Srch.okL_spec _ _ hs
 refine Srch.okL_of _ _ (fun x hx => ?_) ?_
 ·rcases Srch.mem_with.1 hx with rfl | h
  ·exact ⟨hc0, hc1, by omega⟩
  exact h1 x h
 unfold Srch.with_
 rw [List.append_assoc, List.pairwise_append]
 refine ⟨h2.filter _, ?_, ?_⟩
 ·rw [List.singleton_append, List.pairwise_cons]
  refine ⟨fun y hy => ?_, h2.filter _⟩
  have := (List.mem_filter.1 hy).2
  simpa using this
 intro x hx y hy
 have h3 := (List.mem_filter.1 hx).2
 rw [decide_eq_true_eq] at h3
 rw [List.singleton_append, List.mem_cons] at hy
 rcases hy with rfl | hy
 ·exact h3
 have h4 := (List.mem_filter.1 hy).2
 rw [decide_eq_true_eq] at h4
 omega
theorem Srch.Mores.self : ∀ {l : List S79}, (∀ h ∈ l, ∀ x ∈ h.f2, 0 ≤ x) → Srch.Mores l l
 | [], _ => .nil
 | h :: l, H => .cons (Srch.More.refl (H h List.mem_cons_self)) (Srch.Mores.self fun h' hh => H h' (List.mem_cons_of_mem _ hh))
theorem Srch.Mores.set : ∀ {l : List S79} {i : Nat} (_ : i < l.length) {h' : S79}, (∀ h ∈ l, ∀ x ∈ h.f2, 0 ≤ x) → Srch.More l[i] h' → Srch.Mores l (l.set i h')
 | h :: l, 0, _, h', H, hh => .cons hh (Srch.Mores.self fun h' hh => H h' (List.mem_cons_of_mem _ hh))
 | h :: l, i + 1, hi, h', H, hh => .cons (Srch.More.refl (H h List.mem_cons_self)) (Srch.Mores.set (Nat.lt_of_succ_lt_succ hi) (fun h' hh => H h' (List.mem_cons_of_mem _ hh)) hh)
theorem Law2.foundU16 {n : Int} (h : (Lit.int .u16 n).wf = true) : 0 ≤ n ∧ n < 65536 := by
 have e : (decide ((0 : Int) ≤ n) && decide (n ≤ 65535)) = true := h
 simp at e
 omega
section
variable {wd hg : Int} {st : List Int} {l : List S79} {x3 x4 : Int}
theorem Law2.foundL0 (hl : Srch.Few l) (hst : st.length ≤ 700) (q : Srch.err wd hg st l = 0) {n e : Int} {N : Nat} (hN : 74000 ≤ N)
  (J : ∀ (k : Nat) (want : Int) (is : Bool), N ≤ k → is = (e == 0) → (is = true → n = want) → isobathlaw02_MooringFound.j3 k st l x3 x4 e n want is wd hg = some true) :
  ∀ (r i : Nat) (mk : List Bool) (lf : Bool) (want : Int) (k : Nat), i + r = l.length → Srch.go wd hg (l.take i) (Srch.start wd hg st, false) = (mk, lf) → (lf = true → e ≠ 0) → (lf = false → Srch.fnd wd hg i (l.drop i) mk = (n, e)) → N + 3 * r + 10 ≤ k →
   isobathlaw02_MooringFound.l0 k st l x3 x4 e n want false (i : Int) wd hg = some true := by
 intro r
 induction r with
 | zero =>
  intro i mk lf want k hi hgo h1 h2 hk
  obtain ⟨k, rfl⟩ : ∃ k', k = k' + 1 + 1 + 1 + 1 := ⟨k - 4, by omega⟩
  obtain ⟨hF, hW⟩ := Srch.whr_take hl hst q i
  have h60 := hl.1
  rw [hgo] at hW
  rw [isobathlaw02_MooringFound.l0, if_pos (by omega), isobathlaw02_MooringFound.j2, if_pos (by rfl), if_pos (Int.natCast_nonneg _), if_pos (by omega), Int.toNat_natCast, Srch.where_f hF hst (by omega), Option.bind_some, hW, if_pos rfl]
  cases lf with
  | true =>
   rw [if_pos rfl]
   exact J _ _ _ (by omega) (beq_eq_false_iff_ne.mpr (h1 rfl)).symm (fun h => by cases h)
  | false =>
   have hf := h2 rfl
   rw [List.drop_eq_nil_of_le (by omega), Srch.fnd] at hf
   simp only [Bool.false_eq_true, if_false]
   rw [isobathlaw02_MooringFound.l0, wrap_id (by omega) (by omega), if_neg (by omega), isobathlaw02_MooringFound.j2, if_neg (by decide)]
   by_cases q1 : (Srch.list mk (wd * hg).toNat).length = 0
   ·rw [if_pos q1] at hf
    obtain ⟨rfl, rfl⟩ := Prod.mk.inj hf
    have e1 : (((Srch.list mk (wd * hg).toNat).length : Int) == 0) = true := beq_iff_eq.mpr (by omega)
    rw [e1]
    exact J _ _ _ (by omega) rfl (fun _ => rfl)
   rw [if_neg q1] at hf
   obtain ⟨rfl, rfl⟩ := Prod.mk.inj hf
   have e1 : (((Srch.list mk (wd * hg).toNat).length : Int) == 0) = false := beq_eq_false_iff_ne.mpr (by omega)
   rw [e1]
   exact J _ _ _ (by omega) rfl (fun h => by cases h)
 | succ r ih =>
  intro i mk lf want k hi hgo h1 h2 hk
  obtain ⟨k, rfl⟩ : ∃ k', k = k' + 1 + 1 + 1 + 1 := ⟨k - 4, by omega⟩
  obtain ⟨hF, hW⟩ := Srch.whr_take hl hst q i
  have h60 := hl.1
  have hlt : i < l.length := by omega
  rw [hgo] at hW
  rw [isobathlaw02_MooringFound.l0, if_pos (by omega), isobathlaw02_MooringFound.j2, if_pos (by rfl), if_pos (Int.natCast_nonneg _), if_pos (by omega), Int.toNat_natCast, Srch.where_f hF hst (by omega), Option.bind_some, hW, if_pos rfl]
  cases lf with
  | true =>
   rw [if_pos rfl]
   exact J _ _ _ (by omega) (beq_eq_false_iff_ne.mpr (h1 rfl)).symm (fun h => by cases h)
  | false =>
   have hf := h2 rfl
   rw [drop_cons hlt, Srch.fnd] at hf
   have hgo2 : Srch.go wd hg (l.take (i + 1)) (Srch.start wd hg st, false) = (Srch.next wd hg mk l[i], Srch.lost wd hg mk l[i]) := by
    rw [take_snoc hlt, Srch.go_append, hgo]
    rfl
   simp only [Bool.false_eq_true, if_false]
   rw [wrap_succ hlt (by omega)]
   by_cases q1 : (Srch.list mk (wd * hg).toNat).length = 0
   ·rw [if_pos q1] at hf
    obtain ⟨rfl, rfl⟩ := Prod.mk.inj hf
    have e1 : (((Srch.list mk (wd * hg).toNat).length : Int) == 0) = true := beq_iff_eq.mpr (by omega)
    rw [e1, isobathlaw02_MooringFound.l0, if_pos (by omega), isobathlaw02_MooringFound.j2, if_neg (by decide)]
    exact J _ _ _ (by omega) rfl (fun _ => rfl)
   rw [if_neg q1] at hf
   have e1 : (((Srch.list mk (wd * hg).toNat).length : Int) == 0) = false := beq_eq_false_iff_ne.mpr (by omega)
   rw [e1]
   refine ih (i + 1) _ _ _ _ (by omega) hgo2 (fun h => ?_) (fun h => ?_) (by omega)
   ·rw [if_pos h] at hf
    obtain ⟨rfl, rfl⟩ := Prod.mk.inj hf
    decide
   rw [if_neg (by rw [h]; decide)] at hf
   exact hf
theorem Law2.foundL1 {n e c : Int} {m : List S79} {i : Nat} (hi : i < l.length) (hs : l[i].f2.length ≤ 1000) : ∀ (r j : Nat) (acc : List Int) (k : Nat), j + r = l[i].f2.length → acc.length ≤ j →
  isobathlaw02_MooringFound.l1 (k + r + 1) st l e n m (i : Int) c acc (j : Int) wd hg = isobathlaw02_MooringFound.l2 k st l e n m (i : Int) c (acc ++ (l[i].f2.drop j).filter (fun x => decide (x < c)) ++ [c]) 0 wd hg
 | 0, j, acc, k, hj, ha => by
  rw [isobathlaw02_MooringFound.l1, if_pos (Int.natCast_nonneg _), if_pos (by omega), Srch.hour_at hi, if_neg (by omega), if_pos (by omega), List.drop_eq_nil_of_le (by omega), List.filter_nil, List.append_nil]
 | r + 1, j, acc, k, hj, ha => by
  have hlt : j < l[i].f2.length := by omega
  rw [show k + (r + 1) + 1 = (k + r + 1) + 1 by omega, isobathlaw02_MooringFound.l1, if_pos (Int.natCast_nonneg _), if_pos (by omega), Srch.hour_at hi, if_pos (by omega), if_pos (Int.natCast_nonneg _), rd_nat hlt, wrap_succ hlt (by omega), drop_cons hlt, List.filter_cons]
  by_cases q : l[i].f2[j] < c
  ·rw [if_pos q, if_pos (by omega), if_pos (zdt q), Law2.foundL1 hi hs r (j + 1) _ k (by omega) (by rw [List.length_append]; simp; omega), List.append_assoc acc]
   rfl
  rw [if_neg q, if_neg (by simpa using q)]
  exact Law2.foundL1 hi hs r (j + 1) acc k (by omega) (by omega)
theorem Law2.foundL2 {n e c : Int} {m : List S79} {i : Nat} (hi : i < l.length) (him : i < m.length) (hs : l[i].f2.length ≤ 1000) {N : Nat}
  (J : ∀ (k : Nat) (s' : List Int), N ≤ k → s' = Srch.with_ c l[i].f2 → ((mooring_Where.f k wd hg st l).bind fun bt145 => ((mooring_Where.f k wd hg st (m.set i ⟨m[i].f0, m[i].f1, s'⟩)).bind fun bt150 => (if bt145.2.2 = 0 then (isobathlaw02_MooringFound.j7 k st e n (m.set i ⟨m[i].f0, m[i].f1, s'⟩) bt145.1 bt150.1 (bt150.2.2 != 0) wd hg) else (none)))) = some true) :
  ∀ (r j : Nat) (acc : List Int) (k : Nat), j + r = l[i].f2.length → acc.length ≤ j + 1100 → N ≤ k → acc ++ (l[i].f2.drop j).filter (fun x => decide (x > c)) = Srch.with_ c l[i].f2 →
   isobathlaw02_MooringFound.l2 (k + r + 1) st l e n m (i : Int) c acc (j : Int) wd hg = some true
 | 0, j, acc, k, hj, ha, hk, hw => by
  rw [List.drop_eq_nil_of_le (by omega), List.filter_nil, List.append_nil] at hw
  rw [isobathlaw02_MooringFound.l2, if_pos (Int.natCast_nonneg _), if_pos (by omega), Srch.hour_at hi, if_neg (by omega), if_pos (by omega), Option.bind_some, Srch.hour_at him, Int.toNat_natCast]
  exact J k acc hk hw
 | r + 1, j, acc, k, hj, ha, hk, hw => by
  have hlt : j < l[i].f2.length := by omega
  rw [drop_cons hlt, List.filter_cons] at hw
  rw [show k + (r + 1) + 1 = (k + r + 1) + 1 by omega, isobathlaw02_MooringFound.l2, if_pos (Int.natCast_nonneg _), if_pos (by omega), Srch.hour_at hi, if_pos (by omega), if_pos (Int.natCast_nonneg _), rd_nat hlt, wrap_succ hlt (by omega)]
  by_cases q : l[i].f2[j] > c
  ·rw [if_pos (zdt q)] at hw
   rw [if_pos q, if_pos (by omega)]
   refine Law2.foundL2 hi him hs J r (j + 1) _ k (by omega) (by rw [List.length_append]; simp; omega) hk ?_
   rw [List.append_assoc]
   exact hw
  rw [if_neg (by simpa using q)] at hw
  rw [if_neg q]
  exact Law2.foundL2 hi him hs J r (j + 1) acc k (by omega) (by omega) hk hw
theorem Law2.foundL4 {n e : Int} {m : List S79} {x y : List Int} (hx : x.Pairwise (· < ·)) (hy : y.Pairwise (· < ·)) (hxl : x.length ≤ 1000) (hyl : y.length ≤ 1000) {N : Nat}
  (J : ∀ (k : Nat) (a : Int), N ≤ k → isobathlaw02_MooringFound.l3 k st e n m x y a (y.length : Int) wd hg = some true) :
  ∀ (s a b k : Nat), (y.length - b) + (x.length - a) ≤ s → b < y.length → (∀ j, b ≤ j → ∀ h : j < y.length, y[j] ∈ x.drop a) → N + 3 * s + 3 ≤ k →
   isobathlaw02_MooringFound.l4 k st e n m x y (a : Int) (b : Int) wd hg = some true
 | 0, a, b, k, hs, hb, _, _ => by omega
 | s + 1, a, b, k, hs, hb, hm, hk => by
  obtain ⟨k, rfl⟩ : ∃ k', k = k' + 1 + 1 := ⟨k - 2, by omega⟩
  have hmb := hm b (Nat.le_refl _) hb
  have ha : a < x.length := by
   rcases Nat.lt_or_ge a x.length with h | h
   ·exact h
   rw [List.drop_eq_nil_of_le h] at hmb
   cases hmb
  rw [isobathlaw02_MooringFound.l4, if_pos (by omega), if_pos (by omega), if_pos (by omega), if_pos (by omega), rd_nat ha, rd_nat hb]
  have hd := drop_cons ha
  have hxd : (x.drop a).Pairwise (· < ·) := hx.drop
  rw [hd, List.pairwise_cons] at hxd
  by_cases q : x[a] < y[b]
  ·rw [if_pos q, wrap_succ ha (by omega)]
   refine Law2.foundL4 hx hy hxl hyl J s (a + 1) b (k + 1) (by omega) hb (fun j hj hjl => ?_) (by omega)
   have h1 := hm j hj hjl
   rw [hd, List.mem_cons] at h1
   rcases h1 with h1 | h1
   ·have h2 : y[b] ≤ y[j] := by
     rcases Nat.lt_or_eq_of_le hj with h | h
     ·exact Int.le_of_lt (List.pairwise_iff_getElem.1 hy b j hb hjl h)
     subst h
     exact Int.le_refl _
    omega
   exact h1
  have he : x[a] = y[b] := by
   rw [hd, List.mem_cons] at hmb
   rcases hmb with h | h
   ·exact h.symm
   have := hxd.1 _ h
   omega
  rw [if_neg q, if_neg (by omega), if_pos he, wrap_succ hb (by omega)]
  by_cases q2 : b + 1 < y.length
  ·rw [isobathlaw02_MooringFound.l3, if_pos (by omega)]
   exact Law2.foundL4 hx hy hxl hyl J s a (b + 1) k (by omega) q2 (fun j hj hjl => hm j (by omega) hjl) (by omega)
  rw [show b + 1 = y.length by omega]
  exact J (k + 1) a (by omega)
end
theorem Law2.found (wd hg : Int) (st : List Int) (l : List S79) (x3 x4 : Int) (h3 : 0 ≤ x3 ∧ x3 < 65536) (h4 : 0 ≤ x4 ∧ x4 < 65536) : isobathlaw02_MooringFound.f 100000 wd hg st l x3 x4 = some true := by
 unfold isobathlaw02_MooringFound.f
 obtain ⟨b, hb, hF⟩ := Law2.wide st l (show 70 ≤ 100000 by omega)
 have fine : ∀ k, isobathlaw02_MooringFound.j0 (k + 61) st l x3 x4 true wd hg = some true := fun k => by
  rw [isobathlaw02_MooringFound.j0, if_pos rfl, Law2.fine (by omega), Option.bind_some]
 rw [hb, Option.bind_some]
 cases b with
 | true => rw [if_pos rfl]; exact fine 99939
 | false =>
  obtain ⟨hst, hl⟩ := hF rfl
  rw [if_neg (by decide)]
  by_cases q8 : (l.length : Int) > 8
  ·rw [zdt q8]
   exact fine 99939
  rw [zdf q8, isobathlaw02_MooringFound.j0, if_neg (by decide), Srch.refWhere_f hl hst (by omega), Option.bind_some]
  by_cases q : Srch.err wd hg st l = 0
  rotate_left
  ·have e1 : ¬ (Srch.whr wd hg st l).2.2 = 0 := by
    unfold Srch.whr
    rw [if_neg q]
    exact q
   rw [if_neg e1, Law2.fine (by omega), Option.bind_some]
  have e1 : (Srch.whr wd hg st l).2.2 = 0 := by
   unfold Srch.whr
   rw [if_pos q]
  rw [if_pos e1, Srch.found_f hl hst (by omega), Option.bind_some]
  obtain ⟨⟨n, e⟩, hne⟩ : ∃ p, Srch.fnd wd hg 0 l (Srch.start wd hg st) = p := ⟨_, rfl⟩
  have hfe : Srch.fndE wd hg st l = (n, e) := by
   unfold Srch.fndE
   rw [if_pos q, hne]
  rw [hfe]
  refine Law2.foundL0 hl hst q (N := 90000) (by omega) (fun k want is hk h1 h2 => ?_) l.length 0 (Srch.start wd hg st) false 0 99999 (by omega) rfl (fun h => by cases h) (fun _ => hne) (by omega)
  -- behind the first loop
  obtain ⟨k, rfl⟩ : ∃ k', k = k' + 1 + 1 := ⟨k - 2, by omega⟩
  have hcs := Srch.fnd_cases (wd := wd) (hg := hg) l 0 (Srch.start wd hg st)
  rw [hne] at hcs
  obtain ⟨h48, hw0, hw1, hh0, hh1, hS, hH⟩ := Srch.err_ok q
  have hA := Srch.area_le hw0 hw1 hh0 hh1
  have hwh : wrap64 (wd * hg) = wd * hg := wrap_id (by have := Int.mul_nonneg (show 0 ≤ wd by omega) (show 0 ≤ hg by omega); omega) (by omega)
  have hpos : 0 < wd * hg := Int.mul_pos (by omega) (by omega)
  -- what comes behind j4
  have J4 : isobathlaw02_MooringFound.j4 (k + 1) st l x3 x4 e n false wd hg = some true := by
   rw [isobathlaw02_MooringFound.j4, if_neg (by decide)]
   by_cases q0 : (l.length : Int) = 0
   ·rw [if_pos q0, Law2.fine (by omega), Option.bind_some]
   rw [if_neg q0, Option.bind_some, if_pos (by simp; omega), hwh, if_neg (by omega), List.nil_append, wrap_id (n := x3) (by omega) (by omega), wrap_id (n := x4) (by omega) (by omega), Int.tmod_eq_emod_of_nonneg h3.1, Int.tmod_eq_emod_of_nonneg h4.1]
   have i1 := Int.emod_nonneg x3 q0
   have i2 := Int.emod_lt_of_pos x3 (show 0 < (l.length : Int) by omega)
   have c1 := Int.emod_nonneg x4 (show wd * hg ≠ 0 by omega)
   have c2 := Int.emod_lt_of_pos x4 hpos
   obtain ⟨i, hi⟩ : ∃ i : Nat, x3 % (l.length : Int) = (i : Int) := ⟨(x3 % (l.length : Int)).toNat, by omega⟩
   obtain ⟨c, hc⟩ : ∃ c, x4 % (wd * hg) = c := ⟨_, rfl⟩
   rw [hi] at i1 i2 ⊢
   rw [hc] at c1 c2 ⊢
   have hil : i < l.length := by omega
   have hHi := hH _ (List.getElem_mem hil)
   have hs7 := hl.2 _ (List.getElem_mem hil)
   simp only [Srch.okH, Bool.and_eq_true] at hHi
   have hlen := Srch.okL_length _ _ (by omega) hHi.2
   obtain ⟨k, rfl⟩ : ∃ k', k = k' + l[i].f2.length + 1 := ⟨k - l[i].f2.length - 1, by omega⟩
   have a1 := Law2.foundL1 (wd := wd) (hg := hg) (st := st) (n := n) (e := e) (c := c) (m := l) hil (by omega) l[i].f2.length 0 [] k (by omega) (by simp)
   rw [show ((0 : Nat) : Int) = 0 from rfl, List.drop_zero, List.nil_append] at a1
   rw [a1]
   obtain ⟨k, rfl⟩ : ∃ k', k = k' + l[i].f2.length + 1 := ⟨k - l[i].f2.length - 1, by omega⟩
   have hfl : ((l[i].f2.filter fun x => decide (x < c))).length ≤ l[i].f2.length := List.length_filter_le _ _
   refine Law2.foundL2 hil hil (by omega) (N := 80000) (fun k s' hk hs' => ?_) l[i].f2.length 0 _ k (by omega) (by rw [List.length_append]; simp; omega) (by omega) (by rw [List.drop_zero]; rfl)
   subst hs'
   obtain ⟨h', hh'⟩ : ∃ h' : S79, h' = ⟨l[i].f0, l[i].f1, Srch.with_ c l[i].f2⟩ := ⟨_, rfl⟩
   obtain ⟨m, hm⟩ : ∃ m, m = l.set i h' := ⟨_, rfl⟩
   rw [← hh', ← hm]
   -- the hours with one more cell searched
   have okw := Srch.with_ok hHi.2 c1 c2
   have hokH : Srch.okH (wd * hg) h' = true := by
    rw [hh']
    simp only [Srch.okH, Bool.and_eq_true]
    exact ⟨hHi.1, okw⟩
   have hlenw := Srch.okL_length _ _ (by omega) okw
   have hmH : ∀ x ∈ m, Srch.okH (wd * hg) x = true := fun x hx => by
    rw [hm] at hx
    rcases List.mem_or_eq_of_mem_set hx with h | h
    ·exact hH x h
    exact h ▸ hokH
   have hml : m.length = l.length := by rw [hm, List.length_set]
   have hmF : Srch.Few m := ⟨by rw [hml]; exact hl.1, fun x hx => by
    have h1 := hmH x hx
    simp only [Srch.okH, Bool.and_eq_true] at h1
    have h2 := Srch.okL_length _ _ (by omega) h1.2
    omega⟩
   have hme : Srch.err wd hg st m = 0 := Srch.err_of (by omega) hw0 hw1 hh0 hh1 hS hmH
   have nn : ∀ h ∈ l, ∀ x ∈ h.f2, 0 ≤ x := fun h hh x hx => by
    have h1 := hH h hh
    simp only [Srch.okH, Bool.and_eq_true] at h1
    exact ((Srch.okL_spec _ _ h1.2).1 x hx).1
   have hmore : Srch.Mores l m := by
    rw [hm]
    refine Srch.Mores.set hil nn ?_
    rw [hh']
    exact ⟨rfl, rfl, fun x hx => Srch.mem_with.2 (.inr hx), fun x hx => ((Srch.okL_spec _ _ okw).1 x hx).1, fun x hx => nn _ (List.getElem_mem hil) x hx⟩
   have hwl : Srch.whr wd hg st l = (Srch.list (Srch.go wd hg l (Srch.start wd hg st, false)).1 (wd * hg).toNat, (Srch.go wd hg l (Srch.start wd hg st, false)).2, 0) := by
    unfold Srch.whr
    rw [if_pos q]
   have hwm : Srch.whr wd hg st m = (Srch.list (Srch.go wd hg m (Srch.start wd hg st, false)).1 (wd * hg).toNat, (Srch.go wd hg m (Srch.start wd hg st, false)).2, 0) := by
    unfold Srch.whr
    rw [if_pos hme]
   have hle := hmore.go (wd := wd) (hg := hg) (p := (Srch.start wd hg st, false)) (q := (Srch.start wd hg st, false)) (fun _ _ h => h)
   rw [Srch.where_f hl hst (by omega), Srch.where_f hmF hst (by omega), Option.bind_some, Option.bind_some, hwl, hwm, if_pos rfl]
   obtain ⟨X, hX⟩ : ∃ X, Srch.list (Srch.go wd hg l (Srch.start wd hg st, false)).1 (wd * hg).toNat = X := ⟨_, rfl⟩
   obtain ⟨Y, hY⟩ : ∃ Y, Srch.list (Srch.go wd hg m (Srch.start wd hg st, false)).1 (wd * hg).toNat = Y := ⟨_, rfl⟩
   have hXp : X.Pairwise (· < ·) := hX ▸ Srch.list_pairwise _ _
   have hYp : Y.Pairwise (· < ·) := hY ▸ Srch.list_pairwise _ _
   have hXl : X.length ≤ 576 := by rw [← hX]; exact Nat.le_trans (Srch.list_le _ _) (by omega)
   have hYl : Y.length ≤ 576 := by rw [← hY]; exact Nat.le_trans (Srch.list_le _ _) (by omega)
   have hYX : ∀ x ∈ Y, x ∈ X := fun x hx => by
    rw [← hY] at hx
    rw [← hX]
    exact hle.list hx
   simp only [hX, hY]
   obtain ⟨k, rfl⟩ : ∃ k', k = k' + 1 + 1 := ⟨k - 2, by omega⟩
   rw [isobathlaw02_MooringFound.j7, if_neg (by decide)]
   -- the end
   have J3 : ∀ (k : Nat) (a : Int), 75000 ≤ k → isobathlaw02_MooringFound.l3 k st e n m X Y a (Y.length : Int) wd hg = some true := fun k a hk => by
    obtain ⟨k, rfl⟩ : ∃ k', k = k' + 1 := ⟨k - 1, by omega⟩
    rw [isobathlaw02_MooringFound.l3, if_neg (by omega), Srch.found_f hmF hst (by omega), Option.bind_some]
    by_cases qe : e = 0
    ·have h0 : (Srch.fnd wd hg 0 l (Srch.start wd hg st)).2 = 0 := by rw [hne]; exact qe
     have h1 := hmore.fnd (wd := wd) (hg := hg) (n := 0) (a := Srch.start wd hg st) (b := Srch.start wd hg st) (fun _ _ h => h) h0
     rw [hne] at h1
     have h2 : Srch.fndE wd hg st m = Srch.fnd wd hg 0 m (Srch.start wd hg st) := by
      unfold Srch.fndE
      rw [if_pos hme]
     rw [if_pos qe, h2, if_pos h1.1, if_pos h1.2, Law2.fine (by omega), Option.bind_some]
    rw [if_neg qe, Law2.fine (by omega), Option.bind_some]
   by_cases qy : Y.length = 0
   ·have h := J3 (k + 1) 0 (by omega)
    rw [qy] at h
    exact h
   rw [isobathlaw02_MooringFound.l3, if_pos (by omega)]
   exact Law2.foundL4 hXp hYp (by omega) (by omega) J3 (Y.length + X.length) 0 0 k (by omega) (by omega) (fun j _ hj => by rw [List.drop_zero]; exact hYX _ (List.getElem_mem hj)) (by omega)
  rw [isobathlaw02_MooringFound.j3, if_neg (by rw [h1]; simp)]
  cases is with
  | true => rw [if_pos rfl, if_pos (h2 rfl)]; exact J4
  | false =>
   have he0 : e ≠ 0 := beq_eq_false_iff_ne.mp h1.symm
   rcases hcs with h | h
   ·exact absurd h he0
   obtain ⟨rfl, rfl⟩ := Prod.mk.inj h
   rw [if_neg (by decide), if_pos rfl]
   exact J4
theorem mooringFound_holds : Rows.MooringFoundSaid := mooringFound.proved fun a st l x3 x4 _ _ _ h3 h4 => ⟨100000, Law2.found a.f0 a.f1 st l x3 x4 (Law2.foundU16 h3) (Law2.foundU16 h4)⟩
#print axioms mooringFound_holds
end Go.Proofs.Ytebcmhajbjkojaa.P
