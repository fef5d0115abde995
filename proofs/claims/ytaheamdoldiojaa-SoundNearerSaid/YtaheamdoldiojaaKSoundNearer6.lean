/- each box of a region lies in one of the region with a lesser depth; with narrower arrivals, and with another station, no box is in the region that was not in it. Part 7 of 7. -/
-- Put together by wip/tools/shake.py, a program of this work: out of the words that the kit's print tool (print.sh) writes for a claim and what wip/tools/xprint.py prints, those that this claim reaches, and this work's own texts.
import Derived.Deep.Slices
import Derived.OpenShut
import Derived.Test.YtaheamdoldiojaaRows
import Derived.WalkKit
import Derived.ProofKit
import Derived.ShutString
import Derived.ChangeOld
import Derived.Below
import Derived.SizedLaws
import Derived.Carry
import Derived.Test.YtaheamdoldiojaaKSoundNearer5
namespace Go.Proofs.Ytaheamdoldiojaa.P
open Go.RowKit Go.Proofs.YtaheamdoldiojaaW.PrintWords Go.Proofs.YtaheamdoldiojaaW.PrintLast Go.Proofs.YtaheamdoldiojaaW.PrintMore
attribute [local go_sem] max2_int min2_int max_two min_two max_three min_three max_four min_four   -- for this text's walks alone
set_option linter.unusedVariables false
set_option linter.unusedSimpArgs false
structure Opens {α : Type} (P : Program) (t : TypeId) (d : Kd α) (B : α → Prop) : Prop where
 run : ∀ {H : Type} {enc : TypeId × Value → H} {W : World} {fuel : Nat} {cs : List Value} {x : DataW H × List MemPlace}, DataW.trod enc P W 0 (fun _ => true) true fuel t cs = some x → ∃ a : α, d.K W a cs ∧ B a
theorem Opens.int {P : Program} {t : TypeId} {k : IntKind} (ht : P.underlying t = some (.int k)) : Opens P t (Kd.int k) (fun n => (Lit.int k n).wf = true) :=
 ⟨fun h => by
  obtain ⟨n, rfl, _, hw⟩ := DataW.trod_int ht h
  exact ⟨n, rfl, hw⟩⟩
theorem Opens.bool {P : Program} {t : TypeId} (ht : P.underlying t = some .bool) : Opens P t Kd.bool (fun _ => True) :=
 ⟨fun h => by
  obtain ⟨n, rfl, _⟩ := DataW.trod_bool ht h
  exact ⟨n, rfl, trivial⟩⟩
theorem Opens.slice {α : Type} {P : Program} {t e : TypeId} {d : Kd α} {B : α → Prop} (ht : P.underlying t = some (.slice e)) (hc : P.cellsOf e = d.sz) (he : Opens P e d B) :
  Opens P t (Kd.slice e d) (fun xs => xs.length ≤ 9223372036854775807 ∧ ∀ x ∈ xs, B x) := by
 refine ⟨fun {H enc W fuel cs x} h => ?_⟩
 rcases Deep.open_slice ht h with ⟨rfl, _⟩ | ⟨a, len, cap, m, n, D, Pl, rfl, _, hl, hm, hmm, _, hx⟩
 ·exact ⟨[], ⟨none, 0, rfl, Nat.le_refl _, Kd.C_nil _ _⟩, by simp, by simp⟩
 have hm' : cap ≤ 9223372036854775807 := by unfold maxLen at hm; exact hm
 have hme : m = cap := by simpa using hmm
 have hel : ∀ i, i < len → ∃ y : α, (∃ cs', W.cells? 0 (a.add (i * P.cellsOf e)) (P.cellsOf e) = some cs' ∧ d.K W y cs') ∧ B y := by
  intro i hi
  obtain ⟨cs', h1, h2⟩ := hx i (by omega)
  obtain ⟨y, hy, hB⟩ := he.run h2
  exact ⟨y, ⟨cs', h1, hy⟩, hB⟩
 rcases Nat.eq_zero_or_pos len with h0 | h0
 ·subst h0
  exact ⟨[], ⟨some a, cap, rfl, Nat.zero_le _, rfl, Nat.zero_le _, fun hp => absurd hp (Nat.lt_irrefl 0)⟩, by simp, by simp⟩
 have : Inhabited α := ⟨Classical.choose (hel 0 h0)⟩
 obtain ⟨f, hf⟩ := Deep.choose_lt (p := fun i y => (∃ cs', W.cells? 0 (a.add (i * P.cellsOf e)) (P.cellsOf e) = some cs' ∧ d.K W y cs') ∧ B y) hel
 have hlen : ((List.range len).map f).length = len := by simp
 refine ⟨(List.range len).map f, ⟨some a, cap, by rw [hlen], by rw [hlen]; exact hl, hlen ▸ rfl, by rw [hlen]; omega, fun _ => ⟨a, rfl, ?_⟩⟩, by rw [hlen]; omega, ?_⟩
 ·intro j p hj
  have hjl : j < len := by
   have := (List.getElem?_eq_some_iff.1 hj).1
   rwa [hlen] at this
  have hp : p = f j := by
   rw [List.getElem?_map, List.getElem?_range hjl] at hj
   exact (zsi hj).symm
  subst hp
  obtain ⟨⟨cs', h1, h2⟩, _⟩ := hf j hjl
  obtain ⟨_, h3, h4⟩ := World.cells?_some h1
  rw [hc] at h3 h4
  refine ⟨cs', h3, h2, fun i u hu => ?_⟩
  have hi : i < d.sz := by
   have := (List.getElem?_eq_some_iff.1 hu).1
   omega
  rw [← Deep.add_add]
  exact (h4 i hi).trans hu
 intro y hy
 obtain ⟨i, hi, rfl⟩ := List.mem_map.1 hy
 exact (hf i (List.mem_range.1 hi)).2
structure OpensF {α : Type} (P : Program) (fs : List Field) (off tot : Nat) (d : Kd α) (B : α → Prop) : Prop where
 run : ∀ {H : Type} {enc : TypeId × Value → H} {W : World} {n : Nat} {cs : List Value}, cs.length = tot → (∀ (i : Nat) (f : Field), fs[i]? = some f → ∃ y, DataW.trod enc P W 0 (fun _ => true) true n f.type ((cs.drop f.offset).take (P.cellsOf f.type)) = some y) → ∃ a : α, d.K W a (cs.drop off) ∧ B a
theorem OpensF.last {α : Type} {P : Program} {f : Field} {off tot : Nat} {d : Kd α} {B : α → Prop} (ho : f.offset = off) (ht : off + P.cellsOf f.type = tot) (h : Opens P f.type d B) : OpensF P [f] off tot d B := by
 refine ⟨fun {H enc W n cs} hl hy => ?_⟩
 obtain ⟨y, hy⟩ := hy 0 f rfl
 obtain ⟨a, ha, hB⟩ := h.run hy
 rw [ho, List.take_of_length_le (by rw [zld]; omega)] at ha
 exact ⟨a, ha, hB⟩
theorem OpensF.cons {α β : Type} {P : Program} {f : Field} {fs : List Field} {off tot : Nat} {d1 : Kd α} {d2 : Kd β} {B1 : α → Prop} {B2 : β → Prop} (ho : f.offset = off) (hs : P.cellsOf f.type = d1.sz) (h : Opens P f.type d1 B1) (hr : OpensF P fs (off + d1.sz) tot d2 B2) :
  OpensF P (f :: fs) off tot (Kd.pair d1 d2) (fun x => B1 x.1 ∧ B2 x.2) := by
 refine ⟨fun {H enc W n cs} hl hy => ?_⟩
 obtain ⟨y, hy0⟩ := hy 0 f rfl
 obtain ⟨a, ha, hB⟩ := h.run hy0
 obtain ⟨b, hb, hB2⟩ := hr.run hl (fun i g hg => hy (i + 1) g hg)
 rw [ho, hs] at ha
 refine ⟨(a, b), ⟨(cs.drop off).take d1.sz, cs.drop (off + d1.sz), ?_, ha, hb⟩, hB, hB2⟩
 rw [← List.drop_drop, List.take_append_drop]
theorem Opens.struct {α β : Type} {P : Program} {t : TypeId} {fs : Array Field} {d : Kd α} {B : α → Prop} (ht : P.underlying t = some (.struct fs)) (f : β → α) (g : α → β) (hg : ∀ a, f (g a) = a) (hF : OpensF P fs.toList 0 (P.cellsOf t) d B) : Opens P t (Kd.iso d f) (fun x => B (f x)) := by
 refine ⟨fun {H enc W fuel cs x} h => ?_⟩
 obtain ⟨xs, n, _, _, hl, hlen, hf⟩ := DataW.trod_struct ht h
 obtain ⟨a, ha, hB⟩ := hF.run (n := n) hl (fun i fl hfl => by
  have hfl' : fs[i]? = some fl := by simpa using hfl
  have hi : i < fs.size := (Array.getElem?_eq_some_iff.1 hfl').1
  exact ⟨xs[i]'(by omega), (hf i fl hfl').trans (List.getElem?_eq_getElem (by omega))⟩)
 refine ⟨g a, ?_, ?_⟩
 ·show d.K W (f (g a)) cs
  rw [hg]
  simpa using ha
 show B (f (g a))
 rw [hg]
 exact hB
theorem cells_agg {v : Value} {l : List Value} (h : v.cells.toList = l) (hl : 2 ≤ l.length) : v = .agg l.toArray := by
 subst h
 cases v <;> simp [Value.cells] at hl ⊢
theorem Opens.array {α β : Type} {P : Program} {t n e : Nat} {fs : List Field} {d : Kd α} {B : α → Prop} (ht : P.underlying t = some (.array n e)) (hfs : ∀ (i : Nat) (f : Field), fs[i]? = some f → i < n ∧ f.type = e ∧ f.offset = i * P.cellsOf e) (f : β → α) (g : α → β) (hg : ∀ a, f (g a) = a) (hF : OpensF P fs 0 (P.cellsOf t) d B) : Opens P t (Kd.iso d f) (fun x => B (f x)) := by
 refine ⟨fun {H enc W fuel cs x} h => ?_⟩
 obtain ⟨xs, m, _, _, hl, hlen, hf⟩ := DataW.trod_array ht h
 obtain ⟨a, ha, hB⟩ := hF.run (n := m) hl (fun i fl hfl => by
  obtain ⟨h1, h2, h3⟩ := hfs i fl hfl
  rw [h2, h3]
  exact ⟨xs[i]'(by omega), (hf i h1).trans (List.getElem?_eq_getElem (by omega))⟩)
 refine ⟨g a, ?_, ?_⟩
 ·show d.K W (f (g a)) cs
  rw [hg]
  simpa using ha
 show B (f (g a))
 rw [hg]
 exact hB
end Go.Proofs.Ytaheamdoldiojaa.P
namespace Go.Proofs.Ytaheamdoldiojaa.P
open Go.RowKit Go.Proofs.YtaheamdoldiojaaW.PrintWords Go.Proofs.YtaheamdoldiojaaW.PrintLast Go.Proofs.YtaheamdoldiojaaW.PrintMore
namespace soundNearer
open Go.ChangeShapes Go.WideShapes Go.ChangeAt
set_option linter.unusedVariables false
set_option linter.unusedSimpArgs false
def B24 (x : S24) : Prop := (fun n : Int => (Lit.int .i64 n).wf = true) x.f0 ∧ (fun n : Int => (Lit.int .i64 n).wf = true) x.f1
theorem opens24 : Opens Try.prog 24 k24 B24 := Opens.struct (fs := _) Try.underlying24 (fun x : S24 => (x.f0, x.f1)) (fun t => ⟨t.1, t.2⟩) (fun _ => rfl) (OpensF.cons rfl (by kernel_rfl) (Opens.int Try.underlying2) (OpensF.last rfl (by kernel_rfl) (Opens.int Try.underlying2)))
def B29 (x : S29) : Prop := B24 x.f0 ∧ B24 x.f1
theorem opens29 : Opens Try.prog 29 k29 B29 := Opens.struct (fs := _) Try.underlying29 (fun x : S29 => (x.f0, x.f1)) (fun t => ⟨t.1, t.2⟩) (fun _ => rfl) (OpensF.cons rfl (by kernel_rfl) opens24 (OpensF.last rfl (by kernel_rfl) opens24))
def B26 (x : S26) : Prop := (fun xs : List S29 => xs.length ≤ 9223372036854775807 ∧ ∀ x ∈ xs, B29 x) x.f0 ∧ B24 x.f1
theorem opens26 : Opens Try.prog 26 k26 B26 := Opens.struct (fs := _) Try.underlying26 (fun x : S26 => (x.f0, x.f1)) (fun t => ⟨t.1, t.2⟩) (fun _ => rfl) (OpensF.cons rfl (by kernel_rfl) (Opens.slice Try.underlying22 (by kernel_rfl) opens29) (OpensF.last rfl (by kernel_rfl) opens24))
def Pure : Prop := ∀ (x0 : S26) (x1 : (List S24)) (x2 : S29) (x3 : Int) (x4 : Int) (x5 : S29) (x6 : S24), B26 x0 → (fun xs : List S24 => xs.length ≤ 9223372036854775807 ∧ ∀ x ∈ xs, B24 x) x1 → B29 x2 → (fun n : Int => (Lit.int .u8 n).wf = true) x3 → (fun n : Int => (Lit.int .u8 n).wf = true) x4 → B29 x5 → B24 x6 → ∃ k, isobathlaw07_SoundNearer.f k x0.f0 x0.f1.f0 x0.f1.f1 x1 x2.f0.f0 x2.f0.f1 x2.f1.f0 x2.f1.f1 x3 x4 x5.f0.f0 x5.f0.f1 x5.f1.f0 x5.f1.f1 x6.f0 x6.f1 = some true
theorem own : ownKnob Try.prog.godebug = none := by kernel_rfl
theorem laidOut : laidOutB Try.prog = true := by kernel_rfl
set_option maxRecDepth 100000 in
theorem lifted (hP : Pure) (os : Os) (started : os.Started) (H : Type) (enc : TypeId × Value → H) :
  ReturnsInHanded {} Try.checked os 3 .any (Rows.soundNearerSpec.pre6 enc Try.prog Try.f3 Rows.soundNearerRow.domain false) (Rows.soundNearerSpec.post enc Try.prog Try.f3 false true false false) := by
 refine returnsInHanded_of_change_sized (C := Try.checked) own started (by kernel_rfl) Try.func3
  (ChangeSpec.witness6 (enc := enc) (C := Try.checked) false ⟨#[], #[.agg #[.slice none 0 0, .int .i64 0, .int .i64 0], .slice none 0 0, .agg #[.int .i64 0, .int .i64 0, .int .i64 0, .int .i64 0], .int .u8 0, .int .u8 0, .agg #[.int .i64 0, .int .i64 0, .int .i64 0, .int .i64 0], .agg #[.int .i64 0, .int .i64 0]], []⟩ 8 (by kernel_rfl) (by kernel_rfl) (by kernel_rfl) (by kernel_rfl)) ?_
 intro W base args ds gs before hval0 hW hcnd hsz0 _
 have hval : ∀ (j : Nat) t v, Try.f3.params[j]? = some t → args[j]? = some v → Value.okWide Try.prog W .any base t v := hval0
 have hW' := hW
 obtain ⟨p, q, hA0, hV, rfl, hfz, hnd⟩ := hW
 have hA : DataW.TrodAll enc Try.prog W 0 (fun _ => true) true Try.f3.params.toList args.toList ds p := hA0
 rw [Try.params3] at hA hval
 obtain ⟨v0, vs0, d0, ds0, p0, q0, hargs, rfl, rfl, h0, r0⟩ := trodAll_cons hA
 obtain ⟨v1, vs1, d1, ds1, p1, q1, rfl, rfl, rfl, h1, r1⟩ := trodAll_cons r0
 obtain ⟨v2, vs2, d2, ds2, p2, q2, rfl, rfl, rfl, h2, r2⟩ := trodAll_cons r1
 obtain ⟨v3, vs3, d3, ds3, p3, q3, rfl, rfl, rfl, h3, r3⟩ := trodAll_cons r2
 obtain ⟨v4, vs4, d4, ds4, p4, q4, rfl, rfl, rfl, h4, r4⟩ := trodAll_cons r3
 obtain ⟨v5, vs5, d5, ds5, p5, q5, rfl, rfl, rfl, h5, r5⟩ := trodAll_cons r4
 obtain ⟨v6, vs6, d6, ds6, p6, q6, rfl, rfl, rfl, h6, r6⟩ := trodAll_cons r5
 obtain ⟨rfl, rfl, rfl⟩ := trodAll_nil r6
 obtain rfl : args = #[v0, v1, v2, v3, v4, v5, v6] := by cases args; simp_all
 obtain ⟨rfl, rfl⟩ := trodVars_none hV
 have k0 := h0
 have lt0 : ∀ x ∈ p0, x.block < W.heap.size := by obtain ⟨m, hm⟩ := k0; exact DataW.trod_lt m _ _ _ hm
 obtain ⟨m0, hm0⟩ := h0
 obtain ⟨x0, hk0, w0⟩ := Opens.run opens26 hm0
 obtain ⟨A0_0, c0_0, hcs0, hc0_0, hr0_0⟩ := k26_open hk0
 obtain rfl := cells_agg hcs0 (by simp)
 have k1 := h1
 have lt1 : ∀ x ∈ p1, x.block < W.heap.size := by obtain ⟨m, hm⟩ := k1; exact DataW.trod_lt m _ _ _ hm
 obtain ⟨m1, hm1⟩ := h1
 obtain ⟨x1, hk1, w1⟩ := Opens.run (Opens.slice Try.underlying27 (by kernel_rfl) opens24) hm1
 obtain ⟨a1, len1, cap1, rfl⟩ := okWide_slice Try.underlying27 (hval 1 27 v1 rfl rfl)
 obtain ⟨A1, c1, hcs1, hc1, hr1⟩ := hk1
 simp [Value.cells] at hcs1
 obtain ⟨rfl, rfl, rfl⟩ := hcs1
 have k2 := h2
 have lt2 : ∀ x ∈ p2, x.block < W.heap.size := by obtain ⟨m, hm⟩ := k2; exact DataW.trod_lt m _ _ _ hm
 obtain ⟨m2, hm2⟩ := h2
 obtain ⟨x2, hk2, w2⟩ := Opens.run opens29 hm2
 have hcs2 := k29_open hk2
 obtain rfl := cells_agg hcs2 (by simp)
 obtain ⟨x3, rfl, rfl, rfl, w3⟩ := open_int Try.underlying5 (hval 3 5 v3 rfl rfl) h3
 obtain ⟨x4, rfl, rfl, rfl, w4⟩ := open_int Try.underlying5 (hval 4 5 v4 rfl rfl) h4
 have k5 := h5
 have lt5 : ∀ x ∈ p5, x.block < W.heap.size := by obtain ⟨m, hm⟩ := k5; exact DataW.trod_lt m _ _ _ hm
 obtain ⟨m5, hm5⟩ := h5
 obtain ⟨x5, hk5, w5⟩ := Opens.run opens29 hm5
 have hcs5 := k29_open hk5
 obtain rfl := cells_agg hcs5 (by simp)
 have k6 := h6
 have lt6 : ∀ x ∈ p6, x.block < W.heap.size := by obtain ⟨m, hm⟩ := k6; exact DataW.trod_lt m _ _ _ hm
 obtain ⟨m6, hm6⟩ := h6
 obtain ⟨x6, hk6, w6⟩ := Opens.run opens24 hm6
 have hcs6 := k24_open hk6
 obtain rfl := cells_agg hcs6 (by simp)
 clear hA0 hval0 hsz0
 obtain ⟨k, hf⟩ := hP x0 x1 x2 x3 x4 x5 x6 w0 w1 w2 w3 w4 w5 w6
 refine (isobathlaw07_SoundNearer.calls (k := k) (A0_0 := A0_0) (c0_0 := c0_0) (l0_0 := x0.f0) (a0_1 := x0.f1.f0) (a0_2 := x0.f1.f1) (A1 := a1) (c1 := cap1) (l1 := x1) (a2_0 := x2.f0.f0) (a2_1 := x2.f0.f1) (a2_2 := x2.f1.f0) (a2_3 := x2.f1.f1) (a3 := x3) (a4 := x4) (a5_0 := x5.f0.f0) (a5_1 := x5.f0.f1) (a5_2 := x5.f1.f0) (a5_3 := x5.f1.f1) (a6_0 := x6.f0) (a6_1 := x6.f1) (r := true) (w := W) (hr0_0 := hr0_0) (hc0_0 := hc0_0) (hr1 := hr1) (hc1 := hc1) (h := hf)).mono fun e W' ⟨he, hd⟩ => ?_
 have bel : Below W.heap.size W W' := by first | exact hd | (obtain ⟨m, rfl⟩ := hd; exact zbn (Below.refl _ _) m)
 subst he
 exact ⟨_, rfl, _, _, _, [], _, [], hW', trodAll_mk1 (shut_bool Try.underlying4 _), (trodAll_cons_mk (Below.trod laidOut (by kernel_rfl) (zod (by kernel_rfl)) k0 bel lt0) (trodAll_cons_mk (Below.trod laidOut (by kernel_rfl) (zod (by kernel_rfl)) k1 bel lt1) (trodAll_cons_mk (Below.trod laidOut (by kernel_rfl) (zod (by kernel_rfl)) k2 bel lt2) (trodAll_cons_mk (shut_int Try.underlying5 w3) (trodAll_cons_mk (shut_int Try.underlying5 w4) (trodAll_cons_mk (Below.trod laidOut (by kernel_rfl) (zod (by kernel_rfl)) k5 bel lt5) (trodAll_cons_mk (Below.trod laidOut (by kernel_rfl) (zod (by kernel_rfl)) k6 bel lt6) trodAll_mk0))))))), rfl, bel.frame _, fun h => by cases h⟩
theorem over (hP : Pure) : Rows.soundNearerRow.holds Try.pinned (OpenSpec.ofChange Rows.soundNearerSpec) :=
 OpenClaim.holds_of_wide 3 Try.f3 rfl rfl rfl rfl rfl rfl rfl ⟨rfl, rfl, rfl, rfl, rfl⟩ rfl rfl rfl rfl rfl (by kernel_rfl) Try.func3 (by kernel_rfl)
  (zod (by kernel_rfl)) (by unfold Func.isWrapper; first | (rw [if_pos (by decide +kernel)]; kernel_rfl) | (rw [if_neg (by decide +kernel)]; exact ⟨rfl, rfl⟩))
  (fun os started H enc _ => lifted hP os started H enc)
theorem proved (hP : Pure) : Rows.SoundNearerSaid := over hP
end soundNearer
end Go.Proofs.Ytaheamdoldiojaa.P
namespace Go.Proofs.Ytaheamdoldiojaa.P
open Go.RowKit Go.Proofs.YtaheamdoldiojaaW.PrintWords Go.Proofs.YtaheamdoldiojaaW.PrintLast Go.Proofs.YtaheamdoldiojaaW.PrintMore
set_option linter.unusedVariables false
set_option linter.unusedSimpArgs false
def Sp.win (p q : S29) : Prop := q.f0.f0 ≤ p.f0.f0 ∧ p.f0.f1 ≤ q.f0.f1 ∧ q.f1.f0 ≤ p.f1.f0 ∧ p.f1.f1 ≤ q.f1.f1
instance (p q : S29) : Decidable (Sp.win p q) := by unfold Sp.win; infer_instance
theorem Sp.win_rfl (p : S29) : Sp.win p p := ⟨Int.le_refl _, Int.le_refl _, Int.le_refl _, Int.le_refl _⟩
theorem Sp.reg_near (st : List S29) (lo hi : Int) (at_ : List S24) : ∀ (d : Nat) (b : S29), Sp.vb b = true → ∀ p ∈ Sp.reg st lo hi at_ (d + 1) b, ∃ q ∈ Sp.reg st lo hi at_ d b, Sp.win p q
 | 0, b, hb, p, hp => by
  rw [Sp.reg] at hp
  rw [Sp.reg]
  by_cases c : Sp.in_ st lo hi at_ b = true
  ·rw [if_pos c] at hp
   rw [if_pos c]
   obtain ⟨x, hx, hp⟩ := List.mem_flatMap.1 hp
   rw [Sp.reg] at hp
   have h := Sp.part_in hb hx
   split at hp
   ·rw [List.mem_singleton] at hp
    subst hp
    exact ⟨b, by simp, h.1, h.2.2.1, h.2.2.2.1, h.2.2.2.2.2⟩
   cases hp
  rw [if_neg c] at hp
  cases hp
 | d + 1, b, hb, p, hp => by
  rw [Sp.reg] at hp
  rw [Sp.reg]
  by_cases c : Sp.in_ st lo hi at_ b = true
  ·rw [if_pos c] at hp
   rw [if_pos c]
   obtain ⟨x, hx, hp⟩ := List.mem_flatMap.1 hp
   obtain ⟨q, hq, w⟩ := Sp.reg_near st lo hi at_ d x (Sp.part_vb hb hx) p hp
   exact ⟨q, List.mem_flatMap.2 ⟨x, hx, hq⟩, w⟩
  rw [if_neg c] at hp
  cases hp
theorem Sp.reg_sub {st st' : List S29} {lo hi : Int} {at_ at' : List S24} (h : ∀ b, Sp.in_ st' lo hi at' b = true → Sp.in_ st lo hi at_ b = true) : ∀ (d : Nat) (b p : S29), p ∈ Sp.reg st' lo hi at' d b → p ∈ Sp.reg st lo hi at_ d b
 | 0, b, p, hp => by
  rw [Sp.reg] at hp
  rw [Sp.reg]
  split at hp
  ·next c => rwa [if_pos (h b c)]
  cases hp
 | d + 1, b, p, hp => by
  rw [Sp.reg] at hp
  rw [Sp.reg]
  split at hp
  ·next c =>
   rw [if_pos (h b c)]
   obtain ⟨x, hx, hp⟩ := List.mem_flatMap.1 hp
   exact List.mem_flatMap.2 ⟨x, hx, Sp.reg_sub h d x p hp⟩
  cases hp
theorem Sp.org_more {P Q : Nat → Int × Int} {n m : Nat} (hn : 0 < n) (hm : n ≤ m) (h : ∀ i, i < n → (P i).1 ≤ (Q i).1 ∧ (Q i).2 ≤ (P i).2) : Sp.oLo P n ≤ Sp.oLo Q m ∧ Sp.oHi Q m ≤ Sp.oHi P n :=
 ⟨Sp.oLo_le P _ n hn fun i hi => Int.le_trans (h i hi).1 (Sp.oLo_ge Q m i (by omega)).1, Sp.le_oHi P _ n hn fun i hi => Int.le_trans (Sp.oLo_ge Q m i (by omega)).2 (h i hi).2⟩
theorem Sp.in_more {st st' : List S29} {lo hi : Int} {at_ at' : List S24} {b : S29} (hn : 0 < st.length) (hm : st.length ≤ st'.length) (h : ∀ i, i < st.length → (Sp.by_ st lo hi at_ b i).1 ≤ (Sp.by_ st' lo hi at' b i).1 ∧ (Sp.by_ st' lo hi at' b i).2 ≤ (Sp.by_ st lo hi at_ b i).2) (c : Sp.in_ st' lo hi at' b = true) : Sp.in_ st lo hi at_ b = true := by
 have g := Sp.org_more hn hm h
 unfold Sp.in_ Sp.org at c ⊢
 have c := zod c
 dsimp only at c
 exact zdt (by dsimp only; omega)
def Sp.nar (w : Int) (a : S24) : S24 := ⟨a.f0 + min w ((a.f1 - a.f0) / 2), a.f1 - min w ((a.f1 - a.f0) / 2)⟩
theorem Sp.in_nar {st : List S29} {lo hi : Int} {at_ : List S24} (h : Sp.Acc st lo hi at_) {w : Int} (hw : 0 ≤ w) (b : S29) (c : Sp.in_ st lo hi (at_.map (Sp.nar w)) b = true) : Sp.in_ st lo hi at_ b = true := by
 have n2 := h.n2
 have hl := h.len
 refine Sp.in_more (by omega) (Nat.le_refl _) (fun i hi' => ?_) c
 have hia : i < at_.length := by omega
 have ha := Sp.inst_of (List.all_eq_true.1 h.inst _ (List.getElem_mem hia))
 have e2 : at_.getD i ⟨0, 0⟩ = at_[i] := by simp [List.getD, hia]
 have e3 : (at_.map (Sp.nar w)).getD i ⟨0, 0⟩ = Sp.nar w at_[i] := by simp [List.getD, hia]
 unfold Sp.by_ Sp.by1
 rw [e2, e3]
 unfold Sp.nar
 dsimp only
 omega
theorem Sp.nar_acc {st : List S29} {lo hi : Int} {at_ : List S24} (h : Sp.Acc st lo hi at_) {w : Int} (hw : 0 ≤ w) : Sp.Acc st lo hi (at_.map (Sp.nar w)) := by
 refine ⟨h.n2, h.n8, h.lo1, h.lh, h.hi2, h.vb, by simp [h.len], ?_⟩
 rw [List.all_map, List.all_eq_true]
 intro a ha
 have g := Sp.inst_of (List.all_eq_true.1 h.inst a ha)
 refine zdt ?_
 unfold Sp.nar
 dsimp only
 omega
theorem Sp.in_snoc {st : List S29} {lo hi : Int} {at_ : List S24} (h : Sp.Acc st lo hi at_) (s : S29) (a : S24) (b : S29) (c : Sp.in_ (st ++ [s]) lo hi (at_ ++ [a]) b = true) : Sp.in_ st lo hi at_ b = true := by
 have n2 := h.n2
 have hl := h.len
 refine Sp.in_more (by omega) (by simp) (fun i hi' => ?_) c
 have hia : i < at_.length := by omega
 have e1 : (st ++ [s]).getD i ⟨⟨0, 0⟩, ⟨0, 0⟩⟩ = st.getD i ⟨⟨0, 0⟩, ⟨0, 0⟩⟩ := by simp [List.getD, hi', List.getElem?_append_left hi']
 have e2 : (at_ ++ [a]).getD i ⟨0, 0⟩ = at_.getD i ⟨0, 0⟩ := by simp [List.getD, hia, List.getElem?_append_left hia]
 unfold Sp.by_
 rw [e1, e2]
 exact ⟨Int.le_refl _, Int.le_refl _⟩
theorem Sp.great (st : List S29) (lo hi : Int) (at_ : List S24) : isobathlaw07_great.f st lo hi at_ = some (decide ((st.length : Int) > 12 ∨ (at_.length : Int) > 12)) := by
 unfold isobathlaw07_great.f
 by_cases h : (st.length : Int) > 12
 ·rw [if_pos h]
  simp [h]
 rw [if_neg h]
 simp [h]
theorem Sp.within_l0 (xs : List S29) (p : S29) (hl : xs.length ≤ 4096) (hp : ∃ q ∈ xs, Sp.win p q) : ∀ (n k i : Nat), i + n = xs.length → n < k → (∀ j, j < i → (h : j < xs.length) → ¬ Sp.win p xs[j]) → isobathlaw07_within.l0 k xs (i : Int) p.f0.f0 p.f0.f1 p.f1.f0 p.f1.f1 = some true
 | 0, k, i, hi, hk, hn => by
  obtain ⟨q, hq, w⟩ := hp
  obtain ⟨j, hj, rfl⟩ := List.getElem_of_mem hq
  exact absurd w (hn j (by omega) hj)
 | n + 1, k, i, hi, hk, hn => by
  obtain ⟨k, rfl⟩ : ∃ m, k = m + 1 := ⟨k - 1, by omega⟩
  have hlt : i < xs.length := by omega
  rw [isobathlaw07_within.l0, if_pos (by omega), if_pos (by omega), Sp.rdB xs i hlt, wrap_succ hlt (by omega)]
  by_cases c : Sp.win p xs[i]
  ·rw [if_pos c.1, if_pos c.2.1, if_pos c.2.2.1, if_pos c.2.2.2]
  have ih := Sp.within_l0 xs p hl hp n k (i + 1) (by omega) (by omega) (fun j h1 h2 => by
   by_cases e : j = i
   ·subst e
    exact c
   exact hn j (by omega) h2)
  rw [ih]
  unfold Sp.win at c
  by_cases h1 : xs[i].f0.f0 ≤ p.f0.f0
  ·rw [if_pos h1]
   by_cases h2 : p.f0.f1 ≤ xs[i].f0.f1
   ·rw [if_pos h2]
    by_cases h3 : xs[i].f1.f0 ≤ p.f1.f0
    ·rw [if_pos h3]
     by_cases h4 : p.f1.f1 ≤ xs[i].f1.f1
     ·rw [if_pos h4]
     rw [if_neg h4]
    rw [if_neg h3]
   rw [if_neg h2]
  rw [if_neg h1]
theorem Sp.within (xs : List S29) (p : S29) (hl : xs.length ≤ 256) (hp : ∃ q ∈ xs, Sp.win p q) {k : Nat} (hk : 300 ≤ k) : isobathlaw07_within.f k p.f0.f0 p.f0.f1 p.f1.f0 p.f1.f1 xs = some true := by
 unfold isobathlaw07_within.f
 exact Sp.within_l0 xs p (by omega) hp xs.length k 0 (by omega) (by omega) (fun j h => absurd h (by omega))
theorem Sp.near_l0 (at_ : List S24) (w d : Int) (l m st : List S29) (lo hi : Int) (b s : S29) (a : S24) (hl : l.length ≤ 256) (hm : m.length ≤ 256) (h : ∀ p ∈ l, ∃ q ∈ m, Sp.win p q) : ∀ (n i K : Nat), i + n = l.length → 300 ≤ K → isobathlaw07_SoundNearer.l0 (K + n + 1) at_ w d l m (i : Int) st lo hi b.f0.f0 b.f0.f1 b.f1.f0 b.f1.f1 s.f0.f0 s.f0.f1 s.f1.f0 s.f1.f1 a.f0 a.f1 = isobathlaw07_SoundNearer.l1 K at_ w d l [] 0 st lo hi b.f0.f0 b.f0.f1 b.f1.f0 b.f1.f1 s.f0.f0 s.f0.f1 s.f1.f0 s.f1.f1 a.f0 a.f1
 | 0, i, K, hi', hK => by
  rw [isobathlaw07_SoundNearer.l0, if_neg (by omega)]
 | n + 1, i, K, hi', hK => by
  have hlt : i < l.length := by omega
  rw [show K + (n + 1) + 1 = (K + n + 1) + 1 by omega, isobathlaw07_SoundNearer.l0, if_pos (by omega), if_pos (by omega), Sp.rdB l i hlt, Sp.within m _ hm (h _ (List.getElem_mem hlt)) (by omega), Option.bind_some, if_pos rfl, wrap_succ hlt (by omega)]
  exact Sp.near_l0 at_ w d l m st lo hi b s a hl hm h n (i + 1) K (by omega) hK
theorem Sp.near_l1 {st : List S29} {lo hi : Int} {at_ : List S24} (h : Sp.Acc st lo hi at_) (w d : Int) (hw : 0 ≤ w) (hw' : w ≤ 255) (l : List S29) (b s : S29) (a : S24) : ∀ (n i K : Nat), i + n = at_.length → isobathlaw07_SoundNearer.l1 (K + n + 1) at_ w d l ((at_.take i).map (Sp.nar w)) (i : Int) st lo hi b.f0.f0 b.f0.f1 b.f1.f0 b.f1.f1 s.f0.f0 s.f0.f1 s.f1.f0 s.f1.f1 a.f0 a.f1 = (sound_Region.f K st lo hi (at_.map (Sp.nar w)) b.f0.f0 b.f0.f1 b.f1.f0 b.f1.f1 d).bind fun bt => if bt.2 = 0 then isobathlaw07_SoundNearer.l2 K at_ d l bt.1 0 st lo hi b.f0.f0 b.f0.f1 b.f1.f0 b.f1.f1 s.f0.f0 s.f0.f1 s.f1.f0 s.f1.f1 a.f0 a.f1 else none
 | 0, i, K, hi' => by
  rw [isobathlaw07_SoundNearer.l1, if_neg (by omega), List.take_of_length_le (by omega)]
 | n + 1, i, K, hi' => by
  have n8 := h.n8
  have hl := h.len
  have hlt : i < at_.length := by omega
  have ih := Sp.near_l1 h w d hw hw' l b s a n (i + 1) K (by omega)
  have ha := Sp.inst_of (List.all_eq_true.1 h.inst _ (List.getElem_mem hlt))
  rw [take_snoc hlt, List.map_append] at ih
  have e : (⟨wrap64 (at_[i].f0 + mn (wrap64 w) (wrap64 (Int.tdiv (wrap64 (at_[i].f1 - at_[i].f0)) 2))), wrap64 (at_[i].f1 - mn (wrap64 w) (wrap64 (Int.tdiv (wrap64 (at_[i].f1 - at_[i].f0)) 2)))⟩ : S24) = Sp.nar w at_[i] := by
   have e1 : (min w ((at_[i].f1 - at_[i].f0) / 2)) ≤ (at_[i].f1 - at_[i].f0) / 2 := Int.min_le_right _ _
   have e2 : 0 ≤ (min w ((at_[i].f1 - at_[i].f0) / 2)) := by omega
   unfold Sp.nar
   rw [wrap_id (n := at_[i].f1 - at_[i].f0) (by omega) (by omega), Int.tdiv_eq_ediv_of_nonneg (by omega), wrap_id (n := (at_[i].f1 - at_[i].f0) / 2) (by omega) (by omega), wrap_id (n := w) (by omega) (by omega), Bo.mnE, wrap_id (by omega) (by omega), wrap_id (by omega) (by omega)]
  rw [show K + (n + 1) + 1 = (K + n + 1) + 1 by omega, isobathlaw07_SoundNearer.l1, if_pos (by omega), if_pos (by omega), Sp.rdT at_ i hlt, Option.bind_some, if_pos (by simp; omega), wrap_succ hlt (by omega), e]
  exact ih
theorem Sp.near_l2 (at_ : List S24) (d : Int) (l p st : List S29) (lo hi : Int) (b s : S29) (a : S24) (hl : l.length ≤ 256) (hp : p.length ≤ 256) (hs : st.length ≤ 12) (ha : at_.length ≤ 12) (h : ∀ x ∈ p, ∃ q ∈ l, Sp.win x q) : ∀ (n i K : Nat), i + n = p.length → 300 ≤ K → isobathlaw07_SoundNearer.l2 (K + n + 1) at_ d l p (i : Int) st lo hi b.f0.f0 b.f0.f1 b.f1.f0 b.f1.f1 s.f0.f0 s.f0.f1 s.f1.f0 s.f1.f1 a.f0 a.f1 = (sound_Region.f K (st ++ [s]) lo hi (at_ ++ [a]) b.f0.f0 b.f0.f1 b.f1.f0 b.f1.f1 d).bind fun bt => isobathlaw07_SoundNearer.l3 K l bt.2 bt.1 0
 | 0, i, K, hi', hK => by
  rw [isobathlaw07_SoundNearer.l2, if_neg (by omega)]
  simp only [Option.bind_some]
  rw [if_pos (by simp; omega), if_pos (by simp; omega), if_pos (by simp; omega), if_pos (by simp; omega)]
  rfl
 | n + 1, i, K, hi', hK => by
  have hlt : i < p.length := by omega
  rw [show K + (n + 1) + 1 = (K + n + 1) + 1 by omega, isobathlaw07_SoundNearer.l2, if_pos (by omega), if_pos (by omega), Sp.rdB p i hlt, Sp.within l _ hl (h _ (List.getElem_mem hlt)) (by omega), Option.bind_some, if_pos rfl, wrap_succ hlt (by omega)]
  exact Sp.near_l2 at_ d l p st lo hi b s a hl hp hs ha h n (i + 1) K (by omega) hK
theorem Sp.near_l3 (l p : List S29) (e : Int) (hl : l.length ≤ 256) (hp : p.length ≤ 256) (h : e = 0 → ∀ x ∈ p, ∃ q ∈ l, Sp.win x q) : ∀ (n i K : Nat), i + n = p.length → 400 ≤ K → isobathlaw07_SoundNearer.l3 (K + 2 * n + 2) l e p (i : Int) = some true
 | 0, i, K, hi', hK => by
  rw [show K + 2 * 0 + 2 = K + 1 + 1 by omega, isobathlaw07_SoundNearer.l3, if_neg (by omega), isobathlaw07_SoundNearer.j5, if_neg (by decide), Sp.works (by omega)]
  rfl
 | n + 1, i, K, hi', hK => by
  have hlt : i < p.length := by omega
  rw [show K + 2 * (n + 1) + 2 = (K + 2 * n + 2) + 1 + 1 by omega, isobathlaw07_SoundNearer.l3, if_pos (by omega), isobathlaw07_SoundNearer.j5]
  by_cases c : e = 0
  ·rw [if_pos (by simp [c]), if_pos (by omega), if_pos (by omega), Sp.rdB p i hlt, Sp.within l _ hl (h c _ (List.getElem_mem hlt)) (by omega), Option.bind_some, if_pos rfl, wrap_succ hlt (by omega)]
   exact Sp.near_l3 l p e hl hp h n (i + 1) K (by omega) hK
  rw [if_neg (by simp [c]), Sp.works (by omega)]
  rfl
theorem Sp.region_0 {st : List S29} {lo hi : Int} {at_ : List S24} {b : S29} (h : Sp.Acc st lo hi at_) (hb : Sp.vb b = true) (d : Nat) (hd : d ≤ 5) : Sp.region st lo hi at_ b (d : Int) = (Sp.reg st lo hi at_ d b, 0) := by
 unfold Sp.region
 rw [if_pos (Sp.heard_of h hb), if_pos (by omega), Int.toNat_natCast]
theorem Sp.reg_256 (st : List S29) (lo hi : Int) (at_ : List S24) (d : Nat) (hd : d ≤ 4) (b : S29) : (Sp.reg st lo hi at_ d b).length ≤ 256 :=
 Nat.le_trans (Sp.reg_len st lo hi at_ d b) (Nat.le_trans (Nat.pow_le_pow_right (by omega) hd) (by decide))
theorem Sp.nearer (st : List S29) (lo hi : Int) (at_ : List S24) (b : S29) (x w : Int) (s : S29) (a : S24) (hx : 0 ≤ x) (hx' : x ≤ 255) (hw : 0 ≤ w) (hw' : w ≤ 255) : ∃ k, isobathlaw07_SoundNearer.f k st lo hi at_ b.f0.f0 b.f0.f1 b.f1.f0 b.f1.f1 x w s.f0.f0 s.f0.f1 s.f1.f0 s.f1.f1 a.f0 a.f1 = some true := by
 obtain ⟨k, hk⟩ : ∃ k : Nat, 4000 ≤ k := ⟨4000, Nat.le.refl⟩
 refine ⟨k + 1, ?_⟩
 have hW : isobathlaw07_SoundNearer.j0 (k + 1) at_ x w true st lo hi b.f0.f0 b.f0.f1 b.f1.f0 b.f1.f1 s.f0.f0 s.f0.f1 s.f1.f0 s.f1.f1 a.f0 a.f1 = some true := by
  rw [isobathlaw07_SoundNearer.j0, if_pos rfl, Sp.works (by omega)]
  rfl
 unfold isobathlaw07_SoundNearer.f
 rw [Sp.great, Option.bind_some]
 by_cases hg : (st.length : Int) > 12 ∨ (at_.length : Int) > 12
 ·rw [if_pos (by simpa using hg), hW]
 rw [if_neg (by simpa using hg)]
 by_cases h7 : (st.length : Int) > 7
 ·rw [zdt h7, hW]
 rw [zdf h7, isobathlaw07_SoundNearer.j0, if_neg (by decide)]
 obtain ⟨d, hd, hd4⟩ : ∃ d : Nat, Int.tmod (wrap64 x) 4 = (d : Int) ∧ d ≤ 3 := by
  rw [wrap_id (n := x) (by omega) (by omega), Int.tmod_eq_emod_of_nonneg hx]
  exact ⟨(x % 4).toNat, by omega, by omega⟩
 rw [hd, wrap_id (n := (d : Int) + 1) (by omega) (by omega), wrap_id (by omega) (by omega), show (d : Int) + 1 - 1 = (d : Int) by omega, show (d : Int) + 1 = ((d + 1 : Nat) : Int) by omega, Sp.region_b _ _ _ _ _ _ (by omega), Option.bind_some, Sp.region_b _ _ _ _ _ _ (by omega), Option.bind_some]
 by_cases h : Sp.heard st lo hi at_ b = 0
 ·obtain ⟨A, hb⟩ := Sp.heard_ok h
  have n2 := A.n2
  have n8 := A.n8
  have hl := A.len
  rw [Sp.region_0 A hb _ (by omega), Sp.region_0 A hb _ (by omega), if_pos rfl, if_pos rfl]
  have l1 := Sp.reg_256 st lo hi at_ (d + 1) (by omega) b
  have l2 := Sp.reg_256 st lo hi at_ d (by omega) b
  have l3 := Sp.reg_256 st lo hi (at_.map (Sp.nar w)) (d + 1) (by omega) b
  have g0 := Sp.near_l0 at_ w ((d + 1 : Nat) : Int) _ _ st lo hi b s a l1 l2 (Sp.reg_near st lo hi at_ d b hb) (Sp.reg st lo hi at_ (d + 1) b).length 0 (k - (Sp.reg st lo hi at_ (d + 1) b).length - 1) (by omega) (by omega)
  rw [show k - (Sp.reg st lo hi at_ (d + 1) b).length - 1 + (Sp.reg st lo hi at_ (d + 1) b).length + 1 = k by omega] at g0
  refine g0.trans ?_
  obtain ⟨K, hK, hKe⟩ : ∃ K : Nat, 3000 ≤ K ∧ k - (Sp.reg st lo hi at_ (d + 1) b).length - 1 = K + at_.length + 1 := ⟨k - (Sp.reg st lo hi at_ (d + 1) b).length - 1 - at_.length - 1, by omega, by omega⟩
  rw [hKe]
  have g1 := Sp.near_l1 A w ((d + 1 : Nat) : Int) hw hw' (Sp.reg st lo hi at_ (d + 1) b) b s a at_.length 0 K (by omega)
  refine g1.trans ?_
  have A' := Sp.nar_acc A hw
  rw [Sp.region_b _ _ _ _ _ _ (by omega), Option.bind_some, Sp.region_0 A' hb _ (by omega), if_pos rfl]
  obtain ⟨K2, hK2, hKe2⟩ : ∃ K2 : Nat, 2000 ≤ K2 ∧ K = K2 + (Sp.reg st lo hi (at_.map (Sp.nar w)) (d + 1) b).length + 1 := ⟨K - (Sp.reg st lo hi (at_.map (Sp.nar w)) (d + 1) b).length - 1, by omega, by omega⟩
  rw [hKe2]
  have g2 := Sp.near_l2 at_ ((d + 1 : Nat) : Int) (Sp.reg st lo hi at_ (d + 1) b) (Sp.reg st lo hi (at_.map (Sp.nar w)) (d + 1) b) st lo hi b s a l1 l3 (by omega) (by omega) (fun p hp => ⟨p, Sp.reg_sub (fun b c => Sp.in_nar A hw b c) (d + 1) b p hp, Sp.win_rfl p⟩) (Sp.reg st lo hi (at_.map (Sp.nar w)) (d + 1) b).length 0 K2 (by omega) (by omega)
  refine g2.trans ?_
  rw [Sp.region_b _ _ _ _ _ _ (by omega), Option.bind_some]
  have hr : (Sp.region (st ++ [s]) lo hi (at_ ++ [a]) b ((d + 1 : Nat) : Int)).1.length ≤ 256 ∧ ∀ x ∈ (Sp.region (st ++ [s]) lo hi (at_ ++ [a]) b ((d + 1 : Nat) : Int)).1, ∃ q ∈ Sp.reg st lo hi at_ (d + 1) b, Sp.win x q := by
   unfold Sp.region
   split
   ·rw [if_pos (by omega), Int.toNat_natCast]
    exact ⟨Sp.reg_256 _ _ _ _ (d + 1) (by omega) b, fun p hp => ⟨p, Sp.reg_sub (fun b c => Sp.in_snoc A s a b c) (d + 1) b p hp, Sp.win_rfl p⟩⟩
   exact ⟨by simp, fun p hp => by cases hp⟩
  have g3 := Sp.near_l3 (Sp.reg st lo hi at_ (d + 1) b) _ (Sp.region (st ++ [s]) lo hi (at_ ++ [a]) b ((d + 1 : Nat) : Int)).2 l1 hr.1 (fun _ => hr.2) (Sp.region (st ++ [s]) lo hi (at_ ++ [a]) b ((d + 1 : Nat) : Int)).1.length 0 (K2 - 2 * (Sp.region (st ++ [s]) lo hi (at_ ++ [a]) b ((d + 1 : Nat) : Int)).1.length - 2) (by omega) (by have := hr.1; omega)
  rw [show K2 - 2 * (Sp.region (st ++ [s]) lo hi (at_ ++ [a]) b ((d + 1 : Nat) : Int)).1.length - 2 + 2 * (Sp.region (st ++ [s]) lo hi (at_ ++ [a]) b ((d + 1 : Nat) : Int)).1.length + 2 = K2 by have := hr.1; omega] at g3
  exact g3
 have e1 : ∀ i : Int, Sp.region st lo hi at_ b i = ([], Sp.heard st lo hi at_ b) := fun i => by
  unfold Sp.region
  rw [if_neg h]
 rw [e1, e1, if_pos rfl, if_neg h, Sp.works (by omega)]
 rfl
theorem soundNearer_holds : Rows.SoundNearerSaid := soundNearer.proved fun n l b x w s a _ _ _ hx hw _ _ => Sp.nearer n.f0 n.f1.f0 n.f1.f1 l b x w s a (Sp.u8 hx).1 (Sp.u8 hx).2 (Sp.u8 hw).1 (Sp.u8 hw).2
#print axioms soundNearer_holds
end Go.Proofs.Ytaheamdoldiojaa.P
