/- Sets of layer 1, walked and in closed form. Part 3 of 4. -/
-- Put together by wip/tools/shake.py, a program of this work: out of the words that the kit's print tool (print.sh) writes for a claim and what wip/tools/xprint.py prints, those that this claim reaches, and this work's own texts.
import Derived.RangeFuncBox
import Derived.RangeFuncNested
import Derived.RangeFuncBound
import Derived.RangeFuncCalls
import Derived.RangeFuncLeaves
import Derived.Shelf.Abstract
import Derived.Shelf.RegionOpen
import Derived.OwnWalkIn
import Derived.TacticsInMore
import Derived.LoopNIn
import Derived.LoopIn
import Derived.Sort.QuietIn
import Derived.Laws.EntriesVeiled
import Derived.Test.YtlkafgibgipodaaKSets1
namespace Go.Proofs.Ytlkafgibgipodaa.P
open Go.RowKit Go.Proofs.YtlkafgibgipodaaW.PrintWords Go.Proofs.YtlkafgibgipodaaW.PrintLast Go.Proofs.YtlkafgibgipodaaW.PrintMore
attribute [local go_sem] max2_int min2_int max_two min_two max_three min_three max_four min_four   -- for this text's walks alone
set_option linter.unusedVariables false
set_option linter.unusedSimpArgs false
open Go.Shelf
attribute [local go_sem] Oper.semAt_some
def Bd.merge : List S32 → List S32 → List S32
 | [], ys => ys
 | x :: xs, [] => x :: xs
 | x :: xs, y :: ys => if x.f0 < y.f0 then x :: Bd.merge xs (y :: ys) else y :: Bd.merge (x :: xs) ys
 termination_by xs ys => xs.length + ys.length
theorem Bd.merge_nil (xs : List S32) : Bd.merge xs [] = xs := by cases xs <;> rw [Bd.merge]
def MKeep (Bs Bt Bb : Nat) (A A' : Option Addr) (U V : World) : Prop := V.heap[Bs]? = U.heap[Bs]? ∧ V.heap[Bt]? = U.heap[Bt]? ∧ V.heap[Bb]? = U.heap[Bb]? ∧ (∀ ad, A = some ad → V.heap[ad.block]? = U.heap[ad.block]?) ∧ ∀ ad, A' = some ad → V.heap[ad.block]? = U.heap[ad.block]?
theorem MKeep.refl (Bs Bt Bb : Nat) (A A' : Option Addr) (U : World) : MKeep Bs Bt Bb A A' U U := ⟨rfl, rfl, rfl, fun _ _ => rfl, fun _ _ => rfl⟩
theorem MKeep.trans {Bs Bt Bb : Nat} {A A' : Option Addr} {U V X : World} (h : MKeep Bs Bt Bb A A' U V) (k : MKeep Bs Bt Bb A A' V X) : MKeep Bs Bt Bb A A' U X :=
 ⟨k.1.trans h.1, k.2.1.trans h.2.1, k.2.2.1.trans h.2.2.1, fun ad e => (k.2.2.2.1 ad e).trans (h.2.2.2.1 ad e), fun ad e => (k.2.2.2.2 ad e).trans (h.2.2.2.2 ad e)⟩
structure MGrown (U V : World) : Prop where
 grown : U.grownBy V none
structure MW (U : World) where
 V : World
 g : MGrown U V
instance MW.some (U : World) : Nonempty (MW U) := ⟨⟨U, ⟨⟨rfl, rfl, rfl, Nat.le_refl _, fun _ _ _ => rfl⟩⟩⟩⟩
theorem MGrown.blk {U V : World} (h : MGrown U V) {k : Nat} (hk : k < U.heap.size) : V.heap[k]? = U.heap[k]? := h.grown.block k hk (by simp)
theorem MGrown.keep {U V : World} (h : MGrown U V) {Bs Bt Bb : Nat} {A A' : Option Addr} (h1 : Bs < U.heap.size) (h2 : Bt < U.heap.size) (h3 : Bb < U.heap.size) (h4 : ∀ ad, A = some ad → ad.block < U.heap.size) (h5 : ∀ ad, A' = some ad → ad.block < U.heap.size) : MKeep Bs Bt Bb A A' U V :=
 ⟨h.blk h1, h.blk h2, h.blk h3, fun ad e => h.blk (h4 ad e), fun ad e => h.blk (h5 ad e)⟩
theorem MGrown.written {U V : World} {o : Obj} (h : MGrown (U.alloc o) V) (u v : Value) : U.grownBy ((V.setCell ⟨U.heap.size, 0, none⟩ u).setCell ⟨U.heap.size, 1, none⟩ v) none := by
 have hs := h.grown.size
 rw [World.size_alloc] at hs
 refine ⟨h.grown.os, h.grown.tape, h.grown.output, ?_, fun k hk _ => ?_⟩
 ·simp [World.setCell]
  omega
 rw [Below.heap_setCell _ _ _ k (by show k ≠ U.heap.size; omega), Below.heap_setCell _ _ _ k (by show k ≠ U.heap.size; omega)]
 exact (h.blk (by rw [World.size_alloc]; omega)).trans (Below.heap_alloc U _ k hk)
theorem MGrown.new {U V : World} {o : Obj} (h : MGrown (U.alloc o) V) : V.heap[U.heap.size]? = some o := (h.blk (by rw [World.size_alloc]; omega)).trans (blk_new U o)
theorem merged_addr (ad : Addr) (k : Nat) : (ad.add k).block = ad.block := by
 unfold Addr.add
 split <;> rfl
theorem merged_at {W V : World} {A B : Option Addr} {xs : List S32} {i : Nat} (kc : Kd.C k32 W A xs.length xs) (hB : B = A) (hk : ∀ ad, B = some ad → V.heap[ad.block]? = W.heap[ad.block]?) (hi : i < xs.length) :
  ∃ ad, A = some ad ∧ V.cell? (ad.add (i * 2)) = some (.int .i64 xs[i].f0) ∧ V.cell? ⟨(ad.add (i * 2)).block, (ad.add (i * 2)).off + 1, none⟩ = some (.int .i64 xs[i].f1) := by
 subst hB
 obtain ⟨ad, ead, hx0, hx1⟩ := at_T32 kc (i : Int) (Int.natCast_nonneg _) (by omega)
 have e1 : rd_T32 xs (i : Int) = xs[i] := by
  unfold rd_T32
  rw [Int.toNat_natCast]
  simp [List.getD, hi]
 rw [e1, Int.toNat_natCast] at hx0 hx1
 refine ⟨ad, ead, ?_, ?_⟩
 ·exact ((World.cell?_of_block (a := ad.add (i * 2)) (show V.heap[(ad.add (i * 2)).block]? = W.heap[(ad.add (i * 2)).block]? from by rw [merged_addr]; exact hk ad ead) : V.cell? (ad.add (i * 2)) = W.cell? (ad.add (i * 2)))).trans hx0
 exact ((World.cell?_of_block (a := ⟨(ad.add (i * 2)).block, (ad.add (i * 2)).off + 1, none⟩) (show V.heap[(ad.add (i * 2)).block]? = W.heap[(ad.add (i * 2)).block]? from by rw [merged_addr]; exact hk ad ead) : V.cell? ⟨(ad.add (i * 2)).block, (ad.add (i * 2)).off + 1, none⟩ = W.cell? ⟨(ad.add (i * 2)).block, (ad.add (i * 2)).off + 1, none⟩)).trans hx1
structure MAt (xs ys : List S32) (pre : List S32) (i k : Nat) : Prop where
 hi : i ≤ xs.length
 hk : k ≤ ys.length
 len : pre.length = i + k
 rest : pre ++ Bd.merge (xs.drop i) (ys.drop k) = Bd.merge xs ys
theorem MAt.start (xs ys : List S32) : MAt xs ys [] 0 0 := ⟨Nat.zero_le _, Nat.zero_le _, rfl, by simp⟩
theorem MAt.left {xs ys pre : List S32} {i k : Nat} (h : MAt xs ys pre i k) (hi : i < xs.length) (hc : ys.length ≤ k ∨ ∃ hk : k < ys.length, xs[i].f0 < ys[k].f0) : MAt xs ys (pre ++ [xs[i]]) (i + 1) k := by
 refine ⟨hi, h.hk, by simp [h.len]; omega, ?_⟩
 rw [← h.rest, List.append_assoc]
 congr 1
 rw [drop_cons hi]
 rcases hc with hc | ⟨hk, hc⟩
 ·rw [List.drop_eq_nil_of_le hc, Bd.merge_nil, Bd.merge_nil]
  rfl
 rw [drop_cons hk, Bd.merge, if_pos hc]
 rfl
theorem MAt.right {xs ys pre : List S32} {i k : Nat} (h : MAt xs ys pre i k) (hk : k < ys.length) (hc : xs.length ≤ i ∨ ∃ hi : i < xs.length, ¬ xs[i].f0 < ys[k].f0) : MAt xs ys (pre ++ [ys[k]]) i (k + 1) := by
 refine ⟨h.hi, hk, by simp [h.len]; omega, ?_⟩
 rw [← h.rest, List.append_assoc]
 congr 1
 rw [drop_cons hk]
 rcases hc with hc | ⟨hi, hc⟩
 ·rw [List.drop_eq_nil_of_le hc, Bd.merge, Bd.merge]
  rfl
 rw [drop_cons hi, Bd.merge, if_neg hc]
 rfl
theorem MAt.done {xs ys pre : List S32} {i k : Nat} (h : MAt xs ys pre i k) (hi : xs.length ≤ i) (hk : ys.length ≤ k) : pre = Bd.merge xs ys := by
 rw [← h.rest, List.drop_eq_nil_of_le hi, List.drop_eq_nil_of_le hk, Bd.merge, List.append_nil]
theorem wpIn_region_class {F : Fence} {n : Nat} {P : Program} {C : World → Prop} {id : Nat} {Q : Exit → Act → World → Prop} {a : Act} {w : World} {l : List Oper} (hro : F.round = none) (hm : P.follows .mixedOrders = true) (hB : Region.lexB .any l.toArray = true) (hC : C { w with drawn := w.drawn + 1 })
  (h : wpQuietIn F n P l.toArray C (fun a' => ∀ w', C w' → Q .normal a' w') l a) : (Code.region id l.toArray true).wpIn F n P Q a w :=
 wpIn_region_quiet (C := C) hro hm hB hC (by simpa using h)
theorem MGrown.drew (U : World) : MGrown U { U with drawn := U.drawn + 1 } := ⟨⟨rfl, rfl, rfl, Nat.le_refl _, fun _ _ _ => rfl⟩⟩
theorem MGrown.below {U V X : World} (h : MGrown U V) (hb : Below V.heap.size V X) : MGrown U X :=
 ⟨⟨hb.os.trans h.grown.os, hb.tape.trans h.grown.tape, hb.output.trans h.grown.output, Nat.le_trans h.grown.size hb.size, fun k hk hr => (hb.block k (Nat.lt_of_lt_of_le hk h.grown.size)).trans (h.grown.block k hk hr)⟩⟩
theorem merged_lower {U : World} (n : Nat) (s : MW U) (x y : S32) :
  CallsIn (Fence.mk (fun _ => True) none false none) n Try.prog 92 #[.agg #[.int .i64 x.f0, .int .i64 x.f1], .agg #[.int .i64 y.f0, .int .i64 y.f1]] s.V fun e w'' => e = .returned (.bool (decide (x.f0 < y.f0))) ∧ ∃ s' : MW U, w'' = s'.V :=
 (callsIn_wide.2 (bound_lower.calls x.f0 x.f1 y.f0 y.f1 (decide (x.f0 < y.f0)) s.V rfl)).mono fun e w'' h => ⟨h.1, ⟨w'', s.g.below h.2⟩, rfl⟩
theorem merged_lt {W U : World} {k : Nat} (hk : k < W.heap.size) (h : U.heap[k]? = W.heap[k]?) : k < U.heap.size := by
 rw [Array.getElem?_eq_getElem hk] at h
 exact blk_lt h
theorem merged_step {W wr V X : World} {Bs Bt Bb : Nat} {A A' : Option Addr} (hK : MKeep Bs Bt Bb A A' W wr) (hg : wr.grownBy V none) (hX : MKeep Bs Bt Bb A A' V X) (h1 : Bs < W.heap.size) (h2 : Bt < W.heap.size) (h3 : Bb < W.heap.size) (h4 : ∀ ad, A = some ad → ad.block < W.heap.size) (h5 : ∀ ad, A' = some ad → ad.block < W.heap.size) : MKeep Bs Bt Bb A A' W X :=
 MKeep.trans (MKeep.trans hK ((MGrown.mk hg).keep (merged_lt h1 hK.1) (merged_lt h2 hK.2.1) (merged_lt h3 hK.2.2.1) (fun ad e => merged_lt (h4 ad e) (hK.2.2.2.1 ad e)) (fun ad e => merged_lt (h5 ad e) (hK.2.2.2.2 ad e)))) hX
theorem merged_box {W wr V : World} {o o' : Obj} {k : Nat} (h : W.heap[k]? = some o) (hk : wr.heap[k]? = W.heap[k]?) (hV : MGrown (wr.alloc o') V) : V.heap[k]? = some o :=
 (hV.blk (by rw [World.size_alloc]; have := blk_lt (hk.trans h); omega)).trans ((Below.heap_alloc wr o' k (blk_lt (hk.trans h))).trans (hk.trans h))
theorem merged_row {W wr V : World} {o' : Obj} {A : Option Addr} (hl : ∀ ad, A = some ad → ad.block < W.heap.size) (hk : ∀ ad, A = some ad → wr.heap[ad.block]? = W.heap[ad.block]?) (hV : MGrown (wr.alloc o') V) : ∀ ad, A = some ad → V.heap[ad.block]? = W.heap[ad.block]? := fun ad e => by
 have h := Array.getElem?_eq_getElem (hl ad e)
 rw [merged_box h (hk ad e) hV, h]
set_option maxRecDepth 100000 in
set_option maxHeartbeats 4000000 in
theorem bound_merged1_in (n : Nat) (hn : 1 ≤ n) (l Bs Bt Bb : Nat) (A A' B B' : Option Addr) (c c' : Nat) (xs ys : List S32) (hxl : xs.length ≤ 1000000) (hyl : ys.length ≤ 1000000) (J Jx : List S32 → World → Prop) (hA : ∀ pre W W', J pre W → W.grownBy W' none → J pre W')
  (hY : ∀ pre x W, J pre W → pre.length < xs.length + ys.length → YieldAt (Fence.mk (fun _ => True) none false none) (n - 1) Try.prog l #[.agg #[.int .i64 x.f0, .int .i64 x.f1]] W fun e W' => (e = .returned (.bool true) ∧ J (pre ++ [x]) W' ∧ MKeep Bs Bt Bb B B' W W') ∨ (e = .returned (.bool false) ∧ Jx (pre ++ [x]) W'))
  (W : World) (ks : W.heap[Bs]? = some (.cells #[.slice A xs.length c] 44 (0, 0))) (kt : W.heap[Bt]? = some (.cells #[.slice A' ys.length c'] 44 (0, 0))) (kb : W.heap[Bb]? = some (.cells #[.func (.func 92) #[] #[]] 42 (0, 0)))
  (kc : Kd.C k32 W A xs.length xs) (kd : Kd.C k32 W A' ys.length ys) (kl : ∀ ad, B = some ad → ad.block < W.heap.size) (kl' : ∀ ad, B' = some ad → ad.block < W.heap.size) (eb : 0 < xs.length → B = A) (eb' : 0 < ys.length → B' = A') (h0 : J [] W) :
  CallsIn (Fence.mk (fun _ => True) none false none) n Try.prog 121 #[.func (.yield l) #[] #[], .pointer (some ⟨Bs, 0, none⟩), .pointer (some ⟨Bt, 0, none⟩), .pointer (some ⟨Bb, 0, none⟩)] W fun e W' => (∃ v, e = .returned v) ∧ (J (Bd.merge xs ys) W' ∨ ∃ pre, Jx pre W') := by
 have KS := zam ks
 have KT := zam kt
 have KB := zam kb
 have KC := zam kc
 have KD := zam kd
 have KL := zam kl
 have KL' := zam kl'
 have EB := zam eb
 have EB' := zam eb'
 have HL := zam (And.intro hxl hyl)
 have HA := zam hA
 have HY := zam hY
 clear ks kt kb kc kd kl kl' eb eb' hxl hyl hA hY
 refine callsIn_of_wp Try.func121 rfl trivial ?_ rfl
 simp only [Try.ntmps121, List.size_toArray, List.length_cons, List.length_nil, Nat.reduceAdd, Nat.reduceSub, Array.replicate_succ, Array.replicate_zero, List.push_toArray, List.append_toArray, List.nil_append, List.cons_append]
 gi_wp2
 gi_loopw [5, 6] (fun v u wr => ∃ (i k : Nat) (pre : List S32), v = .int .i64 (i : Int) ∧ u = .int .i64 (k : Int) ∧ Aside0 (MAt xs ys pre i k) ∧ Aside0 (J pre wr) ∧ Aside0 (MKeep Bs Bt Bb B B' W wr)) (fun v u _ => (xs.length - (intOf v).toNat) + (ys.length - (intOf u).toNat))
 case atStart => exact ⟨0, 0, [], rfl, rfl, ⟨MAt.start _ _⟩, ⟨h0⟩, ⟨MKeep.refl _ _ _ _ _ _⟩⟩
 case round =>
  obtain ⟨i, k, pre, rfl, rfl, hM, hJ, hK⟩ := hrel
  have hzs : wr.cell? ⟨Bs, 0, none⟩ = some (.slice A xs.length c) := (zkc (hK.out.1.trans KS.out) 0).trans rfl
  have hzt : wr.cell? ⟨Bt, 0, none⟩ = some (.slice A' ys.length c') := (zkc (hK.out.2.1.trans KT.out) 0).trans rfl
  by_cases hend : xs.length ≤ i ∧ ys.length ≤ k
  ·have d1 : decide (i < xs.length) = false := zdf (by omega)
   have d2 : decide (k < ys.length) = false := zdf (by omega)
   have he := hM.out.done hend.1 hend.2
   have HE : Aside0 (J (Bd.merge xs ys) wr) := ⟨he ▸ hJ.out⟩
   clear he hend
   gi_wp2
   refine ⟨rfl, _, results_none rfl _ _ _, ⟨_, rfl⟩, .inl HE.out⟩
  by_cases q2 : k < ys.length
  ·by_cases q1 : i < xs.length
   ·have d1 : decide (i < xs.length) = true := zdt q1
    have d1' : decide ((i : Int) < (xs.length : Int)) = true := zdt (by omega)
    have e2 : ((k : Int) == (ys.length : Int)) = false := by simp; omega
    have Q1 := zam q1
    have Q2 := zam q2
    clear q1 q2 hend
    have g3 : ((0 : Int) ≤ (i : Int)) = True := eq_true (by omega)
    have g4 : ((i : Int) < (xs.length : Int)) = True := eq_true (by have := Q1.out; omega)
    have g5 : ((0 : Int) ≤ (k : Int)) = True := eq_true (by omega)
    have g6 : ((k : Int) < (ys.length : Int)) = True := eq_true (by have := Q2.out; omega)
    by_cases ql : (xs[i]'Q1.out).f0 < (ys[k]'Q2.out).f0
    ·have dl : decide ((xs[i]'Q1.out).f0 < (ys[k]'Q2.out).f0) = true := zdt ql
     have QL := zam ql
     clear ql
     gi_wp2
     refine wpIn_region_class (C := fun w' => ∃ s : MW (wr.alloc (.cells #[.int .i64 0, .int .i64 0] 32)), w' = s.V) rfl (by kernel_rfl) (by kernel_rfl) ⟨⟨_, MGrown.drew _⟩, rfl⟩ ?_
     have hzs2 : ∀ s : MW (wr.alloc (.cells #[.int .i64 0, .int .i64 0] 32)), s.V.cell? ⟨Bs, 0, none⟩ = some (.slice A xs.length c) := fun s => (zkc (merged_box KS.out hK.out.1 s.g) 0).trans rfl
     have hzt2 : ∀ s : MW (wr.alloc (.cells #[.int .i64 0, .int .i64 0] 32)), s.V.cell? ⟨Bt, 0, none⟩ = some (.slice A' ys.length c') := fun s => (zkc (merged_box KT.out hK.out.2.1 s.g) 0).trans rfl
     have hzb2 : ∀ s : MW (wr.alloc (.cells #[.int .i64 0, .int .i64 0] 32)), s.V.cell? ⟨Bb, 0, none⟩ = some (.func (.func 92) #[] #[]) := fun s => (zkc (merged_box KB.out hK.out.2.2.1 s.g) 0).trans rfl
     obtain ⟨adx, eadx, -⟩ := merged_at KC.out rfl (fun _ _ => rfl) Q1.out
     obtain ⟨ady, eady, -⟩ := merged_at KD.out rfl (fun _ _ => rfl) Q2.out
     have hx0 : ∀ s : MW (wr.alloc (.cells #[.int .i64 0, .int .i64 0] 32)), s.V.cell? (adx.add (i * 2)) = some (.int .i64 (xs[i]'Q1.out).f0) := fun s => by obtain ⟨ad, e, h, -⟩ := merged_at KC.out (EB.out (Nat.lt_of_le_of_lt (Nat.zero_le _) Q1.out)) (merged_row KL.out hK.out.2.2.2.1 s.g) Q1.out; rw [eadx] at e; cases e; exact h
     have hx1 : ∀ s : MW (wr.alloc (.cells #[.int .i64 0, .int .i64 0] 32)), s.V.cell? ⟨(adx.add (i * 2)).block, (adx.add (i * 2)).off + 1, none⟩ = some (.int .i64 (xs[i]'Q1.out).f1) := fun s => by obtain ⟨ad, e, -, h⟩ := merged_at KC.out (EB.out (Nat.lt_of_le_of_lt (Nat.zero_le _) Q1.out)) (merged_row KL.out hK.out.2.2.2.1 s.g) Q1.out; rw [eadx] at e; cases e; exact h
     have hy0 : ∀ s : MW (wr.alloc (.cells #[.int .i64 0, .int .i64 0] 32)), s.V.cell? (ady.add (k * 2)) = some (.int .i64 (ys[k]'Q2.out).f0) := fun s => by obtain ⟨ad, e, h, -⟩ := merged_at KD.out (EB'.out (Nat.lt_of_le_of_lt (Nat.zero_le _) Q2.out)) (merged_row KL'.out hK.out.2.2.2.2 s.g) Q2.out; rw [eady] at e; cases e; exact h
     have hy1 : ∀ s : MW (wr.alloc (.cells #[.int .i64 0, .int .i64 0] 32)), s.V.cell? ⟨(ady.add (k * 2)).block, (ady.add (k * 2)).off + 1, none⟩ = some (.int .i64 (ys[k]'Q2.out).f1) := fun s => by obtain ⟨ad, e, -, h⟩ := merged_at KD.out (EB'.out (Nat.lt_of_le_of_lt (Nat.zero_le _) Q2.out)) (merged_row KL'.out hK.out.2.2.2.2 s.g) Q2.out; rw [eady] at e; cases e; exact h
     repeat (gi_big_quiet_step (((gi_at_call 92; exact merged_lower _ _ _ _))))
     refine wpQuietIn_nil ?_
     rintro _ ⟨⟨V, hV⟩, rfl⟩
     have HV := zam hV
     clear hV hzs hzt hzs2 hzt2 hzb2 hx0 hx1 hy0 hy1 g3 g4 g5 g6 eadx eady
     have hzs := (zkc (merged_box KS.out hK.out.1 HV.out) 0).trans rfl
     have hzt := (zkc (merged_box KT.out hK.out.2.1 HV.out) 0).trans rfl
     have hc0 := zkc HV.out.new 0
     have hf0 := zkz HV.out.new 0
     have hc1 := zkc HV.out.new 1
     have hf1 := zkz HV.out.new 1
     obtain ⟨ad, ead, hx0, hx1⟩ := merged_at KC.out (EB.out (Nat.lt_of_le_of_lt (Nat.zero_le _) Q1.out)) (merged_row KL.out hK.out.2.2.2.1 HV.out) Q1.out
     obtain ⟨x, hx⟩ : ∃ x, xs[i]'Q1.out = x := ⟨_, rfl⟩
     have HX := zam hx
     rw [hx] at hx0 hx1
     clear hx
     have HM2 : Aside0 (MAt xs ys (pre ++ [x]) (i + 1) k) := ⟨by rw [← HX.out]; exact hM.out.left Q1.out (.inr ⟨Q2.out, QL.out⟩)⟩
     have wi : IntKind.i64.wrap ((i : Int) + 1) = ((i + 1 : Nat) : Int) := by
      have := HL.out
      have := Q1.out
      rw [i64_w, wrap_id (by omega) (by omega)]
      omega
     have g0 : ((0 : Int) ≤ (i : Int)) = True := eq_true (by omega)
     have g1 : ((i : Int) < (xs.length : Int)) = True := eq_true (by have := Q1.out; omega)
     have g2 : (i < xs.length) = True := eq_true Q1.out
     have HG := zam (HV.out.written (.int .i64 x.f0) (.int .i64 x.f1))
     have HP : Aside0 (pre.length < xs.length + ys.length) := ⟨by have h1 := hM.out.len; have h2 := hM.out.hi; have h3 := hM.out.hk; have h4 := Q1.out; omega⟩
     obtain ⟨fn, tmps, assign, body, hy, hR⟩ := HY.out pre x _ (HA.out _ _ _ hJ.out HG.out) HP.out
     have HR := zam hR
     clear hR
     subst ead
     gi_wp2
     refine HR.out.mono ?_
     rintro e W3 (⟨rfl, hJ3, hk3⟩ | ⟨rfl, hJx3⟩)
     ·have J3 := zam hJ3
      have K3 := zam hk3
      clear hJ3 hk3
      gi_wp2
      go_roundw
      case rel => exact ⟨i + 1, k, pre ++ [x], rfl, rfl, HM2, J3, ⟨merged_step hK.out HG.out K3.out (blk_lt KS.out) (blk_lt KT.out) (blk_lt KB.out) KL.out KL'.out⟩⟩
      case measure => (have := Q1.out; simp only [intOf]; omega)
     gi_wp2
     exact ⟨rfl, _, results_none rfl _ _ _, ⟨_, rfl⟩, .inr ⟨_, hJx3⟩⟩
    have dl : decide ((xs[i]'Q1.out).f0 < (ys[k]'Q2.out).f0) = false := zdf ql
    have QL := zam ql
    clear ql
    gi_wp2
    refine wpIn_region_class (C := fun w' => ∃ s : MW (wr.alloc (.cells #[.int .i64 0, .int .i64 0] 32)), w' = s.V) rfl (by kernel_rfl) (by kernel_rfl) ⟨⟨_, MGrown.drew _⟩, rfl⟩ ?_
    have hzs2 : ∀ s : MW (wr.alloc (.cells #[.int .i64 0, .int .i64 0] 32)), s.V.cell? ⟨Bs, 0, none⟩ = some (.slice A xs.length c) := fun s => (zkc (merged_box KS.out hK.out.1 s.g) 0).trans rfl
    have hzt2 : ∀ s : MW (wr.alloc (.cells #[.int .i64 0, .int .i64 0] 32)), s.V.cell? ⟨Bt, 0, none⟩ = some (.slice A' ys.length c') := fun s => (zkc (merged_box KT.out hK.out.2.1 s.g) 0).trans rfl
    have hzb2 : ∀ s : MW (wr.alloc (.cells #[.int .i64 0, .int .i64 0] 32)), s.V.cell? ⟨Bb, 0, none⟩ = some (.func (.func 92) #[] #[]) := fun s => (zkc (merged_box KB.out hK.out.2.2.1 s.g) 0).trans rfl
    obtain ⟨adx, eadx, -⟩ := merged_at KC.out rfl (fun _ _ => rfl) Q1.out
    obtain ⟨ady, eady, -⟩ := merged_at KD.out rfl (fun _ _ => rfl) Q2.out
    have hx0 : ∀ s : MW (wr.alloc (.cells #[.int .i64 0, .int .i64 0] 32)), s.V.cell? (adx.add (i * 2)) = some (.int .i64 (xs[i]'Q1.out).f0) := fun s => by obtain ⟨ad, e, h, -⟩ := merged_at KC.out (EB.out (Nat.lt_of_le_of_lt (Nat.zero_le _) Q1.out)) (merged_row KL.out hK.out.2.2.2.1 s.g) Q1.out; rw [eadx] at e; cases e; exact h
    have hx1 : ∀ s : MW (wr.alloc (.cells #[.int .i64 0, .int .i64 0] 32)), s.V.cell? ⟨(adx.add (i * 2)).block, (adx.add (i * 2)).off + 1, none⟩ = some (.int .i64 (xs[i]'Q1.out).f1) := fun s => by obtain ⟨ad, e, -, h⟩ := merged_at KC.out (EB.out (Nat.lt_of_le_of_lt (Nat.zero_le _) Q1.out)) (merged_row KL.out hK.out.2.2.2.1 s.g) Q1.out; rw [eadx] at e; cases e; exact h
    have hy0 : ∀ s : MW (wr.alloc (.cells #[.int .i64 0, .int .i64 0] 32)), s.V.cell? (ady.add (k * 2)) = some (.int .i64 (ys[k]'Q2.out).f0) := fun s => by obtain ⟨ad, e, h, -⟩ := merged_at KD.out (EB'.out (Nat.lt_of_le_of_lt (Nat.zero_le _) Q2.out)) (merged_row KL'.out hK.out.2.2.2.2 s.g) Q2.out; rw [eady] at e; cases e; exact h
    have hy1 : ∀ s : MW (wr.alloc (.cells #[.int .i64 0, .int .i64 0] 32)), s.V.cell? ⟨(ady.add (k * 2)).block, (ady.add (k * 2)).off + 1, none⟩ = some (.int .i64 (ys[k]'Q2.out).f1) := fun s => by obtain ⟨ad, e, -, h⟩ := merged_at KD.out (EB'.out (Nat.lt_of_le_of_lt (Nat.zero_le _) Q2.out)) (merged_row KL'.out hK.out.2.2.2.2 s.g) Q2.out; rw [eady] at e; cases e; exact h
    repeat (gi_big_quiet_step (((gi_at_call 92; exact merged_lower _ _ _ _))))
    refine wpQuietIn_nil ?_
    rintro _ ⟨⟨V, hV⟩, rfl⟩
    have HV := zam hV
    clear hV hzs hzt hzs2 hzt2 hzb2 hx0 hx1 hy0 hy1 g3 g4 g5 g6 eadx eady
    have hzs := (zkc (merged_box KS.out hK.out.1 HV.out) 0).trans rfl
    have hzt := (zkc (merged_box KT.out hK.out.2.1 HV.out) 0).trans rfl
    have hc0 := zkc HV.out.new 0
    have hf0 := zkz HV.out.new 0
    have hc1 := zkc HV.out.new 1
    have hf1 := zkz HV.out.new 1
    obtain ⟨ad, ead, hx0, hx1⟩ := merged_at KD.out (EB'.out (Nat.lt_of_le_of_lt (Nat.zero_le _) Q2.out)) (merged_row KL'.out hK.out.2.2.2.2 HV.out) Q2.out
    obtain ⟨x, hx⟩ : ∃ x, ys[k]'Q2.out = x := ⟨_, rfl⟩
    have HX := zam hx
    rw [hx] at hx0 hx1
    clear hx
    have HM2 : Aside0 (MAt xs ys (pre ++ [x]) i (k + 1)) := ⟨by rw [← HX.out]; exact hM.out.right Q2.out (.inr ⟨Q1.out, by have := QL.out; omega⟩)⟩
    have wi : IntKind.i64.wrap ((k : Int) + 1) = ((k + 1 : Nat) : Int) := by
     have := HL.out
     have := Q2.out
     rw [i64_w, wrap_id (by omega) (by omega)]
     omega
    have g0 : ((0 : Int) ≤ (k : Int)) = True := eq_true (by omega)
    have g1 : ((k : Int) < (ys.length : Int)) = True := eq_true (by have := Q2.out; omega)
    have g2 : (k < ys.length) = True := eq_true Q2.out
    have HG := zam (HV.out.written (.int .i64 x.f0) (.int .i64 x.f1))
    have HP : Aside0 (pre.length < xs.length + ys.length) := ⟨by have h1 := hM.out.len; have h2 := hM.out.hi; have h3 := hM.out.hk; have h4 := Q2.out; omega⟩
    obtain ⟨fn, tmps, assign, body, hy, hR⟩ := HY.out pre x _ (HA.out _ _ _ hJ.out HG.out) HP.out
    have HR := zam hR
    clear hR
    subst ead
    gi_wp2
    refine HR.out.mono ?_
    rintro e W3 (⟨rfl, hJ3, hk3⟩ | ⟨rfl, hJx3⟩)
    ·have J3 := zam hJ3
     have K3 := zam hk3
     clear hJ3 hk3
     gi_wp2
     go_roundw
     case rel => exact ⟨i, k + 1, pre ++ [x], rfl, rfl, HM2, J3, ⟨merged_step hK.out HG.out K3.out (blk_lt KS.out) (blk_lt KT.out) (blk_lt KB.out) KL.out KL'.out⟩⟩
     case measure => (have := Q2.out; simp only [intOf]; omega)
    gi_wp2
    exact ⟨rfl, _, results_none rfl _ _ _, ⟨_, rfl⟩, .inr ⟨_, hJx3⟩⟩
   have d1 : decide (i < xs.length) = false := zdf q1
   have d1' : decide ((i : Int) < (xs.length : Int)) = false := zdf (by omega)
   have d2 : decide (k < ys.length) = true := zdt q2
   have e2 : ((k : Int) == (ys.length : Int)) = false := by simp; omega
   have Q1 := zam q1
   have Q2 := zam q2
   clear q1 q2 hend
   gi_wp2
   refine wpIn_region_class (C := fun w' => ∃ s : MW (wr.alloc (.cells #[.int .i64 0, .int .i64 0] 32)), w' = s.V) rfl (by kernel_rfl) (by kernel_rfl) ⟨⟨_, MGrown.drew _⟩, rfl⟩ ?_
   have hzs2 : ∀ s : MW (wr.alloc (.cells #[.int .i64 0, .int .i64 0] 32)), s.V.cell? ⟨Bs, 0, none⟩ = some (.slice A xs.length c) := fun s => (zkc (merged_box KS.out hK.out.1 s.g) 0).trans rfl
   have hzt2 : ∀ s : MW (wr.alloc (.cells #[.int .i64 0, .int .i64 0] 32)), s.V.cell? ⟨Bt, 0, none⟩ = some (.slice A' ys.length c') := fun s => (zkc (merged_box KT.out hK.out.2.1 s.g) 0).trans rfl
   repeat (gi_big_quiet_step (fail))
   refine wpQuietIn_nil ?_
   rintro _ ⟨⟨V, hV⟩, rfl⟩
   have HV := zam hV
   clear hV hzs hzt hzs2 hzt2 
   have hzs := (zkc (merged_box KS.out hK.out.1 HV.out) 0).trans rfl
   have hzt := (zkc (merged_box KT.out hK.out.2.1 HV.out) 0).trans rfl
   have hc0 := zkc HV.out.new 0
   have hf0 := zkz HV.out.new 0
   have hc1 := zkc HV.out.new 1
   have hf1 := zkz HV.out.new 1
   obtain ⟨ad, ead, hx0, hx1⟩ := merged_at KD.out (EB'.out (Nat.lt_of_le_of_lt (Nat.zero_le _) Q2.out)) (merged_row KL'.out hK.out.2.2.2.2 HV.out) Q2.out
   obtain ⟨x, hx⟩ : ∃ x, ys[k]'Q2.out = x := ⟨_, rfl⟩
   have HX := zam hx
   rw [hx] at hx0 hx1
   clear hx
   have HM2 : Aside0 (MAt xs ys (pre ++ [x]) i (k + 1)) := ⟨by rw [← HX.out]; exact hM.out.right Q2.out (.inl (Nat.le_of_not_lt Q1.out))⟩
   have wi : IntKind.i64.wrap ((k : Int) + 1) = ((k + 1 : Nat) : Int) := by
    have := HL.out
    have := Q2.out
    rw [i64_w, wrap_id (by omega) (by omega)]
    omega
   have g0 : ((0 : Int) ≤ (k : Int)) = True := eq_true (by omega)
   have g1 : ((k : Int) < (ys.length : Int)) = True := eq_true (by have := Q2.out; omega)
   have g2 : (k < ys.length) = True := eq_true Q2.out
   have HG := zam (HV.out.written (.int .i64 x.f0) (.int .i64 x.f1))
   have HP : Aside0 (pre.length < xs.length + ys.length) := ⟨by have h1 := hM.out.len; have h2 := hM.out.hi; have h3 := hM.out.hk; have h4 := Q2.out; omega⟩
   obtain ⟨fn, tmps, assign, body, hy, hR⟩ := HY.out pre x _ (HA.out _ _ _ hJ.out HG.out) HP.out
   have HR := zam hR
   clear hR
   subst ead
   gi_wp2
   refine HR.out.mono ?_
   rintro e W3 (⟨rfl, hJ3, hk3⟩ | ⟨rfl, hJx3⟩)
   ·have J3 := zam hJ3
    have K3 := zam hk3
    clear hJ3 hk3
    gi_wp2
    go_roundw
    case rel => exact ⟨i, k + 1, pre ++ [x], rfl, rfl, HM2, J3, ⟨merged_step hK.out HG.out K3.out (blk_lt KS.out) (blk_lt KT.out) (blk_lt KB.out) KL.out KL'.out⟩⟩
    case measure => (have := Q2.out; simp only [intOf]; omega)
   gi_wp2
   exact ⟨rfl, _, results_none rfl _ _ _, ⟨_, rfl⟩, .inr ⟨_, hJx3⟩⟩
  have q1 : i < xs.length := by omega
  have d1 : decide (i < xs.length) = true := zdt q1
  have e2 : ((k : Int) == (ys.length : Int)) = true := by have := hM.out.hk; simp; omega
  have Q1 := zam q1
  have Q2 := zam q2
  clear q1 q2 hend
  gi_wp2
  refine wpIn_region_class (C := fun w' => ∃ s : MW (wr.alloc (.cells #[.int .i64 0, .int .i64 0] 32)), w' = s.V) rfl (by kernel_rfl) (by kernel_rfl) ⟨⟨_, MGrown.drew _⟩, rfl⟩ ?_
  have hzs2 : ∀ s : MW (wr.alloc (.cells #[.int .i64 0, .int .i64 0] 32)), s.V.cell? ⟨Bs, 0, none⟩ = some (.slice A xs.length c) := fun s => (zkc (merged_box KS.out hK.out.1 s.g) 0).trans rfl
  have hzt2 : ∀ s : MW (wr.alloc (.cells #[.int .i64 0, .int .i64 0] 32)), s.V.cell? ⟨Bt, 0, none⟩ = some (.slice A' ys.length c') := fun s => (zkc (merged_box KT.out hK.out.2.1 s.g) 0).trans rfl
  repeat (gi_big_quiet_step (fail))
  refine wpQuietIn_nil ?_
  rintro _ ⟨⟨V, hV⟩, rfl⟩
  have HV := zam hV
  clear hV hzs hzt hzs2 hzt2 
  have hzs := (zkc (merged_box KS.out hK.out.1 HV.out) 0).trans rfl
  have hzt := (zkc (merged_box KT.out hK.out.2.1 HV.out) 0).trans rfl
  have hc0 := zkc HV.out.new 0
  have hf0 := zkz HV.out.new 0
  have hc1 := zkc HV.out.new 1
  have hf1 := zkz HV.out.new 1
  obtain ⟨ad, ead, hx0, hx1⟩ := merged_at KC.out (EB.out (Nat.lt_of_le_of_lt (Nat.zero_le _) Q1.out)) (merged_row KL.out hK.out.2.2.2.1 HV.out) Q1.out
  obtain ⟨x, hx⟩ : ∃ x, xs[i]'Q1.out = x := ⟨_, rfl⟩
  have HX := zam hx
  rw [hx] at hx0 hx1
  clear hx
  have HM2 : Aside0 (MAt xs ys (pre ++ [x]) (i + 1) k) := ⟨by rw [← HX.out]; exact hM.out.left Q1.out (.inl (Nat.le_of_not_lt Q2.out))⟩
  have wi : IntKind.i64.wrap ((i : Int) + 1) = ((i + 1 : Nat) : Int) := by
   have := HL.out
   have := Q1.out
   rw [i64_w, wrap_id (by omega) (by omega)]
   omega
  have g0 : ((0 : Int) ≤ (i : Int)) = True := eq_true (by omega)
  have g1 : ((i : Int) < (xs.length : Int)) = True := eq_true (by have := Q1.out; omega)
  have g2 : (i < xs.length) = True := eq_true Q1.out
  have HG := zam (HV.out.written (.int .i64 x.f0) (.int .i64 x.f1))
  have HP : Aside0 (pre.length < xs.length + ys.length) := ⟨by have h1 := hM.out.len; have h2 := hM.out.hi; have h3 := hM.out.hk; have h4 := Q1.out; omega⟩
  obtain ⟨fn, tmps, assign, body, hy, hR⟩ := HY.out pre x _ (HA.out _ _ _ hJ.out HG.out) HP.out
  have HR := zam hR
  clear hR
  subst ead
  gi_wp2
  refine HR.out.mono ?_
  rintro e W3 (⟨rfl, hJ3, hk3⟩ | ⟨rfl, hJx3⟩)
  ·have J3 := zam hJ3
   have K3 := zam hk3
   clear hJ3 hk3
   gi_wp2
   go_roundw
   case rel => exact ⟨i + 1, k, pre ++ [x], rfl, rfl, HM2, J3, ⟨merged_step hK.out HG.out K3.out (blk_lt KS.out) (blk_lt KT.out) (blk_lt KB.out) KL.out KL'.out⟩⟩
   case measure => (have := Q1.out; simp only [intOf]; omega)
  gi_wp2
  exact ⟨rfl, _, results_none rfl _ _ _, ⟨_, rfl⟩, .inr ⟨_, hJx3⟩⟩
theorem bound_merged_in (n : Nat) (A A' : Option Addr) (m m' c c' : Nat) (w : World) :
  CallsIn (Fence.mk (fun _ => True) none false none) n Try.prog 91 #[.slice A m c, .slice A' m' c', .func (.func 92) #[] #[]] w fun e w' =>
   e = .returned (.func (.func 121) #[] #[.pointer (some ⟨w.heap.size, 0, none⟩), .pointer (some ⟨w.heap.size + 1, 0, none⟩), .pointer (some ⟨w.heap.size + 2, 0, none⟩)]) ∧ w' = ((w.alloc (.cells #[.slice A m c] 44)).alloc (.cells #[.slice A' m' c'] 44)).alloc (.cells #[.func (.func 92) #[] #[]] 42) := by
 refine callsIn_of_wp Try.func91 rfl trivial ?_ rfl
 simp only [Try.ntmps91, List.size_toArray, List.length_cons, List.length_nil, Nat.reduceAdd, Nat.reduceSub, Array.replicate_succ, Array.replicate_zero, List.push_toArray, List.append_toArray, List.nil_append, List.cons_append]
 gi_wp2
 go_ret
 exact ⟨rfl, rfl⟩
theorem merged_stops (n : Nat) (hn : 1 ≤ n) (Bs Bt Bb : Nat) (A A' B B' : Option Addr) (c c' : Nat) (xs ys : List S32) (hxl : xs.length ≤ 1000000) (hyl : ys.length ≤ 1000000) (w : World) (ks : w.heap[Bs]? = some (.cells #[.slice A xs.length c] 44 (0, 0))) (kt : w.heap[Bt]? = some (.cells #[.slice A' ys.length c'] 44 (0, 0))) (kb : w.heap[Bb]? = some (.cells #[.func (.func 92) #[] #[]] 42 (0, 0)))
  (kc : Kd.C k32 w A xs.length xs) (kd : Kd.C k32 w A' ys.length ys) (kl : ∀ ad, B = some ad → ad.block < w.heap.size) (kl' : ∀ ad, B' = some ad → ad.block < w.heap.size) (eb : 0 < xs.length → B = A) (eb' : 0 < ys.length → B' = A') :
  SeqStopsK (Fence.mk (fun _ => True) none false none) n Try.prog 121 #[.pointer (some ⟨Bs, 0, none⟩), .pointer (some ⟨Bt, 0, none⟩), .pointer (some ⟨Bb, 0, none⟩)] (fun x : S32 => #[Value.agg #[.int .i64 x.f0, .int .i64 x.f1]]) (MKeep Bs Bt Bb B B') (fun zs => zs = Bd.merge xs ys) (fun _ => True) (xs.length + ys.length) w := fun l J Jx W hW hA _ hY h0 =>
 (bound_merged1_in n hn l Bs Bt Bb A A' B B' c c' xs ys hxl hyl J Jx (fun pre W W' h hg => hA pre W W' none h hg (fun r e => by cases e)) (fun pre x W h hl => hY pre x W h hl) W (zkb ks hW) (zkb kt hW) (zkb kb hW) (Kd.C_below kc hW) (Kd.C_below kd hW) (fun ad e => Nat.lt_of_lt_of_le (kl ad e) hW.size) (fun ad e => Nat.lt_of_lt_of_le (kl' ad e) hW.size) eb eb' h0).mono
  (fun e W' h => ⟨h.1, h.2.elim (fun hJ => .inl ⟨_, rfl, hJ⟩) (fun hJ => .inr (hJ.elim fun pre hp => ⟨pre, trivial, hp⟩))⟩)
end Go.Proofs.Ytlkafgibgipodaa.P
namespace Go.Proofs.Ytlkafgibgipodaa.P
open Go.RowKit Go.Proofs.YtlkafgibgipodaaW.PrintWords Go.Proofs.YtlkafgibgipodaaW.PrintLast Go.Proofs.YtlkafgibgipodaaW.PrintMore
attribute [local go_sem] max2_int min2_int max_two min_two max_three min_three max_four min_four   -- for this text's walks alone
set_option linter.unusedVariables false
set_option linter.unusedSimpArgs false
open Go.Shelf
def bound_Unite.f (k : Nat) (l0 l1 : List (S32)) : Option (List (S32) × Int) := (bound_checkSets.f k l0 l1).bind fun e => if e = 0 then (if l0.length + l1.length ≤ 1000000 then bound_few.f (Bd.join (Bd.merge l0 l1)) else none) else some ([], e)
theorem bound_Unite.mono : ∀ a0 a1 k, LeO (bound_Unite.f k a0 a1) (bound_Unite.f (k + 1) a0 a1) := by
 intro a0 a1 k
 unfold bound_Unite.f
 refine LeO.bind (bound_checkSets.mono _ _ _) fun _ => ?_
 exact LeO.refl _
theorem span_lt {w : World} {A : Option Addr} {xs : List S32} (kc : Kd.C k32 w A xs.length xs) : ∀ ad, (if 0 < xs.length then A else none) = some ad → ad.block < w.heap.size := by
 intro ad e
 by_cases h : 0 < xs.length
 ·rw [if_pos h] at e
  obtain ⟨ad', e', hx0, _⟩ := at_T32 kc 0 (by decide) (by omega)
  rw [e] at e'
  cases e'
  have := zwb _ _ hx0
  rwa [merged_addr] at this
 rw [if_neg h] at e
 cases e
theorem join_merged (A A' : Option Addr) (c c' : Nat) (xs ys : List S32) (w : World) (hxl : xs.length + ys.length ≤ 1000000) (Bs Bt Bb : Nat) (ks : w.heap[Bs]? = some (.cells #[.slice A xs.length c] 44 (0, 0))) (kt : w.heap[Bt]? = some (.cells #[.slice A' ys.length c'] 44 (0, 0))) (kb : w.heap[Bb]? = some (.cells #[.func (.func 92) #[] #[]] 42 (0, 0)))
  (kc : Kd.C k32 w A xs.length xs) (kd : Kd.C k32 w A' ys.length ys) :
  Calls Try.prog 90 #[.func (.func 121) #[] #[.pointer (some ⟨Bs, 0, none⟩), .pointer (some ⟨Bt, 0, none⟩), .pointer (some ⟨Bb, 0, none⟩)]] w fun e w' => ∃ v : Value, e = .returned v ∧ Kd.R k32 32 w' w.heap.size (fun _ => True) v (Bd.join (Bd.merge xs ys)) ∧ Below w.heap.size w w' := by
 have h1 := blk_lt ks
 have h2 := blk_lt kt
 have h3 := blk_lt kb
 have kl := span_lt kc
 have kl' := span_lt kd
 refine (callsIn_wide.1 (bound_join_in (fun _ => True) none false 3 trivial (by omega) 121 trivial (enters_of Try.func121 (by kernel_rfl) rfl) #[.pointer (some ⟨Bs, 0, none⟩), .pointer (some ⟨Bt, 0, none⟩), .pointer (some ⟨Bb, 0, none⟩)] (MKeep Bs Bt Bb (if 0 < xs.length then A else none) (if 0 < ys.length then A' else none)) (fun zs => zs = Bd.merge xs ys) (fun _ => True) (xs.length + ys.length) hxl w
  (merged_stops 2 (by omega) Bs Bt Bb A A' _ _ c c' xs ys (by omega) (by omega) w ks kt kb kc kd kl kl' (fun h => if_pos h) (fun h => if_pos h)) (fun h k => MKeep.trans h k) (fun W W' h => ⟨h _ h1, h _ h2, h _ h3, fun ad e => h _ (kl ad e), fun ad e => h _ (kl' ad e)⟩))).mono ?_
 rintro e w' ⟨v, zs, rfl, rfl, hrow, hb⟩
 rw [flat_eq] at hrow
 exact ⟨v, rfl, span_of_own (own_down hrow (Nat.le_add_right _ 1)) (fun _ _ => trivial), hb⟩
set_option maxHeartbeats 4000000 in
set_option maxRecDepth 100000 in
theorem bound_Unite.calls (k : Nat) (A0 : Option Addr) (c0 : Nat) (l0 : List (S32)) (A1 : Option Addr) (c1 : Nat) (l1 : List (S32)) (r1 : List (S32)) (r2 : Int) (w : World) (hr0 : Kd.C k32 w A0 l0.length l0) (hc0 : l0.length ≤ c0) (hr1 : Kd.C k32 w A1 l1.length l1) (hc1 : l1.length ≤ c1) (h : bound_Unite.f k l0 l1 = some (r1, r2)) :
  Calls Try.prog 40 #[.slice A0 l0.length c0, .slice A1 l1.length c1] w fun e w' => ∃ v0_ : Value, e = .returned (.tuple #[v0_, .int .i64 r2]) ∧ Kd.R k32 32 w' w.heap.size (fun _ => True) v0_ r1 ∧ Below w.heap.size w w' := by
 unfold bound_Unite.f at h
 have HB := zam (Below.refl w.heap.size w)
 obtain ⟨e, he, h⟩ := Option.bind_eq_some_iff.mp h
 have HC := zam he
 clear he
 by_cases qe : e = 0
 ·subst qe
  rw [if_pos rfl] at h
  by_cases ql : l0.length + l1.length ≤ 1000000
  ·rw [if_pos ql] at h
   have HF := zam h
   have LN := zam ql
   clear h ql
   go_enter Try.func40, Try.ntmps40
   go_wp2_with (first
    | (go_at_call 88; (refine (bound_checkSets.calls k A0 c0 l0 A1 c1 l1 0 _ hr0 hc0 hr1 hc1 HC.out).mono ?_); rintro e w2 ⟨rfl, hb⟩; have n0 := zam (zbt HB.out hb); clear HB hb; have HB := n0; clear n0)
    | (go_at_call 91; (refine (callsIn_wide.1 (bound_merged_in 1 A0 A1 l0.length l1.length c0 c1 w2)).mono ?_); rintro e w3 ⟨rfl, hw3⟩; have HW3 := zam hw3; clear hw3)
    | (go_at_call 90; ((refine (join_merged A0 A1 c0 c1 l0 l1 w3 LN.out w2.heap.size (w2.heap.size + 1) (w2.heap.size + 2) (by rw [HW3.out]; exact zka (zka (blk_new w2 _) _) _) (by rw [HW3.out]; exact zka (by have := blk_new (w2.alloc (.cells #[.slice A0 l0.length c0] 44)) (.cells #[.slice A1 l1.length c1] 44); rwa [World.size_alloc] at this) _) (by rw [HW3.out]; have := blk_new ((w2.alloc (.cells #[.slice A0 l0.length c0] 44)).alloc (.cells #[.slice A1 l1.length c1] 44)) (.cells #[.func (.func 92) #[] #[]] 42); rwa [World.size_alloc, World.size_alloc] at this) (by rw [HW3.out]; exact Kd.C_alloc (Kd.C_alloc (Kd.C_alloc (Kd.C_below hr0 HB.out) _) _) _) (by rw [HW3.out]; exact Kd.C_alloc (Kd.C_alloc (Kd.C_alloc (Kd.C_below hr1 HB.out) _) _) _)).mono ?_); rintro e w6 ⟨v6, rfl, ho, hb⟩; have HB3 := zam (show Below w.heap.size w w3 by rw [HW3.out]; exact zba (zba (zba HB.out _) _) _); have HO6 := zam (span_of_own (ok := fun _ => True) (own_down (b' := w.heap.size) (own_of_span ho) (by have := zbz HB3.out; omega)) (fun _ _ => trivial)); have HB6 := zam (zbt HB3.out hb); clear ho hb))
    | (go_at_call 89; ((refine (bound_few.calls (fun _ => True) v6 _ r1 r2 w w6 HB6.out HO6.out HF.out).mono ?_); rintro e w7 ⟨v7, rfl, ho, hb, -⟩; have HO7 := zam ho; have HB7 := zam hb; clear ho hb)))
   go_ret2
   exact ⟨_, rfl, Kd.R_mono HO7.out (fun _ _ => trivial), HB7.out⟩
  rw [if_neg ql] at h
  cases h
 rw [if_neg qe] at h
 simp only [Option.some.injEq, Prod.mk.injEq] at h
 obtain ⟨rfl, rfl⟩ := h
 have e1 : (e == 0) = false := beq_eq_false_iff_ne.mpr qe
 have e2 : (e != 0) = true := bne_iff_ne.mpr qe
 clear qe
 go_enter Try.func40, Try.ntmps40
 go_wp2_with (go_at_call 88; (refine (bound_checkSets.calls k A0 c0 l0 A1 c1 l1 e _ hr0 hc0 hr1 hc1 HC.out).mono ?_); rintro e w2 ⟨rfl, hb⟩; have n0 := zam (zbt HB.out hb); clear HB hb; have HB := n0; clear n0)
 go_ret2
 exact ⟨_, rfl, Kd.R_nil _ _ _ _ _, HB.out⟩
end Go.Proofs.Ytlkafgibgipodaa.P
namespace Go.Proofs.Ytlkafgibgipodaa.P
open Go.RowKit Go.Proofs.YtlkafgibgipodaaW.PrintWords Go.Proofs.YtlkafgibgipodaaW.PrintLast Go.Proofs.YtlkafgibgipodaaW.PrintMore
attribute [local go_sem] max2_int min2_int max_two min_two max_three min_three max_four min_four   -- for this text's walks alone
set_option linter.unusedVariables false
set_option linter.unusedSimpArgs false
theorem eqA32 (d : Nat) (w : World) (x0 y0 : Int) (x1 y1 : Int) :
  (Op.equalIn (d + 2) 32 (.agg #[.int .i64 x0, .int .i64 x1]) (.agg #[.int .i64 y0, .int .i64 y1])).run Try.prog w = .ok (x0 == y0 && (x1 == y1)) w := by
 refine eqA_of Try.underlying32 (by kernel_rfl) ?_
 refine eqf_cons (by rfl) (by go_simp; rfl) (by go_simp; rfl) (by go_simp) ?_
 exact eqf_last (by rfl) (by go_simp; rfl) (by go_simp; rfl) (by go_simp)
end Go.Proofs.Ytlkafgibgipodaa.P
namespace Go.Proofs.Ytlkafgibgipodaa.P
open Go.RowKit Go.Proofs.YtlkafgibgipodaaW.PrintWords Go.Proofs.YtlkafgibgipodaaW.PrintLast Go.Proofs.YtlkafgibgipodaaW.PrintMore
attribute [local go_sem] max2_int min2_int max_two min_two max_three min_three max_four min_four   -- for this text's walks alone
set_option linter.unusedVariables false
set_option linter.unusedSimpArgs false
attribute [local go_sem high] eqA32
def isobathlaw01_Same.l0 : Nat → List (S32) → List (S32) → Int → Option (Bool)
 | 0, _, _, _ => none
 | k + 1, x0, x1, x5 => if x5 < (x0.length : Int) then (if 0 ≤ x5 then (if x5 < (x1.length : Int) then (if (!(((rd_T32 x0 x5).f0) == ((rd_T32 x1 x5).f0)) || (!(((rd_T32 x0 x5).f1) == ((rd_T32 x1 x5).f1)))) = true then (some false) else (isobathlaw01_Same.l0 k x0 x1 (wrap64 (x5 + 1)))) else (none)) else (none)) else (some true)
def isobathlaw01_Same.f (k : Nat) (l0 : List (S32)) (l1 : List (S32)) : Option (Bool) := if (l0.length : Int) = (l1.length : Int) then (isobathlaw01_Same.l0 k l0 l1 0) else (some false)
end Go.Proofs.Ytlkafgibgipodaa.P
namespace Go.Proofs.Ytlkafgibgipodaa.P
open Go.RowKit Go.Proofs.YtlkafgibgipodaaW.PrintWords Go.Proofs.YtlkafgibgipodaaW.PrintLast Go.Proofs.YtlkafgibgipodaaW.PrintMore
attribute [local go_sem] max2_int min2_int max_two min_two max_three min_three max_four min_four   -- for this text's walks alone
set_option linter.unusedVariables false
set_option linter.unusedSimpArgs false
def isobathref01_put.l0 : Nat → List (S32) → List (S32) → List (S32) → Int → Int → Int → Option ((List (S32)))
 | 0, _, _, _, _, _, _ => none
 | k + 1, x0, x5, x6, x7, x102000, x102001 => if x7 < (x0.length : Int) then (if 0 ≤ x7 then (if (wrap64 (((rd_T32 x0 x7).f1) + 1)) < x102000 then (if x5.length < 8796093022208 then (isobathref01_put.l0 k x0 (x5 ++ [(⟨(rd_T32 x0 x7).f0, (rd_T32 x0 x7).f1⟩ : S32)]) x6 (wrap64 (x7 + 1)) x102000 x102001) else (none)) else (if ((rd_T32 x0 x7).f0) > (wrap64 (x102001 + 1)) then (if x6.length < 8796093022208 then (isobathref01_put.l0 k x0 x5 (x6 ++ [(⟨(rd_T32 x0 x7).f0, (rd_T32 x0 x7).f1⟩ : S32)]) (wrap64 (x7 + 1)) x102000 x102001) else (none)) else (isobathref01_put.l0 k x0 x5 x6 (wrap64 (x7 + 1)) (mn x102000 ((rd_T32 x0 x7).f0)) (mx x102001 ((rd_T32 x0 x7).f1))))) else (none)) else (if x5.length < 8796093022208 then ((some (x5 ++ [(⟨x102000, x102001⟩ : S32)] : List (S32))).bind fun y102 => (if y102.length + x6.length < 8796093022208 then (some (y102 ++ x6)) else (none))) else (none))
def isobathref01_put.f (k : Nat) (l0 : List (S32)) (a1_0 : Int) (a1_1 : Int) : Option ((List (S32))) := isobathref01_put.l0 k l0 ([] : List (S32)) ([] : List (S32)) 0 a1_0 a1_1
mutual
def isobathref01_Cover.l0 : Nat → List (S32) → Int → Option ((List (S32)) × Int)
 | 0, _, _ => none
 | k + 1, x0, x5 => if x5 < (x0.length : Int) then (if 0 ≤ x5 then ((isobathref01_Valid.f ((rd_T32 x0 x5).f0) ((rd_T32 x0 x5).f1)).bind fun t102 => (if t102 = true then (isobathref01_Cover.l0 k x0 (wrap64 (x5 + 1))) else (some (([] : List (S32)), 2)))) else (none)) else (isobathref01_Cover.l1 k x0 ([] : List (S32)) 0)
def isobathref01_Cover.l1 : Nat → List (S32) → List (S32) → Int → Option ((List (S32)) × Int)
 | 0, _, _, _ => none
 | k + 1, x0, x4, x6 => if x6 < (x0.length : Int) then (if 0 ≤ x6 then ((isobathref01_put.f k x4 ((rd_T32 x0 x6).f0) ((rd_T32 x0 x6).f1)).bind fun t104 => (isobathref01_Cover.l1 k x0 t104 (wrap64 (x6 + 1)))) else (none)) else (some (x4, 0))
end
def isobathref01_Cover.f (k : Nat) (l0 : List (S32)) : Option ((List (S32)) × Int) := if (l0.length : Int) > 256 then (some (([] : List (S32)), 6)) else (isobathref01_Cover.l0 k l0 0)
def isobathref01_many.f (l0 : List (S32)) : Option ((List (S32)) × Int) := if (l0.length : Int) > 256 then (some (([] : List (S32)), 6)) else (some (l0, 0))
def isobathref01_Unite.l0 : Nat → List (S32) → List (S32) → Int → Option ((List (S32)) × Int)
 | 0, _, _, _ => none
 | k + 1, x1, x6, x7 => if x7 < (x1.length : Int) then (if 0 ≤ x7 then ((isobathref01_put.f k x6 ((rd_T32 x1 x7).f0) ((rd_T32 x1 x7).f1)).bind fun t110 => (isobathref01_Unite.l0 k x1 t110 (wrap64 (x7 + 1)))) else (none)) else ((isobathref01_many.f x6).bind fun bt113 => (some (bt113.1, bt113.2)))
def isobathref01_Unite.f (k : Nat) (l0 : List (S32)) (l1 : List (S32)) : Option ((List (S32)) × Int) := (isobathref01_both.f k l0 l1).bind fun t101 => (if t101 = 0 then ((some (([] : List (S32)) : List (S32))).bind fun y103 => (if y103.length + l0.length < 8796093022208 then (isobathref01_Unite.l0 k l1 (y103 ++ l0) 0) else (none))) else ((isobathref01_both.f k l0 l1).bind fun t102 => (some (([] : List (S32)), t102))))
def Bs.put1 (st : List S32 × S32 × List S32) (s : S32) : List S32 × S32 × List S32 :=
 if s.f1 + 1 < st.2.1.f0 then (st.1 ++ [s], st.2.1, st.2.2) else if s.f0 > st.2.1.f1 + 1 then (st.1, st.2.1, st.2.2 ++ [s]) else (st.1, ⟨min st.2.1.f0 s.f0, max st.2.1.f1 s.f1⟩, st.2.2)
def Bs.flat3 (st : List S32 × S32 × List S32) : List S32 := st.1 ++ st.2.1 :: st.2.2
def Bs.put (l : List S32) (x : S32) : List S32 := Bs.flat3 (l.foldl Bs.put1 ([], x, []))
theorem Bs.normal_split {b a : List S32} {x : S32} : Bd.Normal (b ++ x :: a) ↔ Bd.Normal b ∧ Bd.Normal a ∧ Bd.ok x ∧ (∀ e ∈ b, e.f1 + 2 ≤ x.f0) ∧ (∀ e ∈ a, x.f1 + 2 ≤ e.f0) ∧ ∀ e ∈ b, ∀ g ∈ a, e.f1 + 2 ≤ g.f0 := by
 unfold Bd.Normal
 rw [List.pairwise_append, List.pairwise_cons]
 constructor
 ·rintro ⟨⟨h1, ⟨h2, h3⟩, h4⟩, h5⟩
  exact ⟨⟨h1, fun s hs => h5 s (by simp [hs])⟩, ⟨h3, fun s hs => h5 s (by simp [hs])⟩, h5 x (by simp), fun e he => h4 e he x (by simp), h2, fun e he g hg => h4 e he g (by simp [hg])⟩
 rintro ⟨⟨h1, h1'⟩, ⟨h2, h2'⟩, h3, h4, h5, h6⟩
 refine ⟨⟨h1, ⟨h5, h2⟩, fun e he g hg => ?_⟩, fun s hs => ?_⟩
 ·rcases List.mem_cons.1 hg with rfl | hg
  ·exact h4 e he
  exact h6 e he g hg
 rcases List.mem_append.1 hs with hs | hs
 ·exact h1' s hs
 rcases List.mem_cons.1 hs with rfl | hs
 ·exact h3
 exact h2' s hs
theorem Bs.normal_snoc {b : List S32} {s : S32} (h : Bd.Normal b) (hs : Bd.ok s) (hb : ∀ e ∈ b, e.f1 + 2 ≤ s.f0) : Bd.Normal (b ++ [s]) := by
 refine (Bs.normal_split (b := b) (x := s) (a := [])).2 ⟨h, ⟨List.Pairwise.nil, fun _ h => (by cases h)⟩, hs, hb, fun _ h => (by cases h), fun _ _ _ h => (by cases h)⟩
structure Bs.Put (p : List S32) (x0 : S32) (st : List S32 × S32 × List S32) : Prop where
 norm : Bd.Normal (Bs.flat3 st)
 mem : ∀ n, Bd.mem (Bs.flat3 st) n ↔ Bd.mem p n ∨ (x0.f0 ≤ n ∧ n ≤ x0.f1)
 before : ∀ e ∈ st.1, e ∈ p
 after : ∀ e ∈ st.2.2, e ∈ p
 len : st.1.length + st.2.2.length ≤ p.length
theorem Bs.mem_flat3 (st : List S32 × S32 × List S32) (n : Int) : Bd.mem (Bs.flat3 st) n ↔ Bd.mem st.1 n ∨ (st.2.1.f0 ≤ n ∧ n ≤ st.2.1.f1) ∨ Bd.mem st.2.2 n := by
 unfold Bs.flat3
 rw [Bd.mem_append, Bd.mem_cons]
theorem Bs.Put.step {p : List S32} {x0 s : S32} {st : List S32 × S32 × List S32} (h : Bs.Put p x0 st) (hs : Bd.ok s) (hp : ∀ e ∈ p, e.f1 + 2 ≤ s.f0) : Bs.Put (p ++ [s]) x0 (Bs.put1 st s) := by
 obtain ⟨b, x, a⟩ := st
 obtain ⟨n1, n2, n3, n4, n5, n6⟩ := Bs.normal_split.1 h.norm
 have hm := fun n => (Bs.mem_flat3 (b, x, a) n).symm.trans (h.mem n)
 have hb := h.before
 have ha := h.after
 have hl := h.len
 dsimp only at n1 n2 n3 n4 n5 n6 hm hb ha hl
 obtain ⟨x1, x2, x3⟩ := n3
 obtain ⟨s1, s2, s3⟩ := hs
 unfold Bs.put1
 dsimp only
 by_cases q1 : s.f1 + 1 < x.f0
 ·rw [if_pos q1]
  refine ⟨(Bs.normal_split (b := b ++ [s]) (x := x) (a := a)).2 ⟨Bs.normal_snoc n1 ⟨s1, s2, s3⟩ fun e he => hp e (hb e he), n2, ⟨x1, x2, x3⟩, fun e he => ?_, n5, fun e he g hg => ?_⟩, fun n => ?_, fun e he => ?_, fun e he => ?_, ?_⟩
  ·rcases List.mem_append.1 he with he | he
   ·exact n4 e he
   rw [List.mem_singleton.1 he]
   omega
  ·rcases List.mem_append.1 he with he | he
   ·exact n6 e he g hg
   rw [List.mem_singleton.1 he]
   have := n5 g hg
   omega
  ·rw [Bs.mem_flat3, Bd.mem_append, Bd.mem_append, Bd.mem_one]
   have := hm n
   constructor
   ·rintro ((h | h) | h | h)
    ·exact (this.1 (.inl h)).elim (fun h => .inl (.inl h)) .inr
    ·exact .inl (.inr h)
    ·exact (this.1 (.inr (.inl h))).elim (fun h => .inl (.inl h)) .inr
    exact (this.1 (.inr (.inr h))).elim (fun h => .inl (.inl h)) .inr
   rintro ((h | h) | h)
   ·exact (this.2 (.inl h)).elim (fun h => .inl (.inl h)) .inr
   ·exact .inl (.inr h)
   exact (this.2 (.inr h)).elim (fun h => .inl (.inl h)) .inr
  ·rcases List.mem_append.1 he with he | he
   ·exact List.mem_append.2 (.inl (hb e he))
   exact List.mem_append.2 (.inr he)
  ·exact List.mem_append.2 (.inl (ha e he))
  simp only [List.length_append, List.length_cons, List.length_nil]
  omega
 rw [if_neg q1]
 by_cases q2 : s.f0 > x.f1 + 1
 ·rw [if_pos q2]
  refine ⟨(Bs.normal_split (b := b) (x := x) (a := a ++ [s])).2 ⟨n1, Bs.normal_snoc n2 ⟨s1, s2, s3⟩ fun e he => hp e (ha e he), ⟨x1, x2, x3⟩, n4, fun e he => ?_, fun e he g hg => ?_⟩, fun n => ?_, fun e he => ?_, fun e he => ?_, ?_⟩
  ·rcases List.mem_append.1 he with he | he
   ·exact n5 e he
   rw [List.mem_singleton.1 he]
   omega
  ·rcases List.mem_append.1 hg with hg | hg
   ·exact n6 e he g hg
   rw [List.mem_singleton.1 hg]
   exact hp e (hb e he)
  ·rw [Bs.mem_flat3, Bd.mem_append, Bd.mem_append, Bd.mem_one]
   have := hm n
   constructor
   ·rintro (h | h | h | h)
    ·exact (this.1 (.inl h)).elim (fun h => .inl (.inl h)) .inr
    ·exact (this.1 (.inr (.inl h))).elim (fun h => .inl (.inl h)) .inr
    ·exact (this.1 (.inr (.inr h))).elim (fun h => .inl (.inl h)) .inr
    exact .inl (.inr h)
   rintro ((h | h) | h)
   ·exact (this.2 (.inl h)).elim .inl fun h => .inr (h.elim .inl fun h => .inr (.inl h))
   ·exact .inr (.inr (.inr h))
   exact (this.2 (.inr h)).elim .inl fun h => .inr (h.elim .inl fun h => .inr (.inl h))
  ·exact List.mem_append.2 (.inl (hb e he))
  ·rcases List.mem_append.1 he with he | he
   ·exact List.mem_append.2 (.inl (ha e he))
   exact List.mem_append.2 (.inr he)
  simp only [List.length_append, List.length_cons, List.length_nil]
  omega
 rw [if_neg q2]
 have na : a = [] := by
  rcases List.eq_nil_or_concat a with e | ⟨L, g, e⟩
  ·exact e
  rw [List.concat_eq_append] at e
  have hg : g ∈ a := by rw [e]; simp
  have h1 := n5 g hg
  have h2 := hp g (ha g hg)
  have h3 := (n2.2 g hg).1
  omega
 subst na
 refine ⟨(Bs.normal_split (b := b) (x := ⟨min x.f0 s.f0, max x.f1 s.f1⟩) (a := [])).2 ⟨n1, n2, ⟨?_, ?_, ?_⟩, fun e he => ?_, fun e he => (by cases he), fun e he g hg => (by cases hg)⟩, fun n => ?_, fun e he => ?_, fun e he => (by cases he), ?_⟩
 ·show min x.f0 s.f0 ≤ max x.f1 s.f1
  omega
 ·show -1073741824 ≤ min x.f0 s.f0
  omega
 ·show max x.f1 s.f1 ≤ 1073741824
  omega
 ·show e.f1 + 2 ≤ min x.f0 s.f0
  have h1 := n4 e he
  have h2 := hp e (hb e he)
  omega
 ·rw [Bs.mem_flat3, Bd.mem_append, Bd.mem_one]
  have := hm n
  constructor
  ·rintro (h | h | h)
   ·exact (this.1 (.inl h)).elim (fun h => .inl (.inl h)) .inr
   ·have h1 : min x.f0 s.f0 ≤ n := h.1
    have h2 : n ≤ max x.f1 s.f1 := h.2
    by_cases c : s.f0 ≤ n ∧ n ≤ s.f1
    ·exact .inl (.inr c)
    exact (this.1 (.inr (.inl (by omega)))).elim (fun h => .inl (.inl h)) .inr
   exact absurd h (Bd.mem_nil n)
  have into : (x.f0 ≤ n ∧ n ≤ x.f1) ∨ (s.f0 ≤ n ∧ n ≤ s.f1) → min x.f0 s.f0 ≤ n ∧ n ≤ max x.f1 s.f1 := fun h => by omega
  rintro ((h | h) | h)
  ·exact (this.2 (.inl h)).elim .inl fun h => .inr (h.elim (fun h => .inl (into (.inl h))) fun h => absurd h (Bd.mem_nil n))
  ·exact .inr (.inl (into (.inr h)))
  exact (this.2 (.inr h)).elim .inl fun h => .inr (h.elim (fun h => .inl (into (.inl h))) fun h => absurd h (Bd.mem_nil n))
 ·exact List.mem_append.2 (.inl (hb e he))
 simp only [List.length_append, List.length_cons, List.length_nil] at hl ⊢
 omega
theorem Bs.Put.all {x0 : S32} : ∀ (l p : List S32) (st : List S32 × S32 × List S32), Bs.Put p x0 st → Bd.Normal (p ++ l) → Bs.Put (p ++ l) x0 (l.foldl Bs.put1 st)
 | [], p, st, h, _ => by rw [List.append_nil]; exact h
 | s :: l, p, st, h, hn => by
  have hp := (Bs.normal_split.1 hn)
  have := Bs.Put.all l (p ++ [s]) (Bs.put1 st s) (h.step hp.2.2.1 hp.2.2.2.1) (by rw [List.append_assoc]; exact hn)
  rw [List.append_assoc] at this
  exact this
theorem Bs.Put.start {x0 : S32} (h : Bd.ok x0) : Bs.Put [] x0 ([], x0, []) :=
 ⟨⟨List.pairwise_singleton _ _, fun s hs => by rw [List.mem_singleton.1 hs]; exact h⟩, fun n => by rw [Bs.mem_flat3]; exact ⟨fun h => h.elim .inl fun h => h.elim .inr .inl, fun h => h.elim .inl fun h => .inr (.inl h)⟩, fun _ h => (by cases h), fun _ h => (by cases h), Nat.le_refl _⟩
theorem Bs.put_spec {l : List S32} {x : S32} (hl : Bd.Normal l) (hx : Bd.ok x) : Bd.Normal (Bs.put l x) ∧ (∀ n, Bd.mem (Bs.put l x) n ↔ Bd.mem l n ∨ (x.f0 ≤ n ∧ n ≤ x.f1)) ∧ (Bs.put l x).length ≤ l.length + 1 := by
 have h := Bs.Put.all l [] ([], x, []) (Bs.Put.start hx) hl
 rw [List.nil_append] at h
 refine ⟨h.norm, h.mem, ?_⟩
 have := h.len
 unfold Bs.put Bs.flat3
 simp only [List.length_append, List.length_cons]
 omega
theorem Bs.put_l0 {xs : List S32} (hl : xs.length ≤ 1000000) (ho : ∀ s ∈ xs, Bd.ok s) : ∀ (n k i : Nat) (b a : List S32) (x : S32), i + n = xs.length → n < k → Bd.ok x → b.length + a.length ≤ i → isobathref01_put.l0 k xs b a (i : Int) x.f0 x.f1 = some (Bs.flat3 ((xs.drop i).foldl Bs.put1 (b, x, a))) := by
 intro n
 induction n with
 | zero =>
  intro k i b a x hi hk hx hlen
  obtain ⟨k, rfl⟩ : ∃ m, k = m + 1 := ⟨k - 1, by omega⟩
  simp only [isobathref01_put.l0]
  rw [if_neg (by omega), if_pos (by omega), Option.bind_some, if_pos (by simp only [List.length_append, List.length_cons, List.length_nil]; omega), List.drop_of_length_le (by omega), List.foldl_nil]
  unfold Bs.flat3
  rw [List.append_assoc]
  rfl
 | succ n ih =>
  intro k i b a x hi hk hx hlen
  obtain ⟨k, rfl⟩ : ∃ m, k = m + 1 := ⟨k - 1, by omega⟩
  have hlt : i < xs.length := by omega
  obtain ⟨s1, s2, s3⟩ := ho xs[i] (List.getElem_mem hlt)
  obtain ⟨x1, x2, x3⟩ := id hx
  simp only [isobathref01_put.l0]
  rw [if_pos (by omega), if_pos (by omega), Bs.rd_nat hlt, wrap_succ hlt (by omega), drop_cons hlt, List.foldl_cons, wrap_id (n := xs[i].f1 + 1) (by omega) (by omega), wrap_id (n := x.f1 + 1) (by omega) (by omega)]
  generalize hs : xs[i] = s at s1 s2 s3 ⊢
  unfold Bs.put1
  dsimp only
  by_cases q1 : s.f1 + 1 < x.f0
  ·rw [if_pos q1, if_pos q1, if_pos (by omega)]
   exact ih k (i + 1) (b ++ [s]) a x (by omega) (by omega) hx (by simp only [List.length_append, List.length_cons, List.length_nil]; omega)
  rw [if_neg q1, if_neg q1]
  by_cases q2 : s.f0 > x.f1 + 1
  ·rw [if_pos q2, if_pos q2, if_pos (by omega)]
   exact ih k (i + 1) b (a ++ [s]) x (by omega) (by omega) hx (by simp only [List.length_append, List.length_cons, List.length_nil]; omega)
  rw [if_neg q2, if_neg q2, Bo.mnE, Bo.mxE]
  exact ih k (i + 1) b a ⟨min x.f0 s.f0, max x.f1 s.f1⟩ (by omega) (by omega) ⟨by show min x.f0 s.f0 ≤ max x.f1 s.f1; omega, by show -1073741824 ≤ min x.f0 s.f0; omega, by show max x.f1 s.f1 ≤ 1073741824; omega⟩ (by omega)
theorem Bs.put_r {xs : List S32} {x : S32} (hl : xs.length ≤ 1000000) (ho : ∀ s ∈ xs, Bd.ok s) (hx : Bd.ok x) {k : Nat} (hk : xs.length < k) : isobathref01_put.f k xs x.f0 x.f1 = some (Bs.put xs x) := by
 unfold isobathref01_put.f Bs.put
 have := Bs.put_l0 hl ho xs.length k 0 [] [] x (by omega) hk hx (by simp)
 rw [List.drop_zero] at this
 exact this
theorem Bs.puts_spec : ∀ (t l : List S32), Bd.Normal l → (∀ s ∈ t, Bd.ok s) → Bd.Normal (t.foldl Bs.put l) ∧ (∀ n, Bd.mem (t.foldl Bs.put l) n ↔ Bd.mem l n ∨ Bd.mem t n) ∧ (t.foldl Bs.put l).length ≤ l.length + t.length
 | [], l, h, _ => ⟨h, fun n => ⟨.inl, fun h => h.elim id fun h => absurd h (Bd.mem_nil n)⟩, Nat.le_refl _⟩
 | s :: t, l, h, ho => by
  obtain ⟨h1, h2, h3⟩ := Bs.put_spec h (ho s List.mem_cons_self)
  obtain ⟨g1, g2, g3⟩ := Bs.puts_spec t (Bs.put l s) h1 fun u hu => ho u (List.mem_cons_of_mem _ hu)
  refine ⟨g1, fun n => ?_, ?_⟩
  ·rw [List.foldl_cons, g2, h2, Bd.mem_cons]
   exact ⟨fun h => h.elim (fun h => h.elim .inl fun h => .inr (.inl h)) fun h => .inr (.inr h), fun h => h.elim (fun h => .inl (.inl h)) fun h => h.elim (fun h => .inl (.inr h)) .inr⟩
  rw [List.foldl_cons, List.length_cons]
  omega
theorem Bs.normal_nil : Bd.Normal ([] : List S32) := ⟨List.Pairwise.nil, fun _ h => (by cases h)⟩
theorem Bs.puts_nil {t : List S32} (h : ∀ s ∈ t, Bd.ok s) : t.foldl Bs.put [] = Bd.cover t := by
 have h1 := Bs.puts_spec t [] Bs.normal_nil h
 have h2 := Bd.cover_spec h
 refine Bd.Normal.unique h1.1 h2.1 fun n => ?_
 rw [h1.2.1, h2.2]
 exact ⟨fun h => h.elim (fun h => absurd h (Bd.mem_nil n)) id, .inr⟩
def Bs.cov (l : List S32) : List S32 × Int := if (l.length : Int) > 256 then ([], 6) else if l.all Bnd.okB = true then (Bd.cover l, 0) else ([], 2)
theorem Bs.cov_b (l : List S32) {k : Nat} (hk : 300 ≤ k) : bound_Cover.f k l = some (Bs.cov l) := by
 unfold bound_Cover.f Bs.cov
 by_cases h : (l.length : Int) > 256
 ·rw [if_pos h, if_pos h]
 rw [if_neg h, if_neg h, Bnd.check_f (by omega) (by omega), Option.bind_some]
 by_cases q : l.all Bnd.okB = true
 ·rw [if_pos q, if_pos rfl, if_pos q]
 rw [if_neg q, if_neg (by decide), if_neg q]
theorem Bs.cov_l1 {xs : List S32} (hl : xs.length ≤ 256) (ho : ∀ s ∈ xs, Bd.ok s) : ∀ (n k i : Nat) (out : List S32), i + n = xs.length → n + 600 ≤ k → Bd.Normal out → out.length ≤ i → isobathref01_Cover.l1 k xs out (i : Int) = some ((xs.drop i).foldl Bs.put out, 0) := by
 intro n
 induction n with
 | zero =>
  intro k i out hi hk h1 h2
  obtain ⟨k, rfl⟩ : ∃ m, k = m + 1 := ⟨k - 1, by omega⟩
  simp only [isobathref01_Cover.l1]
  rw [if_neg (by omega), List.drop_of_length_le (by omega)]
  rfl
 | succ n ih =>
  intro k i out hi hk h1 h2
  obtain ⟨k, rfl⟩ : ∃ m, k = m + 1 := ⟨k - 1, by omega⟩
  have hlt : i < xs.length := by omega
  have hs := ho xs[i] (List.getElem_mem hlt)
  obtain ⟨g1, g2, g3⟩ := Bs.put_spec h1 hs
  simp only [isobathref01_Cover.l1]
  rw [if_pos (by omega), if_pos (by omega), Bs.rd_nat hlt, wrap_succ hlt (by omega), Bs.put_r (by omega) h1.2 hs (by omega), Option.bind_some, ih k (i + 1) _ (by omega) (by omega) g1 (by omega), drop_cons hlt, List.foldl_cons]
theorem Bs.cov_l0 {xs : List S32} (hl : xs.length ≤ 256) : ∀ (n k i : Nat), i + n = xs.length → n + 1000 ≤ k → (∀ s ∈ xs.take i, Bd.ok s) → isobathref01_Cover.l0 k xs (i : Int) = some (if (xs.drop i).all Bnd.okB = true then (xs.foldl Bs.put [], 0) else ([], 2)) := by
 intro n
 induction n with
 | zero =>
  intro k i hi hk h
  obtain ⟨k, rfl⟩ : ∃ m, k = m + 1 := ⟨k - 1, by omega⟩
  rw [List.take_of_length_le (by omega)] at h
  simp only [isobathref01_Cover.l0]
  rw [if_neg (by omega), List.drop_of_length_le (by omega)]
  have := Bs.cov_l1 hl h xs.length k 0 [] (by omega) (by omega) Bs.normal_nil (by simp)
  rw [List.drop_zero] at this
  exact this
 | succ n ih =>
  intro k i hi hk h
  obtain ⟨k, rfl⟩ : ∃ m, k = m + 1 := ⟨k - 1, by omega⟩
  have hlt : i < xs.length := by omega
  simp only [isobathref01_Cover.l0]
  rw [if_pos (by omega), if_pos (by omega), Bs.rd_nat hlt, wrap_succ hlt (by omega), Bo.valid, Option.bind_some, drop_cons hlt, List.all_cons]
  by_cases hv : Bo.v xs[i].f0 xs[i].f1
  ·have hok : Bnd.okB xs[i] = true := Bs.ok_iff.2 hv
   rw [if_pos (zdt hv), hok, Bool.true_and]
   refine ih k (i + 1) (by omega) (by omega) fun s hs => ?_
   rw [take_snoc hlt] at hs
   rcases List.mem_append.1 hs with hs | hs
   ·exact h s hs
   rw [List.mem_singleton.1 hs]
   exact hv
  have hok : Bnd.okB xs[i] = false := Bool.eq_false_iff.2 fun h => hv (Bs.ok_iff.1 h)
  rw [if_neg (by simpa using hv), hok, Bool.false_and, if_neg (by decide)]
theorem Bs.all_ok {l : List S32} : l.all Bnd.okB = true ↔ ∀ s ∈ l, Bd.ok s := by
 rw [List.all_eq_true]
 exact ⟨fun h s hs => Bs.ok_iff.1 (h s hs), fun h s hs => Bs.ok_iff.2 (h s hs)⟩
theorem Bs.cov_r (l : List S32) {k : Nat} (hk : 2000 ≤ k) : isobathref01_Cover.f k l = some (Bs.cov l) := by
 unfold isobathref01_Cover.f Bs.cov
 by_cases h : (l.length : Int) > 256
 ·rw [if_pos h, if_pos h]
 rw [if_neg h, if_neg h]
 have := Bs.cov_l0 (xs := l) (by omega) l.length k 0 (by omega) (by omega) (by simp)
 rw [List.drop_zero] at this
 rw [show (0 : Int) = ((0 : Nat) : Int) from rfl, this]
 by_cases q : l.all Bnd.okB = true
 ·rw [if_pos q, if_pos q, Bs.puts_nil (Bs.all_ok.1 q)]
  rfl
 rw [if_neg q, if_neg q]
def Bs.fewOf (l : List S32) : List S32 × Int := if (l.length : Int) > 256 then ([], 6) else (l, 0)
theorem Bs.few_b (l : List S32) : bound_few.f l = some (Bs.fewOf l) := by
 unfold bound_few.f Bs.fewOf
 split <;> rfl
theorem Bs.few_r (l : List S32) : isobathref01_many.f l = some (Bs.fewOf l) := by
 unfold isobathref01_many.f Bs.fewOf
 split <;> rfl
def Bs.err (s t : List S32) : Int := if Bs.cs s = 0 then Bs.cs t else Bs.cs s
theorem Bs.err_zero {s t : List S32} : Bs.err s t = 0 ↔ Bs.cs s = 0 ∧ Bs.cs t = 0 := by
 unfold Bs.err
 by_cases h : Bs.cs s = 0
 ·rw [if_pos h]
  exact ⟨fun h2 => ⟨h, h2⟩, fun h => h.2⟩
 rw [if_neg h]
 exact ⟨fun h2 => absurd h2 h, fun h2 => absurd h2.1 h⟩
def Bs.uni (s t : List S32) : List S32 × Int := if Bs.err s t = 0 then Bs.fewOf (Bd.cover (s ++ t)) else ([], Bs.err s t)
theorem Bs.merge_perm : ∀ xs ys : List S32, (Bd.merge xs ys).Perm (xs ++ ys)
 | [], ys => by rw [Bd.merge]; exact List.Perm.refl _
 | x :: xs, [] => by rw [Bd.merge, List.append_nil]
 | x :: xs, y :: ys => by
  rw [Bd.merge]
  by_cases h : x.f0 < y.f0
  ·rw [if_pos h]
   exact (Bs.merge_perm xs (y :: ys)).cons x
  rw [if_neg h]
  exact ((Bs.merge_perm (x :: xs) ys).cons y).trans List.perm_middle.symm
 termination_by xs ys => xs.length + ys.length
theorem Bs.merge_sorted : ∀ xs ys : List S32, (xs.Pairwise fun a b => ¬ b.f0 < a.f0) → (ys.Pairwise fun a b => ¬ b.f0 < a.f0) → (Bd.merge xs ys).Pairwise fun a b => ¬ b.f0 < a.f0
 | [], ys, _, h => by rw [Bd.merge]; exact h
 | x :: xs, [], h, _ => by rw [Bd.merge]; exact h
 | x :: xs, y :: ys, hx, hy => by
  obtain ⟨x1, x2⟩ := List.pairwise_cons.1 hx
  obtain ⟨y1, y2⟩ := List.pairwise_cons.1 hy
  rw [Bd.merge]
  by_cases h : x.f0 < y.f0
  ·rw [if_pos h]
   refine List.pairwise_cons.2 ⟨fun z hz => ?_, Bs.merge_sorted xs (y :: ys) x2 hy⟩
   rcases List.mem_append.1 ((Bs.merge_perm xs (y :: ys)).mem_iff.1 hz) with hz | hz
   ·exact x1 z hz
   rcases List.mem_cons.1 hz with rfl | hz
   ·omega
   have := y1 z hz
   omega
  rw [if_neg h]
  refine List.pairwise_cons.2 ⟨fun z hz => ?_, Bs.merge_sorted (x :: xs) ys hx y2⟩
  rcases List.mem_append.1 ((Bs.merge_perm (x :: xs) ys).mem_iff.1 hz) with hz | hz
  ·rcases List.mem_cons.1 hz with rfl | hz
   ·omega
   have := x1 z hz
   omega
  exact y1 z hz
 termination_by xs ys => xs.length + ys.length
theorem Bs.normal_sorted {l : List S32} (h : Bd.Normal l) : l.Pairwise fun a b => ¬ b.f0 < a.f0 := by
 have h2 := h.2
 refine List.Pairwise.imp_of_mem (fun {a b} ha hb hab => ?_) h.1
 have := (h2 a ha).1
 omega
theorem Bs.append_ok {s t : List S32} (hs : Bd.Normal s) (ht : Bd.Normal t) : ∀ u ∈ s ++ t, Bd.ok u := fun u hu => (List.mem_append.1 hu).elim (hs.2 u) (ht.2 u)
theorem Bs.uni_b (s t : List S32) {k : Nat} (hk : 300 ≤ k) : bound_Unite.f k s t = some (Bs.uni s t) := by
 unfold bound_Unite.f Bs.uni
 rw [Bs.both_b s t hk, Option.bind_some]
 by_cases h : Bs.err s t = 0
 ·obtain ⟨h1, h2⟩ := Bs.err_zero.1 h
  obtain ⟨s1, s2⟩ := Bs.cs_zero.1 h1
  obtain ⟨t1, t2⟩ := Bs.cs_zero.1 h2
  rw [if_pos h, if_pos (show (if Bs.cs s = 0 then Bs.cs t else Bs.cs s) = 0 from h), if_pos (by omega), Bs.few_b, Bd.join_perm (Bs.merge_perm s t) (Bs.merge_sorted s t (Bs.normal_sorted s2) (Bs.normal_sorted t2)) (Bs.append_ok s2 t2)]
 rw [if_neg h, if_neg (show ¬ (if Bs.cs s = 0 then Bs.cs t else Bs.cs s) = 0 from h)]
 rfl
theorem Bs.uni_l0 {xs : List S32} (hl : xs.length ≤ 256) (ho : ∀ s ∈ xs, Bd.ok s) : ∀ (n k i : Nat) (out : List S32), i + n = xs.length → n + 1000 ≤ k → Bd.Normal out → out.length ≤ 256 + i → isobathref01_Unite.l0 k xs out (i : Int) = some (Bs.fewOf ((xs.drop i).foldl Bs.put out)) := by
 intro n
 induction n with
 | zero =>
  intro k i out hi hk h1 h2
  obtain ⟨k, rfl⟩ : ∃ m, k = m + 1 := ⟨k - 1, by omega⟩
  simp only [isobathref01_Unite.l0]
  rw [if_neg (by omega), List.drop_of_length_le (by omega), Bs.few_r]
  rfl
 | succ n ih =>
  intro k i out hi hk h1 h2
  obtain ⟨k, rfl⟩ : ∃ m, k = m + 1 := ⟨k - 1, by omega⟩
  have hlt : i < xs.length := by omega
  have hs := ho xs[i] (List.getElem_mem hlt)
  obtain ⟨g1, g2, g3⟩ := Bs.put_spec h1 hs
  simp only [isobathref01_Unite.l0]
  rw [if_pos (by omega), if_pos (by omega), Bs.rd_nat hlt, wrap_succ hlt (by omega), Bs.put_r (by omega) h1.2 hs (by omega), Option.bind_some, ih k (i + 1) _ (by omega) (by omega) g1 (by omega), drop_cons hlt, List.foldl_cons]
theorem Bs.uni_r (s t : List S32) {k : Nat} (hk : 2000 ≤ k) : isobathref01_Unite.f k s t = some (Bs.uni s t) := by
 unfold isobathref01_Unite.f Bs.uni
 rw [Bs.both_r s t (by omega), Option.bind_some]
 by_cases h : Bs.err s t = 0
 ·obtain ⟨h1, h2⟩ := Bs.err_zero.1 h
  obtain ⟨s1, s2⟩ := Bs.cs_zero.1 h1
  obtain ⟨t1, t2⟩ := Bs.cs_zero.1 h2
  rw [if_pos h, if_pos (show (if Bs.cs s = 0 then Bs.cs t else Bs.cs s) = 0 from h), Option.bind_some, List.nil_append, if_pos (by simp only [List.length_nil]; omega)]
  have := Bs.uni_l0 t1 t2.2 t.length k 0 s (by omega) (by omega) s2 (by omega)
  rw [List.drop_zero] at this
  rw [show (0 : Int) = ((0 : Nat) : Int) from rfl, this]
  congr 2
  have p1 := Bs.puts_spec t s s2 t2.2
  have p2 := Bd.cover_spec (Bs.append_ok s2 t2)
  refine Bd.Normal.unique p1.1 p2.1 fun n => ?_
  rw [p1.2.1, p2.2, Bd.mem_append]
 rw [if_neg h, if_neg (show ¬ (if Bs.cs s = 0 then Bs.cs t else Bs.cs s) = 0 from h), Option.bind_some]
 rfl
theorem Bs.uni_mem {s t : List S32} (hs : Bd.Normal s) (ht : Bd.Normal t) : Bd.Normal (Bd.cover (s ++ t)) ∧ ∀ n, Bd.mem (Bd.cover (s ++ t)) n ↔ Bd.mem s n ∨ Bd.mem t n := by
 have p2 := Bd.cover_spec (Bs.append_ok hs ht)
 exact ⟨p2.1, fun n => by rw [p2.2, Bd.mem_append]⟩
theorem Bs.same_l0 {xs : List S32} (hl : xs.length ≤ 1000000) : ∀ (n k i : Nat), i + n = xs.length → n < k → isobathlaw01_Same.l0 k xs xs (i : Int) = some true := by
 intro n
 induction n with
 | zero =>
  intro k i hi hk
  obtain ⟨k, rfl⟩ : ∃ m, k = m + 1 := ⟨k - 1, by omega⟩
  simp only [isobathlaw01_Same.l0]
  rw [if_neg (by omega)]
 | succ n ih =>
  intro k i hi hk
  obtain ⟨k, rfl⟩ : ∃ m, k = m + 1 := ⟨k - 1, by omega⟩
  have hlt : i < xs.length := by omega
  simp only [isobathlaw01_Same.l0]
  rw [if_pos (by omega), if_pos (by omega), if_pos (by omega), if_neg (by simp), wrap_succ hlt (by omega)]
  exact ih k (i + 1) (by omega) (by omega)
theorem Bs.same {xs : List S32} (hl : xs.length ≤ 1000000) {k : Nat} (hk : xs.length < k) : isobathlaw01_Same.f k xs xs = some true := by
 unfold isobathlaw01_Same.f
 rw [if_pos rfl]
 exact Bs.same_l0 hl xs.length k 0 (by omega) hk
mutual
def bound_Cut.l0 : Nat → List (S32) → List (S32) → List (S32) → Int → Int → Option ((List (S32)) × Int)
 | 0, _, _, _, _, _ => none
 | k + 1, x0, x1, x7, x8, x9 => if x8 < (x0.length : Int) then (bound_Cut.j1 k x0 x1 x7 x8 x9 (decide (x9 < (x1.length : Int)))) else (bound_Cut.j1 k x0 x1 x7 x8 x9 false)
def bound_Cut.j1 : Nat → List (S32) → List (S32) → List (S32) → Int → Int → Bool → Option ((List (S32)) × Int)
 | 0, _, _, _, _, _, _ => none
 | k + 1, x0, x1, x7, x8, x9, x27 => if x27 = true then (if 0 ≤ x8 then (if x8 < (x0.length : Int) then (if 0 ≤ x9 then (if x9 < (x1.length : Int) then ((bound_meet.f ((rd_T32 x0 x8).f0) ((rd_T32 x0 x8).f1) ((rd_T32 x1 x9).f0) ((rd_T32 x1 x9).f1)).bind fun bt108 => (if bt108.2.2 = true then (if x7.length < 8796093022208 then ((some (x7 ++ [(⟨bt108.1, bt108.2.1⟩ : S32)] : List (S32))).bind fun y112 => (if ((rd_T32 x0 x8).f1) < ((rd_T32 x1 x9).f1) then (bound_Cut.l0 k x0 x1 y112 (wrap64 (x8 + 1)) x9) else (bound_Cut.l0 k x0 x1 y112 x8 (wrap64 (x9 + 1))))) else (none)) else (if ((rd_T32 x0 x8).f1) < ((rd_T32 x1 x9).f1) then (bound_Cut.l0 k x0 x1 x7 (wrap64 (x8 + 1)) x9) else (bound_Cut.l0 k x0 x1 x7 x8 (wrap64 (x9 + 1)))))) else (none)) else (none)) else (none)) else (none)) else ((bound_few.f x7).bind fun bt102 => (some (bt102.1, bt102.2)))
end
def bound_Cut.f (k : Nat) (l0 : List (S32)) (l1 : List (S32)) : Option ((List (S32)) × Int) := (bound_checkSets.f k l0 l1).bind fun t101 => (if t101 = 0 then (bound_Cut.l0 k l0 l1 ([] : List (S32)) 0 0) else (some (([] : List (S32)), t101)))
theorem bound_Cut.mono_l : ∀ k, (∀ y0 y1 y2 y3 y4, LeO (bound_Cut.l0 k y0 y1 y2 y3 y4) (bound_Cut.l0 (k + 1) y0 y1 y2 y3 y4)) ∧ (∀ y0 y1 y2 y3 y4 y5, LeO (bound_Cut.j1 k y0 y1 y2 y3 y4 y5) (bound_Cut.j1 (k + 1) y0 y1 y2 y3 y4 y5))
 | 0 => ⟨fun _ _ _ _ _ r h => by simp [bound_Cut.l0] at h, fun _ _ _ _ _ _ r h => by simp [bound_Cut.j1] at h⟩
 | k + 1 => by
  obtain ⟨ih0, ih1⟩ := bound_Cut.mono_l k
  refine ⟨?_, ?_⟩
  ·intro y0 y1 y2 y3 y4
   unfold bound_Cut.l0
   repeat' first
   | (with_reducible exact ih0 _ _ _ _ _)
   | (with_reducible exact ih1 _ _ _ _ _ _)
   | (with_reducible exact bound_checkSets.mono _ _ _)
   | (with_reducible exact LeO.refl _)
   | (with_reducible exact LeO.none _)
   | (with_reducible refine LeO.ite ?_ ?_)
   | (with_reducible refine LeO.bind ?_ (fun _ => ?_))
   | exact ih0 _ _ _ _ _
   | exact ih1 _ _ _ _ _ _
   | exact bound_checkSets.mono _ _ _
   | exact LeO.none _
   | refine LeO.ite ?_ ?_
   | refine LeO.bind ?_ (fun _ => ?_)
  intro y0 y1 y2 y3 y4 y5
  unfold bound_Cut.j1
  repeat' first
  | (with_reducible exact ih0 _ _ _ _ _)
  | (with_reducible exact ih1 _ _ _ _ _ _)
  | (with_reducible exact bound_checkSets.mono _ _ _)
  | (with_reducible exact LeO.refl _)
  | (with_reducible exact LeO.none _)
  | (with_reducible refine LeO.ite ?_ ?_)
  | (with_reducible refine LeO.bind ?_ (fun _ => ?_))
  | exact ih0 _ _ _ _ _
  | exact ih1 _ _ _ _ _ _
  | exact bound_checkSets.mono _ _ _
  | exact LeO.none _
  | refine LeO.ite ?_ ?_
  | refine LeO.bind ?_ (fun _ => ?_)
theorem bound_Cut.mono : ∀ a0 a1 k, LeO (bound_Cut.f k a0 a1) (bound_Cut.f (k + 1) a0 a1) := by
 intro a0 a1 k
 obtain ⟨ih0, ih1⟩ := bound_Cut.mono_l k
 unfold bound_Cut.f
 repeat' first
   | (with_reducible exact ih0 _ _ _ _ _)
   | (with_reducible exact ih1 _ _ _ _ _ _)
   | (with_reducible exact bound_checkSets.mono _ _ _)
   | (with_reducible exact LeO.refl _)
   | (with_reducible exact LeO.none _)
   | (with_reducible refine LeO.ite ?_ ?_)
   | (with_reducible refine LeO.bind ?_ (fun _ => ?_))
   | exact ih0 _ _ _ _ _
   | exact ih1 _ _ _ _ _ _
   | exact bound_checkSets.mono _ _ _
   | exact LeO.none _
   | refine LeO.ite ?_ ?_
   | refine LeO.bind ?_ (fun _ => ?_)
def bound_Cut.T7 : Bool × List (List Nat × List Nat) := (true, [([], []), ([], []), ([0, 1], [0, 1]), ([2], [2]), ([], []), ([], []), ([4, 5], [4, 5]), ([6], [6]), ([3, 7], [3, 7]), ([8], [8]), ([9], [9]), ([9], [9]), ([], []), ([12, 10, 8, 0, 1, 2, 3, 4, 5, 6, 7, 8, 9, 10, 12], [10, 12]), ([11, 13, 0, 1, 2, 3, 4, 5, 6, 7, 8, 9, 10, 11, 12, 13], [11])])
def bound_Cut.B7 : List Nat := [0, 0, 3, 7, 0, 0, 48, 112, 255, 511, 1023, 1023, 0, 6143, 16383]
theorem bound_Cut.tab7 : rtab .any (opsOf Try.f41 7) = bound_Cut.T7 := by kernel_rfl
theorem bound_Cut.bits7 : waitsOk bound_Cut.T7.2 bound_Cut.B7 = true := by kernel_rfl
def bound_Cut.T10 : Bool × List (List Nat × List Nat) := (true, [([], []), ([], []), ([0, 1], [0, 1]), ([2], [2]), ([3], [3]), ([], []), ([], []), ([5, 6], [5, 6]), ([7], [7]), ([8], [8]), ([4, 9], [4, 9])])
def bound_Cut.B10 : List Nat := [0, 0, 3, 7, 15, 0, 0, 96, 224, 480, 1023]
theorem bound_Cut.tab10 : rtab .any (opsOf Try.f41 10) = bound_Cut.T10 := by kernel_rfl
theorem bound_Cut.bits10 : waitsOk bound_Cut.T10.2 bound_Cut.B10 = true := by kernel_rfl
set_option maxHeartbeats 8000000 in
set_option maxRecDepth 100000 in
theorem bound_Cut.calls (k : Nat) (A0 : Option Addr) (c0 : Nat) (l0 : List (S32)) (A1 : Option Addr) (c1 : Nat) (l1 : List (S32)) (r1 : List (S32)) (r2 : Int) (w : World) (hr0 : Kd.C k32 w A0 l0.length l0) (hc0 : l0.length ≤ c0) (hr1 : Kd.C k32 w A1 l1.length l1) (hc1 : l1.length ≤ c1) (h : bound_Cut.f k l0 l1 = some (r1, r2)) :
  Calls Try.prog 41 #[.slice A0 l0.length c0, .slice A1 l1.length c1] w fun e w' => ∃ v0_ : Value, e = .returned (.tuple #[v0_, .int .i64 r2]) ∧ Kd.R k32 32 w' w.heap.size (fun _ => True) v0_ r1 ∧ Below w.heap.size w w' := by
 have hu32 := Try.underlying32
 have HR0 := zam hr0
 have HC0 := zam hc0
 clear hr0 hc0
 have HR1 := zam hr1
 have HC1 := zam hc1
 clear hr1 hc1
 have HB := zam (Below.refl w.heap.size w)
 have H : ((bound_checkSets.f k l0 l1).bind fun t101 => (if t101 = 0 then (bound_Cut.l0 k l0 l1 ([] : List (S32)) 0 0) else (some (([] : List (S32)), t101)))) = some (r1, r2) := h
 clear h
 replace H := Option.bind_eq_some_iff.mp H
 obtain ⟨t101, A30, H⟩ := H
 replace H : (if t101 = 0 then (bound_Cut.l0 k l0 l1 ([] : List (S32)) 0 0) else (some (([] : List (S32)), t101))) = some (r1, r2) := H
 have A3 := zam A30
 clear A30
 by_cases c4 : t101 = 0
 ·rw [if_pos c4] at H
  have c4b0 : (t101 == 0) = true := beq_iff_eq.mpr c4
  have c4b1 : (t101 != 0) = false := bne_eq_false_iff_eq.mpr c4
  clear c4
  have H' := zam H
  clear H
  go_enter Try.func41, Try.ntmps41
  go_wp2_with (first | ((with_reducible refine zgc (f := 88) rfl ?_); refine goesL_ (some 14) rfl rfl Try.func88 (by kernel_rfl) rfl #[.slice A0 l0.length c0, .slice A1 l1.length c1] rfl (by (try simp only [zmt, List.map_cons, List.map_nil]); first | done | rfl | (simp only [zld, zlt]; rfl)) ?_; (with_reducible refine (bound_checkSets.calls k _ _ l0 _ _ l1 t101 _ ?side1 ?side2 ?side3 ?side4 A3.out).mono ?_); (case side1 => repeat (first | exact HR0.out | (with_reducible refine Kd.C_alloc ?_ _) | (with_reducible refine Kd.C_drewN ?_ _) | (with_reducible refine Kd.C_drew ?_))); (case side2 => exact HC0.out); (case side3 => repeat (first | exact HR1.out | (with_reducible refine Kd.C_alloc ?_ _) | (with_reducible refine Kd.C_drewN ?_ _) | (with_reducible refine Kd.C_drew ?_))); (case side4 => exact HC1.out); rintro e w5 ⟨rfl, hb⟩; refine ⟨_, rfl, ?_⟩; have n0_ := zam (zbt (by repeat (first | (with_reducible first | exact HB.out | apply zba | apply zbn | apply zb1) | exact HB.out)) hb); clear HB; have HB := n0_; clear n0_; (try clear hb); (try clear hb2); (try clear hk); (try clear hi)))
  go_loopg [7, 8, 9] k (fun kq v7 v8 v9 w' => ∃ (x7_1 : List (S32)) (x8_1 : Int) (x9_1 : Int), v8 = .int .i64 x8_1 ∧ v9 = .int .i64 x9_1 ∧ Aside0 (bound_Cut.l0 kq l0 l1 x7_1 x8_1 x9_1 = some (r1, r2)) ∧ Aside0 (kq ≤ k) ∧ Aside0 (Kd.R k32 32 w' w.heap.size (fun _ => True) v7 x7_1) ∧ Aside0 (Below w.heap.size w w'))
  case atStart => exact ⟨(([] : List (S32))), (0), (0), (by first | rfl | (simp; done) | (simp [*]; done)), (by first | rfl | (simp; done) | (simp [*]; done)), H', ⟨Nat.le_refl _⟩, ⟨by first | exact Kd.R_nil _ _ _ _ _ | exact Kd.N_nil _ _ _ _ _ | exact Kd.V_nil _ _ _ _ _ | exact Kd.Q_nil _ _ _ _ _ | exact Kd.S_nil _ _ _ _ _⟩, ⟨by repeat (first | (with_reducible first | exact HB.out | apply zba | apply zbn | apply zb1) | exact HB.out)⟩⟩
  case round =>
   clear H'
   try clear c1
   try clear p2
   try clear c4
   try clear c4b0
   try clear c4b1
   obtain ⟨x7_1, x8_1, x9_1, rfl, rfl, HA, HK1, HO_7, HB⟩ := hrel
   cases gk with
   | zero => exact absurd HA.out (by simp [bound_Cut.l0])
   | succ k1 =>
    have H := HA.out
    clear HA
    simp only [bound_Cut.l0] at H
    have HC6 := zam H
    clear H
    go_upto_region 6 with (fail)
    go_cut [27] (fun v27 wc => ∃ (kq : Nat) (x27_5 : Bool), v27 = .bool x27_5 ∧ Aside0 (bound_Cut.j1 kq l0 l1 x7_1 x8_1 x9_1 x27_5 = some (r1, r2)) ∧ Aside0 (kq ≤ k1) ∧ Aside0 (Kd.R k32 32 wc w.heap.size (fun _ => True) u7 x7_1) ∧ Aside0 (Below w.heap.size w wc))
    case first =>
     have H := HC6.out
     clear HC6
     by_cases c7 : x8_1 < (l0.length : Int)
     ·rw [if_pos c7] at H
      have c7b0 : decide (x8_1 < (l0.length : Int)) = true := zdt c7
      clear c7
      (first | rw [c7b0] | (simp only [i64_w, i32_w]; rw [c7b0]) | skip)
      have H' := zam H
      clear H
      go_wp2
      go_meet
      case rel => exact ⟨_, (decide (x9_1 < (l1.length : Int))), (by first | rfl | (simp; done) | (simp [*]; done)), H', ⟨by have := HK1.out; first | omega | exact Nat.le_refl _⟩, ⟨by (with_reducible repeat (first | apply zRa | apply zRn | apply zRd)); exact HO_7.out⟩, ⟨by repeat (first | (with_reducible first | exact HB.out | apply zba | apply zbn | apply zb1) | exact HB.out)⟩⟩
     rw [if_neg c7] at H
     have c7b0 : decide (x8_1 < (l0.length : Int)) = false := zdf c7
     clear c7
     (first | rw [c7b0] | (simp only [i64_w, i32_w]; rw [c7b0]) | skip)
     have H' := zam H
     clear H
     go_wp2
     go_meet
     case rel => exact ⟨_, (false), (by first | rfl | (simp; done) | (simp [*]; done)), H', ⟨by have := HK1.out; first | omega | exact Nat.le_refl _⟩, ⟨by (with_reducible repeat (first | apply zRa | apply zRn | apply zRd)); exact HO_7.out⟩, ⟨by repeat (first | (with_reducible first | exact HB.out | apply zba | apply zbn | apply zb1) | exact HB.out)⟩⟩
    case rest =>
     clear HC6
     try clear c1
     try clear p2
     try clear c4
     try clear c4b0
     try clear c4b1
     try clear c7
     try clear c7b0
     try clear p2
     obtain ⟨kq, x27_5, rfl, HA, HJ5, HO_7, HB⟩ := hcut
     cases kq with
     | zero => exact absurd HA.out (by simp [bound_Cut.j1])
     | succ kj5 =>
      have H := HA.out
      clear HA
      simp only [bound_Cut.j1] at H
      by_cases c8 : x27_5 = true
      ·subst c8
       have H1 : (if 0 ≤ x8_1 then (if x8_1 < (l0.length : Int) then (if 0 ≤ x9_1 then (if x9_1 < (l1.length : Int) then ((bound_meet.f ((rd_T32 l0 x8_1).f0) ((rd_T32 l0 x8_1).f1) ((rd_T32 l1 x9_1).f0) ((rd_T32 l1 x9_1).f1)).bind fun bt108 => (if bt108.2.2 = true then (if x7_1.length < 8796093022208 then ((some (x7_1 ++ [(⟨bt108.1, bt108.2.1⟩ : S32)] : List (S32))).bind fun y112 => (if ((rd_T32 l0 x8_1).f1) < ((rd_T32 l1 x9_1).f1) then (bound_Cut.l0 kj5 l0 l1 y112 (wrap64 (x8_1 + 1)) x9_1) else (bound_Cut.l0 kj5 l0 l1 y112 x8_1 (wrap64 (x9_1 + 1))))) else (none)) else (if ((rd_T32 l0 x8_1).f1) < ((rd_T32 l1 x9_1).f1) then (bound_Cut.l0 kj5 l0 l1 x7_1 (wrap64 (x8_1 + 1)) x9_1) else (bound_Cut.l0 kj5 l0 l1 x7_1 x8_1 (wrap64 (x9_1 + 1)))))) else (none)) else (none)) else (none)) else (none)) = some (r1, r2) := by rw [if_pos rfl] at H; exact H
       clear H
       have H := H1
       clear H1
       by_cases c9 : 0 ≤ x8_1
       ·rw [if_pos c9] at H
        have c9b0 : decide (0 ≤ x8_1) = true := zdt c9
        clear c9
        by_cases c10 : x8_1 < (l0.length : Int)
        ·rw [if_pos c10] at H
         have c10b0 : decide (x8_1 < (l0.length : Int)) = true := zdt c10
         clear c10
         by_cases c11 : 0 ≤ x9_1
         ·rw [if_pos c11] at H
          have c11b0 : decide (0 ≤ x9_1) = true := zdt c11
          clear c11
          by_cases c12 : x9_1 < (l1.length : Int)
          ·rw [if_pos c12] at H
           have c12b0 : decide (x9_1 < (l1.length : Int)) = true := zdt c12
           clear c12
           replace H := Option.bind_eq_some_iff.mp H
           obtain ⟨⟨t108, t109, t110⟩, A130, H⟩ := H
           replace H : (if t110 = true then (if x7_1.length < 8796093022208 then ((some (x7_1 ++ [(⟨t108, t109⟩ : S32)] : List (S32))).bind fun y112 => (if ((rd_T32 l0 x8_1).f1) < ((rd_T32 l1 x9_1).f1) then (bound_Cut.l0 kj5 l0 l1 y112 (wrap64 (x8_1 + 1)) x9_1) else (bound_Cut.l0 kj5 l0 l1 y112 x8_1 (wrap64 (x9_1 + 1))))) else (none)) else (if ((rd_T32 l0 x8_1).f1) < ((rd_T32 l1 x9_1).f1) then (bound_Cut.l0 kj5 l0 l1 x7_1 (wrap64 (x8_1 + 1)) x9_1) else (bound_Cut.l0 kj5 l0 l1 x7_1 x8_1 (wrap64 (x9_1 + 1))))) = some (r1, r2) := H
           have A13 := zam A130
           clear A130
           by_cases c14 : t110 = true
           ·subst c14
            have H1 : (if x7_1.length < 8796093022208 then ((some (x7_1 ++ [(⟨t108, t109⟩ : S32)] : List (S32))).bind fun y112 => (if ((rd_T32 l0 x8_1).f1) < ((rd_T32 l1 x9_1).f1) then (bound_Cut.l0 kj5 l0 l1 y112 (wrap64 (x8_1 + 1)) x9_1) else (bound_Cut.l0 kj5 l0 l1 y112 x8_1 (wrap64 (x9_1 + 1))))) else (none)) = some (r1, r2) := by rw [if_pos rfl] at H; exact H
            clear H
            have H := H1
            clear H1
            by_cases c15 : x7_1.length < 8796093022208
            ·rw [if_pos c15] at H
             have LMc15 := zam c15
             clear c15
             obtain ⟨y112, hy112⟩ : ∃ y_ : List (S32), y_ = (x7_1 ++ [(⟨t108, t109⟩ : S32)]) := ⟨_, rfl⟩
             replace H : (if ((rd_T32 l0 x8_1).f1) < ((rd_T32 l1 x9_1).f1) then (bound_Cut.l0 kj5 l0 l1 y112 (wrap64 (x8_1 + 1)) x9_1) else (bound_Cut.l0 kj5 l0 l1 y112 x8_1 (wrap64 (x9_1 + 1)))) = some (r1, r2) := by first | (rw [hy112]; with_reducible exact H) | (have H2_ := (Option.bind_some _ _).symm.trans H; rw [hy112]; with_reducible exact H2_) | (have H2_ := (Option.bind_some _ _).symm.trans H; with_reducible exact H2_) | with_reducible exact H | (rw [hy112]; exact H) | exact H
             have Ny112 := zam hy112
             clear hy112
             by_cases c16 : ((rd_T32 l0 x8_1).f1) < ((rd_T32 l1 x9_1).f1)
             ·rw [if_pos c16] at H
              have c16b0 : decide (((rd_T32 l0 x8_1).f1) < ((rd_T32 l1 x9_1).f1)) = true := zdt c16
              clear c16
              have H' := zam H
              clear H
              try go_wp2
              have n0_ := zam (zRd HO_7.out)
              have n1_ := zam (zb1 HB.out)
              clear HO_7
              clear HB
              have HO_7 := n0_
              have HB := n1_
              clear n0_ n1_
              have p106 : 0 ≤ (x8_1 : Int) := zod (by first | (with_reducible assumption) | assumption)
              have q106 : x8_1 < (l0.length : Int) := zod (by first | (with_reducible assumption) | assumption)
              obtain ⟨ad106, e106, hx106_0, hx106_1⟩ := at_T32 HR0.out x8_1 p106 q106
              have hw106_1 := hx106_1
              have hw106_0 := hx106_0
              cases e106
              replace hx106_0 := (HB.out.cell (zwb w _ hx106_0)).trans hx106_0
              replace hx106_1 := (HB.out.cell (zwb w _ hx106_1)).trans hx106_1
              replace p106 := eq_true p106
              replace q106 := eq_true q106
              have p107 : 0 ≤ (x9_1 : Int) := zod (by first | (with_reducible assumption) | assumption)
              have q107 : x9_1 < (l1.length : Int) := zod (by first | (with_reducible assumption) | assumption)
              obtain ⟨ad107, e107, hx107_0, hx107_1⟩ := at_T32 HR1.out x9_1 p107 q107
              have hw107_1 := hx107_1
              have hw107_0 := hx107_0
              cases e107
              replace hx107_0 := (HB.out.cell (zwb w _ hx107_0)).trans hx107_0
              replace hx107_1 := (HB.out.cell (zwb w _ hx107_1)).trans hx107_1
              replace p107 := eq_true p107
              replace q107 := eq_true q107
              refine start_ (n := 15) (S := fun w' => w'.cell? (ad106.add ((x8_1).toNat * 2)) = some (.int .i64 ((rd_T32 l0 x8_1).f0)) ∧ w'.cell? ⟨(ad106.add ((x8_1).toNat * 2)).block, (ad106.add ((x8_1).toNat * 2)).off + 1, none⟩ = some (.int .i64 ((rd_T32 l0 x8_1).f1)) ∧ w'.cell? (ad107.add ((x9_1).toNat * 2)) = some (.int .i64 ((rd_T32 l1 x9_1).f0)) ∧ w'.cell? ⟨(ad107.add ((x9_1).toNat * 2)).block, (ad107.add ((x9_1).toNat * 2)).off + 1, none⟩ = some (.int .i64 ((rd_T32 l1 x9_1).f1))) (ds := []) #[false, false, false, false, false, false, false, false, false, false, false, false, false, false, false] (by kernel_rfl) rfl rfl ⟨((HB.out.cell (zwb w _ hw106_0)).trans hw106_0), ((HB.out.cell (zwb w _ hw106_1)).trans hw106_1), ((HB.out.cell (zwb w _ hw107_0)).trans hw107_0), ((HB.out.cell (zwb w _ hw107_1)).trans hw107_1)⟩ (fun hHeld => ?_); refine with_tabW bound_Cut.tab7 bound_Cut.bits7 (fun HT_ HW_ => ?_)
              generalize wc.drew = w17 at HO_7 HB hx106_0 hx106_1 hx107_0 hx107_1 hHeld ⊢
              refine pure_ (i := 0) (N := some 29) (v := ?_) (a' := ?_) #[true, false, false, false, false, false, false, false, false, false, false, false, false, false, false] rfl rfl (any_of HT_.out (by kernel_rfl)) (fun _ _ _ h => h) (Or.inl ⟨by rfl, ?_⟩) ?_ ?_
              rotate_left
              ·intro w'
               go_simp
               with_reducible rfl
              rotate_left
              ·simp only [Act.put, zsa, zsz, zss, i64_w, i32_w]
               rfl
              refine pure_ (i := 1) (N := some 30) (v := ?_) (a' := ?_) #[true, true, false, false, false, false, false, false, false, false, false, false, false, false, false] rfl rfl (any_of HT_.out (by kernel_rfl)) (fun _ _ _ h => h) (Or.inl ⟨by rfl, ?_⟩) ?_ ?_
              rotate_left
              ·intro w'
               go_simp
               with_reducible rfl
              rotate_left
              ·simp only [Act.put, zsa, zsz, zss, i64_w, i32_w]
               rfl
              refine pure_ (i := 2) (N := some 31) (v := ?_) (a' := ?_) #[true, true, true, false, false, false, false, false, false, false, false, false, false, false, false] rfl rfl (any_of HT_.out (by kernel_rfl)) (fun _ _ _ h => h) (Or.inl ⟨by rfl, ?_⟩) ?_ ?_
              rotate_left
              ·intro w'
               go_simp
               with_reducible rfl
              rotate_left
              ·simp only [Act.put, zsa, zsz, zss, i64_w, i32_w]
               rfl
              refine pure_ (i := 4) (N := some 33) (v := ?_) (a' := ?_) #[true, true, true, false, true, false, false, false, false, false, false, false, false, false, false] rfl rfl (any_of HT_.out (by kernel_rfl)) (fun _ _ _ h => h) (Or.inl ⟨by rfl, ?_⟩) ?_ ?_
              rotate_left
              ·intro w'
               go_simp
               with_reducible rfl
              rotate_left
              ·simp only [Act.put, zsa, zsz, zss, i64_w, i32_w]
               rfl
              refine pure_ (i := 5) (N := some 34) (v := ?_) (a' := ?_) #[true, true, true, false, true, true, false, false, false, false, false, false, false, false, false] rfl rfl (any_of HT_.out (by kernel_rfl)) (fun _ _ _ h => h) (Or.inl ⟨by rfl, ?_⟩) ?_ ?_
              rotate_left
              ·intro w'
               go_simp
               with_reducible rfl
              rotate_left
              ·simp only [Act.put, zsa, zsz, zss, i64_w, i32_w]
               rfl
              refine pure_ (i := 6) (N := some 35) (v := ?_) (a' := ?_) #[true, true, true, false, true, true, true, false, false, false, false, false, false, false, false] rfl rfl (any_of HT_.out (by kernel_rfl)) (fun _ _ _ h => h) (Or.inl ⟨by rfl, ?_⟩) ?_ ?_
              rotate_left
              ·intro w'
               go_simp
               with_reducible rfl
              rotate_left
              ·simp only [Act.put, zsa, zsz, zss, i64_w, i32_w]
               rfl
              refine take_ (i := 3) (N := some 32) (v := ?_) (a' := ?_) #[true, true, true, true, true, true, true, false, false, false, false, false, false, false, false] rfl rfl (take_ofW HT_.out HW_.out (by kernel_rfl)) (fun _ _ _ h => h) (Or.inl ⟨by rfl, ?_⟩) hHeld ?_ ?_
              rotate_left
              ·rintro w' ⟨s0, s1, s2, s3⟩
               go_simp
               with_reducible rfl
              rotate_left
              ·simp only [Act.put, zsa, zsz, zss, i64_w, i32_w]
               rfl
              refine take_ (i := 7) (N := some 36) (v := ?_) (a' := ?_) #[true, true, true, true, true, true, true, true, false, false, false, false, false, false, false] rfl rfl (take_ofW HT_.out HW_.out (by kernel_rfl)) (fun _ _ _ h => h) (Or.inl ⟨by rfl, ?_⟩) hHeld ?_ ?_
              rotate_left
              ·rintro w' ⟨s0, s1, s2, s3⟩
               go_simp
               with_reducible rfl
              rotate_left
              ·simp only [Act.put, zsa, zsz, zss, i64_w, i32_w]
               rfl
              refine join_ (σ := Nat) 2 #[true, true, true, true, true, true, true, true, true, true, true, true, true, false, false] (fun s_ => [(37, .tuple #[.agg #[.int .i64 t108, .int .i64 t109], .bool true]), (10, .pointer (some ⟨s_, 0, none⟩)), (28, .tuple #[.agg #[.int .i64 t108, .int .i64 t109], .bool true]), (38, .agg #[.int .i64 t108, .int .i64 t109]), (39, .bool true)]) (fun s_ w' => (w'.cell? (ad106.add ((x8_1).toNat * 2)) = some (.int .i64 ((rd_T32 l0 x8_1).f0)) ∧ w'.cell? ⟨(ad106.add ((x8_1).toNat * 2)).block, (ad106.add ((x8_1).toNat * 2)).off + 1, none⟩ = some (.int .i64 ((rd_T32 l0 x8_1).f1)) ∧ w'.cell? (ad107.add ((x9_1).toNat * 2)) = some (.int .i64 ((rd_T32 l1 x9_1).f0)) ∧ w'.cell? ⟨(ad107.add ((x9_1).toNat * 2)).block, (ad107.add ((x9_1).toNat * 2)).off + 1, none⟩ = some (.int .i64 ((rd_T32 l1 x9_1).f1))) ∧ (Kd.R k32 32 w' w.heap.size (fun k_ => k_ ≠ s_) u7 x7_1) ∧ (w'.heap[s_]? = some (.cells #[.int .i64 0, .int .i64 0] 32 (0, 0))) ∧ (w.heap.size ≤ s_) ∧ (w.heap.size ≤ s_) ∧ (Below w.heap.size w w')) ?_ ?_
              rotate_left
              ·intro hCont
               refine two_ (i := 8) (j := 12) (Ni := some 37) (Nj := some 10) #[true, true, true, true, true, true, true, true, true, false, false, false, false, false, false] #[true, true, true, true, true, true, true, true, false, false, false, false, true, false, false] rfl rfl rfl rfl (two_of HT_.out (by kernel_rfl)) (by decide) (by decide) (fun K hK => ?_) (fun K hK => ?_)
               ·skip
                refine goes_ Try.func81 (by kernel_rfl) rfl #[.agg #[.int .i64 ((rd_T32 l0 x8_1).f0), .int .i64 ((rd_T32 l0 x8_1).f1)], .agg #[.int .i64 ((rd_T32 l1 x9_1).f0), .int .i64 ((rd_T32 l1 x9_1).f1)]] (by rfl) rfl rfl (by (try simp only [zmt, List.map_cons, List.map_nil]); first | done | rfl | (simp only [zld, zlt]; rfl)) ?_
                with_reducible refine (bound_meet.calls ((rd_T32 l0 x8_1).f0) ((rd_T32 l0 x8_1).f1) ((rd_T32 l1 x9_1).f0) ((rd_T32 l1 x9_1).f1) t108 t109 true _ A13.out).mono ?_
                rintro e w18 ⟨rfl, hb⟩
                refine ⟨_, rfl, ?_⟩
                have n0_ := zam (Kd.R_below (by (with_reducible repeat (first | apply zRa | apply zRn | apply zRd)); exact HO_7.out) hb)
                have n1_ := zam (zbt (by repeat (first | (with_reducible first | exact HB.out | apply zba | apply zbn | apply zb1) | exact HB.out)) hb)
                clear HO_7
                clear HB
                have HO_7 := n0_
                have HB := n1_
                clear n0_ n1_
                (try clear hb)
                (try clear hb2)
                (try clear hk)
                (try clear hi)
                refine hK.out _ _ ⟨((HB.out.cell (zwb w _ hw106_0)).trans hw106_0), ((HB.out.cell (zwb w _ hw106_1)).trans hw106_1), ((HB.out.cell (zwb w _ hw107_0)).trans hw107_0), ((HB.out.cell (zwb w _ hw107_1)).trans hw107_1)⟩ (fun hHeld => ?_)
                clear hK K
                refine norm_ (a' := ?_) ?_ ?_
                rotate_left
                ·show Act.put _ (some 37) _ = _
                 simp only [Act.put, zsa, zsz, zss, i64_w, i32_w]
                 rfl
                refine pure_ (i := 9) (N := some 28) (v := ?_) (a' := ?_) #[true, true, true, true, true, true, true, true, true, true, false, false, false, false, false] rfl rfl (any_of HT_.out (by kernel_rfl)) (fun _ _ _ h => h) (Or.inl ⟨by rfl, ?_⟩) ?_ ?_
                rotate_left
                ·intro w'
                 go_simp
                 with_reducible rfl
                rotate_left
                ·simp only [Act.put, zsa, zsz, zss, i64_w, i32_w]
                 rfl
                refine pure_ (i := 10) (N := some 38) (v := ?_) (a' := ?_) #[true, true, true, true, true, true, true, true, true, true, true, false, false, false, false] rfl rfl (any_of HT_.out (by kernel_rfl)) (fun _ _ _ h => h) (Or.inl ⟨by rfl, ?_⟩) ?_ ?_
                rotate_left
                ·intro w'
                 go_simp
                 with_reducible rfl
                rotate_left
                ·simp only [Act.put, zsa, zsz, zss, i64_w, i32_w]
                 rfl
                refine pure_ (i := 11) (N := some 39) (v := ?_) (a' := ?_) #[true, true, true, true, true, true, true, true, true, true, true, true, false, false, false] rfl rfl (any_of HT_.out (by kernel_rfl)) (fun _ _ _ h => h) (Or.inl ⟨by rfl, ?_⟩) ?_ ?_
                rotate_left
                ·intro w'
                 go_simp
                 with_reducible rfl
                rotate_left
                ·simp only [Act.put, zsa, zsz, zss, i64_w, i32_w]
                 rfl
                refine one_ (i := 12) (N := some 10) #[true, true, true, true, true, true, true, true, true, true, true, true, true, false, false] rfl rfl (one_of HT_.out (by kernel_rfl)) (by decide) (fun K hK => ?_)
                refine box_step ?hg (N := 10) ?hd (cs := #[.int .i64 0, .int .i64 0]) (t := 32) ?hr ?_; (case hd => rfl); (case hg => rfl); (case hr => first | (go_simp; done) | (go_simp; rfl))
                intro gb111 hg w19 hbox hb
                have n0_ := zam (Kd.R_below (Kd.R_elderB (by (with_reducible repeat (first | apply zRa | apply zRn | apply zRd)); exact HO_7.out) gb111 (Nat.le_of_eq hg.symm)) hb)
                have n1_ := zam (zbt (by repeat (first | (with_reducible first | exact HB.out | apply zba | apply zbn | apply zb1) | exact HB.out)) hb)
                have n2_ := zam (hbox)
                have n3_ := zam ((by rw [hg]; exact (zbz (by repeat (first | (with_reducible first | exact HB.out | apply zba | apply zbn | apply zb1) | exact HB.out))) : w.heap.size ≤ gb111))
                have n4_ := zam ((by rw [hg]; exact (zbz (by repeat (first | (with_reducible first | exact HB.out | apply zba | apply zbn | apply zb1) | exact HB.out))) : w.heap.size ≤ gb111))
                clear HO_7
                clear HB
                have HO_7 := n0_
                have HB := n1_
                have BK111 := n2_
                have GW111 := n3_
                have GE111 := n4_
                clear n0_ n1_ n2_ n3_ n4_
                clear hb hbox hg
                refine hK.out _ _ ⟨((HB.out.cell (zwb w _ hw106_0)).trans hw106_0), ((HB.out.cell (zwb w _ hw106_1)).trans hw106_1), ((HB.out.cell (zwb w _ hw107_0)).trans hw107_0), ((HB.out.cell (zwb w _ hw107_1)).trans hw107_1)⟩ (fun hHeld => ?_)
                clear hK K
                refine norm_ (a' := ?_) ?_ ?_
                rotate_left
                ·show Act.put _ (some 10) _ = _
                 simp only [Act.put, zsa, zsz, zss, i64_w, i32_w]
                 rfl
                exact norm_ (by simp only [putAll, Act.put, zsa, zsz, zss]) (hCont (gb111) _ ⟨hHeld, (by (with_reducible repeat (first | apply zRa | apply zRn | apply zRd)); exact Kd.R_mono HO_7.out (fun _ hk => hk.2)), (by (with_reducible repeat (first | refine zkn ?_ _ | refine zkd ?_ | refine zka ?_ _)); exact BK111.out), GW111.out, GE111.out, (by repeat (first | (with_reducible first | exact HB.out | apply zba | apply zbn | apply zb1 | refine zbs ?_ GE111.out) | exact HB.out))⟩)
               skip
               refine box_step ?hg (N := 10) ?hd (cs := #[.int .i64 0, .int .i64 0]) (t := 32) ?hr ?_; (case hd => rfl); (case hg => rfl); (case hr => first | (go_simp; done) | (go_simp; rfl))
               intro gb111 hg w18 hbox hb
               have n0_ := zam (Kd.R_below (Kd.R_elderB (by (with_reducible repeat (first | apply zRa | apply zRn | apply zRd)); exact HO_7.out) gb111 (Nat.le_of_eq hg.symm)) hb)
               have n1_ := zam (zbt (by repeat (first | (with_reducible first | exact HB.out | apply zba | apply zbn | apply zb1) | exact HB.out)) hb)
               have n2_ := zam (hbox)
               have n3_ := zam ((by rw [hg]; exact (zbz (by repeat (first | (with_reducible first | exact HB.out | apply zba | apply zbn | apply zb1) | exact HB.out))) : w.heap.size ≤ gb111))
               have n4_ := zam ((by rw [hg]; exact (zbz (by repeat (first | (with_reducible first | exact HB.out | apply zba | apply zbn | apply zb1) | exact HB.out))) : w.heap.size ≤ gb111))
               clear HO_7
               clear HB
               have HO_7 := n0_
               have HB := n1_
               have BK111 := n2_
               have GW111 := n3_
               have GE111 := n4_
               clear n0_ n1_ n2_ n3_ n4_
               clear hb hbox hg
               refine hK.out _ _ ⟨((HB.out.cell (zwb w _ hw106_0)).trans hw106_0), ((HB.out.cell (zwb w _ hw106_1)).trans hw106_1), ((HB.out.cell (zwb w _ hw107_0)).trans hw107_0), ((HB.out.cell (zwb w _ hw107_1)).trans hw107_1)⟩ (fun hHeld => ?_)
               clear hK K
               refine norm_ (a' := ?_) ?_ ?_
               rotate_left
               ·show Act.put _ (some 10) _ = _
                simp only [Act.put, zsa, zsz, zss, i64_w, i32_w]
                rfl
               refine one_ (i := 8) (N := some 37) #[true, true, true, true, true, true, true, true, true, false, false, false, true, false, false] rfl rfl (one_of HT_.out (by kernel_rfl)) (by decide) (fun K hK => ?_)
               refine goes_ Try.func81 (by kernel_rfl) rfl #[.agg #[.int .i64 ((rd_T32 l0 x8_1).f0), .int .i64 ((rd_T32 l0 x8_1).f1)], .agg #[.int .i64 ((rd_T32 l1 x9_1).f0), .int .i64 ((rd_T32 l1 x9_1).f1)]] (by rfl) rfl rfl (by (try simp only [zmt, List.map_cons, List.map_nil]); first | done | rfl | (simp only [zld, zlt]; rfl)) ?_
               with_reducible refine (bound_meet.calls ((rd_T32 l0 x8_1).f0) ((rd_T32 l0 x8_1).f1) ((rd_T32 l1 x9_1).f0) ((rd_T32 l1 x9_1).f1) t108 t109 true _ A13.out).mono ?_
               rintro e w19 ⟨rfl, hb⟩
               refine ⟨_, rfl, ?_⟩
               have n0_ := zam (Kd.R_below (by (with_reducible repeat (first | apply zRa | apply zRn | apply zRd)); exact HO_7.out) hb)
               have n1_ := zam (zkb (g := gb111) (o := .cells #[.int .i64 0, .int .i64 0] 32 (0, 0)) (by (with_reducible repeat (first | refine zkn ?_ _ | refine zkd ?_ | refine zka ?_ _)); exact BK111.out) hb)
               have n2_ := zam (zbt (by repeat (first | (with_reducible first | exact HB.out | apply zba | apply zbn | apply zb1 | refine zbs ?_ GE111.out) | exact HB.out)) hb)
               clear HO_7
               clear BK111
               clear HB
               have HO_7 := n0_
               have BK111 := n1_
               have HB := n2_
               clear n0_ n1_ n2_
               (try clear hb)
               (try clear hb2)
               (try clear hk)
               (try clear hi)
               refine hK.out _ _ ⟨((HB.out.cell (zwb w _ hw106_0)).trans hw106_0), ((HB.out.cell (zwb w _ hw106_1)).trans hw106_1), ((HB.out.cell (zwb w _ hw107_0)).trans hw107_0), ((HB.out.cell (zwb w _ hw107_1)).trans hw107_1)⟩ (fun hHeld => ?_)
               clear hK K
               refine norm_ (a' := ?_) ?_ ?_
               rotate_left
               ·show Act.put _ (some 37) _ = _
                simp only [Act.put, zsa, zsz, zss, i64_w, i32_w]
                rfl
               refine pure_ (i := 9) (N := some 28) (v := ?_) (a' := ?_) #[true, true, true, true, true, true, true, true, true, true, false, false, true, false, false] rfl rfl (any_of HT_.out (by kernel_rfl)) (fun _ _ _ h => h) (Or.inl ⟨by rfl, ?_⟩) ?_ ?_
               rotate_left
               ·intro w'
                go_simp
                with_reducible rfl
               rotate_left
               ·simp only [Act.put, zsa, zsz, zss, i64_w, i32_w]
                rfl
               refine pure_ (i := 10) (N := some 38) (v := ?_) (a' := ?_) #[true, true, true, true, true, true, true, true, true, true, true, false, true, false, false] rfl rfl (any_of HT_.out (by kernel_rfl)) (fun _ _ _ h => h) (Or.inl ⟨by rfl, ?_⟩) ?_ ?_
               rotate_left
               ·intro w'
                go_simp
                with_reducible rfl
               rotate_left
               ·simp only [Act.put, zsa, zsz, zss, i64_w, i32_w]
                rfl
               refine pure_ (i := 11) (N := some 39) (v := ?_) (a' := ?_) #[true, true, true, true, true, true, true, true, true, true, true, true, true, false, false] rfl rfl (any_of HT_.out (by kernel_rfl)) (fun _ _ _ h => h) (Or.inl ⟨by rfl, ?_⟩) ?_ ?_
               rotate_left
               ·intro w'
                go_simp
                with_reducible rfl
               rotate_left
               ·simp only [Act.put, zsa, zsz, zss, i64_w, i32_w]
                rfl
               exact norm_ (by simp only [putAll, Act.put, zsa, zsz, zss]) (hCont (gb111) _ ⟨hHeld, (by (with_reducible repeat (first | apply zRa | apply zRn | apply zRd)); exact Kd.R_mono HO_7.out (fun _ hk => hk.2)), (by (with_reducible repeat (first | refine zkn ?_ _ | refine zkd ?_ | refine zka ?_ _)); exact BK111.out), GW111.out, GE111.out, (by repeat (first | (with_reducible first | exact HB.out | apply zba | apply zbn | apply zb1 | refine zbs ?_ GE111.out) | exact HB.out))⟩)
              rintro gb111 w20 ⟨hS_, h0_, h1_, h2_, h3_, h4_⟩
              have n0_ : Aside0 (Kd.R k32 32 w20 w.heap.size (fun k_ => k_ ≠ gb111) u7 x7_1) := ⟨h0_⟩
              have n1_ : Aside0 (w20.heap[gb111]? = some (.cells #[.int .i64 0, .int .i64 0] 32 (0, 0))) := ⟨h1_⟩
              have n2_ : Aside0 (w.heap.size ≤ gb111) := ⟨h2_⟩
              have n3_ : Aside0 (w.heap.size ≤ gb111) := ⟨h3_⟩
              have n4_ : Aside0 (Below w.heap.size w w20) := ⟨h4_⟩
              clear HO_7
              clear HB
              clear h0_ h1_ h2_ h3_ h4_
              have HO_7 := n0_
              have BK111 := n1_
              have GW111 := n2_
              have GE111 := n3_
              have HB := n4_
              clear n0_ n1_ n2_ n3_ n4_
              have hHeld : w20.cell? (ad106.add ((x8_1).toNat * 2)) = some (.int .i64 ((rd_T32 l0 x8_1).f0)) ∧ w20.cell? ⟨(ad106.add ((x8_1).toNat * 2)).block, (ad106.add ((x8_1).toNat * 2)).off + 1, none⟩ = some (.int .i64 ((rd_T32 l0 x8_1).f1)) ∧ w20.cell? (ad107.add ((x9_1).toNat * 2)) = some (.int .i64 ((rd_T32 l1 x9_1).f0)) ∧ w20.cell? ⟨(ad107.add ((x9_1).toNat * 2)).block, (ad107.add ((x9_1).toNat * 2)).off + 1, none⟩ = some (.int .i64 ((rd_T32 l1 x9_1).f1)) := hS_
              refine norm_ (a' := ?_) ?_ ?_
              rotate_left
              ·simp only [putAll, Act.put, zsa, zsz, zss]
               rfl
              refine one_ (i := 13) (N := none) #[true, true, true, true, true, true, true, true, true, true, true, true, true, true, false] rfl rfl (one_of HT_.out (by kernel_rfl)) (by decide) (fun K hK => ?_)
              have hs21 : w20.cell? ⟨gb111, 0, none⟩ = some (.int .i64 0) := (zkc BK111.out 0).trans rfl
              have hfs21 := zkz BK111.out 0
              have hs22 : w20.cell? ⟨gb111, 1, none⟩ = some (.int .i64 0) := (zkc BK111.out 1).trans rfl
              have hfs22 := zkz BK111.out 1
              refine skip_ (w1 := ?_) (by rfl) rfl ?_ ?_
              rotate_left
              ·go_simp
               rfl
              refine hK.out _ _ ⟨((cell_far (p := ⟨gb111, _, none⟩) (by first | exact Nat.ne_of_lt (Nat.lt_of_lt_of_le (by have := zwb _ _ hw106_0; first | rwa [add_block] at this | exact this) GW111.out) | (rw [add_block]; exact Nat.ne_of_lt (Nat.lt_of_lt_of_le (by have := zwb _ _ hw106_0; first | rwa [add_block] at this | exact this) GW111.out)) | (show (Addr.add _ _).block ≠ _; rw [add_block]; exact Nat.ne_of_lt (Nat.lt_of_lt_of_le (by have := zwb _ _ hw106_0; first | rwa [add_block] at this | exact this) GW111.out)) | (dsimp only; exact Nat.ne_of_lt (Nat.lt_of_lt_of_le (by have := zwb _ _ hw106_0; first | rwa [add_block] at this | exact this) GW111.out))) _).trans (((cell_far (p := ⟨gb111, _, none⟩) (by first | exact Nat.ne_of_lt (Nat.lt_of_lt_of_le (by have := zwb _ _ hw106_0; first | rwa [add_block] at this | exact this) GW111.out) | (rw [add_block]; exact Nat.ne_of_lt (Nat.lt_of_lt_of_le (by have := zwb _ _ hw106_0; first | rwa [add_block] at this | exact this) GW111.out)) | (show (Addr.add _ _).block ≠ _; rw [add_block]; exact Nat.ne_of_lt (Nat.lt_of_lt_of_le (by have := zwb _ _ hw106_0; first | rwa [add_block] at this | exact this) GW111.out)) | (dsimp only; exact Nat.ne_of_lt (Nat.lt_of_lt_of_le (by have := zwb _ _ hw106_0; first | rwa [add_block] at this | exact this) GW111.out))) _).trans (hHeld.1)))), ((cell_far (p := ⟨gb111, _, none⟩) (by first | exact Nat.ne_of_lt (Nat.lt_of_lt_of_le (by have := zwb _ _ hw106_1; first | rwa [add_block] at this | exact this) GW111.out) | (rw [add_block]; exact Nat.ne_of_lt (Nat.lt_of_lt_of_le (by have := zwb _ _ hw106_1; first | rwa [add_block] at this | exact this) GW111.out)) | (show (Addr.add _ _).block ≠ _; rw [add_block]; exact Nat.ne_of_lt (Nat.lt_of_lt_of_le (by have := zwb _ _ hw106_1; first | rwa [add_block] at this | exact this) GW111.out)) | (dsimp only; exact Nat.ne_of_lt (Nat.lt_of_lt_of_le (by have := zwb _ _ hw106_1; first | rwa [add_block] at this | exact this) GW111.out))) _).trans (((cell_far (p := ⟨gb111, _, none⟩) (by first | exact Nat.ne_of_lt (Nat.lt_of_lt_of_le (by have := zwb _ _ hw106_1; first | rwa [add_block] at this | exact this) GW111.out) | (rw [add_block]; exact Nat.ne_of_lt (Nat.lt_of_lt_of_le (by have := zwb _ _ hw106_1; first | rwa [add_block] at this | exact this) GW111.out)) | (show (Addr.add _ _).block ≠ _; rw [add_block]; exact Nat.ne_of_lt (Nat.lt_of_lt_of_le (by have := zwb _ _ hw106_1; first | rwa [add_block] at this | exact this) GW111.out)) | (dsimp only; exact Nat.ne_of_lt (Nat.lt_of_lt_of_le (by have := zwb _ _ hw106_1; first | rwa [add_block] at this | exact this) GW111.out))) _).trans (hHeld.2.1)))), ((cell_far (p := ⟨gb111, _, none⟩) (by first | exact Nat.ne_of_lt (Nat.lt_of_lt_of_le (by have := zwb _ _ hw107_0; first | rwa [add_block] at this | exact this) GW111.out) | (rw [add_block]; exact Nat.ne_of_lt (Nat.lt_of_lt_of_le (by have := zwb _ _ hw107_0; first | rwa [add_block] at this | exact this) GW111.out)) | (show (Addr.add _ _).block ≠ _; rw [add_block]; exact Nat.ne_of_lt (Nat.lt_of_lt_of_le (by have := zwb _ _ hw107_0; first | rwa [add_block] at this | exact this) GW111.out)) | (dsimp only; exact Nat.ne_of_lt (Nat.lt_of_lt_of_le (by have := zwb _ _ hw107_0; first | rwa [add_block] at this | exact this) GW111.out))) _).trans (((cell_far (p := ⟨gb111, _, none⟩) (by first | exact Nat.ne_of_lt (Nat.lt_of_lt_of_le (by have := zwb _ _ hw107_0; first | rwa [add_block] at this | exact this) GW111.out) | (rw [add_block]; exact Nat.ne_of_lt (Nat.lt_of_lt_of_le (by have := zwb _ _ hw107_0; first | rwa [add_block] at this | exact this) GW111.out)) | (show (Addr.add _ _).block ≠ _; rw [add_block]; exact Nat.ne_of_lt (Nat.lt_of_lt_of_le (by have := zwb _ _ hw107_0; first | rwa [add_block] at this | exact this) GW111.out)) | (dsimp only; exact Nat.ne_of_lt (Nat.lt_of_lt_of_le (by have := zwb _ _ hw107_0; first | rwa [add_block] at this | exact this) GW111.out))) _).trans (hHeld.2.2.1)))), ((cell_far (p := ⟨gb111, _, none⟩) (by first | exact Nat.ne_of_lt (Nat.lt_of_lt_of_le (by have := zwb _ _ hw107_1; first | rwa [add_block] at this | exact this) GW111.out) | (rw [add_block]; exact Nat.ne_of_lt (Nat.lt_of_lt_of_le (by have := zwb _ _ hw107_1; first | rwa [add_block] at this | exact this) GW111.out)) | (show (Addr.add _ _).block ≠ _; rw [add_block]; exact Nat.ne_of_lt (Nat.lt_of_lt_of_le (by have := zwb _ _ hw107_1; first | rwa [add_block] at this | exact this) GW111.out)) | (dsimp only; exact Nat.ne_of_lt (Nat.lt_of_lt_of_le (by have := zwb _ _ hw107_1; first | rwa [add_block] at this | exact this) GW111.out))) _).trans (((cell_far (p := ⟨gb111, _, none⟩) (by first | exact Nat.ne_of_lt (Nat.lt_of_lt_of_le (by have := zwb _ _ hw107_1; first | rwa [add_block] at this | exact this) GW111.out) | (rw [add_block]; exact Nat.ne_of_lt (Nat.lt_of_lt_of_le (by have := zwb _ _ hw107_1; first | rwa [add_block] at this | exact this) GW111.out)) | (show (Addr.add _ _).block ≠ _; rw [add_block]; exact Nat.ne_of_lt (Nat.lt_of_lt_of_le (by have := zwb _ _ hw107_1; first | rwa [add_block] at this | exact this) GW111.out)) | (dsimp only; exact Nat.ne_of_lt (Nat.lt_of_lt_of_le (by have := zwb _ _ hw107_1; first | rwa [add_block] at this | exact this) GW111.out))) _).trans (hHeld.2.2.2))))⟩ (fun hHeld => ?_)
              clear hK K
              refine pure_ (i := 14) (N := some 11) (v := ?_) (a' := ?_) #[true, true, true, true, true, true, true, true, true, true, true, true, true, true, true] rfl rfl (any_of HT_.out (by kernel_rfl)) (fun _ _ _ h => h) (Or.inl ⟨by rfl, ?_⟩) ?_ ?_
              rotate_left
              ·intro w'
               go_simp
               with_reducible rfl
              rotate_left
              ·simp only [Act.put, zsa, zsz, zss, i64_w, i32_w]
               rfl
              refine done_ (done_of HT_.out (by kernel_rfl)) ?_
              have hcz23_0 : w20.cell? ⟨gb111, 0, none⟩ = some (.int .i64 0) := (zkc BK111.out 0).trans rfl
              have hcz23_1 : w20.cell? ⟨gb111, 1, none⟩ = some (.int .i64 0) := (zkc BK111.out 1).trans rfl
              have hfz23_0 := zkz BK111.out 0
              have hfz23_1 := zkz BK111.out 1
              try go_wp2_with (first | ((with_reducible refine gate_builtin (b := .append) (xs := #[.tmp 41, .tmp 43]) rfl ?_); (try (refine gate_guard (by rfl) ?_; dsimp only)); at_builtin; refine Kd.R_append k32 (w0 := w) w.heap.size rfl (.tmp 41) (.tmp 43) 44 32 (.agg #[(.int .i64 0), (.int .i64 0)]) 16 rfl Try.underlying44 info32 rfl (by decide) (by omega) u7 x7_1 (⟨t108, t109⟩ : S32) [.int .i64 t108, .int .i64 t109] (fun k_ => k_ ≠ gb111) (fun _ => False) rfl (by first | (go_simp; done) | (go_simp; rfl)) ?aP (fun _ hk => hk.elim) ?aF ?aO ?aB ?aS ?aL ?_; (case aP => exact k32_mkM _ _ _ (⟨t108, t109⟩ : S32)); (case aB => exact (by repeat (first | (with_reducible first | exact HB.out | apply zba | apply zbn | apply zb1 | refine zbs ?_ GE111.out) | exact HB.out))); (case aF => exact (fun k_ hk => Kd.freshB (g := gb111) (o := .cells #[.int .i64 t108, .int .i64 t109] 32 (0, 0)) (by (with_reducible repeat (first | refine zkn ?_ _ | refine zkd ?_ | refine zka ?_ _)); refine blk_put (cs := #[.int .i64 t108, .int .i64 0]) ?_ 1 _ rfl; (with_reducible repeat (first | refine zkn ?_ _ | refine zkd ?_ | refine zka ?_ _)); refine blk_put (cs := #[.int .i64 0, .int .i64 0]) ?_ 0 _ rfl; (with_reducible repeat (first | refine zkn ?_ _ | refine zkd ?_ | refine zka ?_ _)); exact BK111.out) k_ hk)); (case aO => exact (by (with_reducible repeat (first | apply zRa | apply zRn | apply zRd)); exact Kd.R_mono (Kd.R_far (p := ⟨gb111, 1, none⟩) (Kd.R_far (p := ⟨gb111, 0, none⟩) (Kd.R_mono HO_7.out (fun k_ hk => (⟨hk, hk⟩ : _ ∧ k_ ≠ gb111))) (fun _ hk => hk.2) (.int .i64 t108)) (fun _ hk => hk.2) (.int .i64 t109)) (fun _ hk => hk.1))); (case aS => exact (zbz (by repeat (first | (with_reducible first | exact HB.out | apply zba | apply zbn | apply zb1 | refine zbs ?_ GE111.out) | exact HB.out)))); (case aL => have := LMc15.out; omega); intro v113 w24 ho hb hg hat; rw [← Ny112.out] at ho; have n0_ := zam (blk_grown (g := gb111) (o := .cells #[.int .i64 t108, .int .i64 t109] 32 (0, 0)) (by (with_reducible repeat (first | refine zkn ?_ _ | refine zkd ?_ | refine zka ?_ _)); refine blk_put (cs := #[.int .i64 t108, .int .i64 0]) ?_ 1 _ rfl; (with_reducible repeat (first | refine zkn ?_ _ | refine zkd ?_ | refine zka ?_ _)); refine blk_put (cs := #[.int .i64 0, .int .i64 0]) ?_ 0 _ rfl; (with_reducible repeat (first | refine zkn ?_ _ | refine zkd ?_ | refine zka ?_ _)); exact BK111.out) hg (Kd.R_away HO_7.out (fun _ hk => hk))); have n1_ := zam (hb); have n2_ := zam (ho); clear BK111; clear HB; clear HO_7; have BK111 := n0_; have HB := n1_; have HO114 := n2_; clear n0_ n1_ n2_; clear ho hb hg hat))
              have n0_ := zam (zRd HO114.out)
              have n1_ := zam (zkd BK111.out)
              have n2_ := zam (zb1 HB.out)
              clear HO114
              clear BK111
              clear HB
              have HO114 := n0_
              have BK111 := n1_
              have HB := n2_
              clear n0_ n1_ n2_
              have p115 : 0 ≤ (x8_1 : Int) := zod (by first | (with_reducible assumption) | assumption)
              have q115 : x8_1 < (l0.length : Int) := zod (by first | (with_reducible assumption) | assumption)
              obtain ⟨ad115, e115, hx115_0, hx115_1⟩ := at_T32 HR0.out x8_1 p115 q115
              have hw115_1 := hx115_1
              have hw115_0 := hx115_0
              obtain rfl : ad106 = ad115 := (by injection e115)
              replace hx115_0 := (HB.out.cell (zwb w _ hx115_0)).trans hx115_0
              replace hx115_1 := (HB.out.cell (zwb w _ hx115_1)).trans hx115_1
              replace p115 := eq_true p115
              replace q115 := eq_true q115
              have p116 : 0 ≤ (x9_1 : Int) := zod (by first | (with_reducible assumption) | assumption)
              have q116 : x9_1 < (l1.length : Int) := zod (by first | (with_reducible assumption) | assumption)
              obtain ⟨ad116, e116, hx116_0, hx116_1⟩ := at_T32 HR1.out x9_1 p116 q116
              have hw116_1 := hx116_1
              have hw116_0 := hx116_0
              obtain rfl : ad107 = ad116 := (by injection e116)
              replace hx116_0 := (HB.out.cell (zwb w _ hx116_0)).trans hx116_0
              replace hx116_1 := (HB.out.cell (zwb w _ hx116_1)).trans hx116_1
              replace p116 := eq_true p116
              replace q116 := eq_true q116
              refine start_ (n := 11) (S := fun w' => w'.cell? (ad106.add ((x8_1).toNat * 2)) = some (.int .i64 ((rd_T32 l0 x8_1).f0)) ∧ w'.cell? ⟨(ad106.add ((x8_1).toNat * 2)).block, (ad106.add ((x8_1).toNat * 2)).off + 1, none⟩ = some (.int .i64 ((rd_T32 l0 x8_1).f1)) ∧ w'.cell? (ad107.add ((x9_1).toNat * 2)) = some (.int .i64 ((rd_T32 l1 x9_1).f0)) ∧ w'.cell? ⟨(ad107.add ((x9_1).toNat * 2)).block, (ad107.add ((x9_1).toNat * 2)).off + 1, none⟩ = some (.int .i64 ((rd_T32 l1 x9_1).f1))) (ds := []) #[false, false, false, false, false, false, false, false, false, false, false] (by kernel_rfl) rfl rfl ⟨((HB.out.cell (zwb w _ hw115_0)).trans hw115_0), ((HB.out.cell (zwb w _ hw115_1)).trans hw115_1), ((HB.out.cell (zwb w _ hw116_0)).trans hw116_0), ((HB.out.cell (zwb w _ hw116_1)).trans hw116_1)⟩ (fun hHeld => ?_); refine with_tabW bound_Cut.tab10 bound_Cut.bits10 (fun HT_ HW_ => ?_)
              generalize w24.drew = w25 at HO114 BK111 HB hx115_0 hx115_1 hx116_0 hx116_1 hHeld ⊢
              refine pure_ (i := 0) (N := some 45) (v := ?_) (a' := ?_) #[true, false, false, false, false, false, false, false, false, false, false] rfl rfl (any_of HT_.out (by kernel_rfl)) (fun _ _ _ h => h) (Or.inl ⟨by rfl, ?_⟩) ?_ ?_
              rotate_left
              ·intro w'
               go_simp
               with_reducible rfl
              rotate_left
              ·simp only [Act.put, zsa, zsz, zss, i64_w, i32_w]
               rfl
              refine pure_ (i := 1) (N := some 46) (v := ?_) (a' := ?_) #[true, true, false, false, false, false, false, false, false, false, false] rfl rfl (any_of HT_.out (by kernel_rfl)) (fun _ _ _ h => h) (Or.inl ⟨by rfl, ?_⟩) ?_ ?_
              rotate_left
              ·intro w'
               go_simp
               with_reducible rfl
              rotate_left
              ·simp only [Act.put, zsa, zsz, zss, i64_w, i32_w]
               rfl
              refine pure_ (i := 2) (N := some 47) (v := ?_) (a' := ?_) #[true, true, true, false, false, false, false, false, false, false, false] rfl rfl (any_of HT_.out (by kernel_rfl)) (fun _ _ _ h => h) (Or.inl ⟨by rfl, ?_⟩) ?_ ?_
              rotate_left
              ·intro w'
               go_simp
               with_reducible rfl
              rotate_left
              ·simp only [Act.put, zsa, zsz, zss, i64_w, i32_w]
               rfl
              refine pure_ (i := 3) (N := some 48) (v := ?_) (a' := ?_) #[true, true, true, true, false, false, false, false, false, false, false] rfl rfl (any_of HT_.out (by kernel_rfl)) (fun _ _ _ h => h) (Or.inl ⟨by rfl, ?_⟩) ?_ ?_
              rotate_left
              ·intro w'
               go_simp
               with_reducible rfl
              rotate_left
              ·simp only [Act.put, zsa, zsz, zss, i64_w, i32_w]
               rfl
              refine pure_ (i := 5) (N := some 50) (v := ?_) (a' := ?_) #[true, true, true, true, false, true, false, false, false, false, false] rfl rfl (any_of HT_.out (by kernel_rfl)) (fun _ _ _ h => h) (Or.inl ⟨by rfl, ?_⟩) ?_ ?_
              rotate_left
              ·intro w'
               go_simp
               with_reducible rfl
              rotate_left
              ·simp only [Act.put, zsa, zsz, zss, i64_w, i32_w]
               rfl
              refine pure_ (i := 6) (N := some 51) (v := ?_) (a' := ?_) #[true, true, true, true, false, true, true, false, false, false, false] rfl rfl (any_of HT_.out (by kernel_rfl)) (fun _ _ _ h => h) (Or.inl ⟨by rfl, ?_⟩) ?_ ?_
              rotate_left
              ·intro w'
               go_simp
               with_reducible rfl
              rotate_left
              ·simp only [Act.put, zsa, zsz, zss, i64_w, i32_w]
               rfl
              refine pure_ (i := 7) (N := some 52) (v := ?_) (a' := ?_) #[true, true, true, true, false, true, true, true, false, false, false] rfl rfl (any_of HT_.out (by kernel_rfl)) (fun _ _ _ h => h) (Or.inl ⟨by rfl, ?_⟩) ?_ ?_
              rotate_left
              ·intro w'
               go_simp
               with_reducible rfl
              rotate_left
              ·simp only [Act.put, zsa, zsz, zss, i64_w, i32_w]
               rfl
              refine pure_ (i := 8) (N := some 53) (v := ?_) (a' := ?_) #[true, true, true, true, false, true, true, true, true, false, false] rfl rfl (any_of HT_.out (by kernel_rfl)) (fun _ _ _ h => h) (Or.inl ⟨by rfl, ?_⟩) ?_ ?_
              rotate_left
              ·intro w'
               go_simp
               with_reducible rfl
              rotate_left
              ·simp only [Act.put, zsa, zsz, zss, i64_w, i32_w]
               rfl
              refine take_ (i := 4) (N := some 49) (v := ?_) (a' := ?_) #[true, true, true, true, true, true, true, true, true, false, false] rfl rfl (take_ofW HT_.out HW_.out (by kernel_rfl)) (fun _ _ _ h => h) (Or.inl ⟨by rfl, ?_⟩) hHeld ?_ ?_
              rotate_left
              ·rintro w' ⟨s0, s1, s2, s3⟩
               go_simp
               with_reducible rfl
              rotate_left
              ·simp only [Act.put, zsa, zsz, zss, i64_w, i32_w]
               rfl
              refine take_ (i := 9) (N := some 54) (v := ?_) (a' := ?_) #[true, true, true, true, true, true, true, true, true, true, false] rfl rfl (take_ofW HT_.out HW_.out (by kernel_rfl)) (fun _ _ _ h => h) (Or.inl ⟨by rfl, ?_⟩) hHeld ?_ ?_
              rotate_left
              ·rintro w' ⟨s0, s1, s2, s3⟩
               go_simp
               with_reducible rfl
              rotate_left
              ·simp only [Act.put, zsa, zsz, zss, i64_w, i32_w]
               rfl
              refine pure_ (i := 10) (N := some 55) (v := ?_) (a' := ?_) #[true, true, true, true, true, true, true, true, true, true, true] rfl rfl (any_of HT_.out (by kernel_rfl)) (fun _ _ _ h => h) (Or.inl ⟨by rfl, ?_⟩) ?_ ?_
              rotate_left
              ·intro w'
               go_simp
               with_reducible rfl
              rotate_left
              ·simp only [Act.put, zsa, zsz, zss, i64_w, i32_w]
               rfl
              refine done_ (done_of HT_.out (by kernel_rfl)) ?_
              try go_wp2
              go_roundg kj5
              case measure => have := HK1.out; have := HJ5.out; omega
              case rel => exact ⟨(y112), (wrap64 (x8_1 + 1)), (x9_1), (by first | rfl | (simp; done) | (simp [*]; done)), (by first | rfl | (simp; done) | (simp [*]; done)), H', ⟨by have := HK1.out; have := HJ5.out; omega⟩, ⟨by (with_reducible repeat (first | apply zRa | apply zRn | apply zRd)); exact Kd.R_mono HO114.out (fun _ hk => trivial)⟩, ⟨by repeat (first | (with_reducible first | exact HB.out | apply zba | apply zbn | apply zb1 | refine zbs ?_ GE111.out) | exact HB.out)⟩⟩
             rw [if_neg c16] at H
             have c16b0 : decide (((rd_T32 l0 x8_1).f1) < ((rd_T32 l1 x9_1).f1)) = false := zdf c16
             clear c16
             have H' := zam H
             clear H
             try go_wp2
             have n0_ := zam (zRd HO_7.out)
             have n1_ := zam (zb1 HB.out)
             clear HO_7
             clear HB
             have HO_7 := n0_
             have HB := n1_
             clear n0_ n1_
             have p106 : 0 ≤ (x8_1 : Int) := zod (by first | (with_reducible assumption) | assumption)
             have q106 : x8_1 < (l0.length : Int) := zod (by first | (with_reducible assumption) | assumption)
             obtain ⟨ad106, e106, hx106_0, hx106_1⟩ := at_T32 HR0.out x8_1 p106 q106
             have hw106_1 := hx106_1
             have hw106_0 := hx106_0
             cases e106
             replace hx106_0 := (HB.out.cell (zwb w _ hx106_0)).trans hx106_0
             replace hx106_1 := (HB.out.cell (zwb w _ hx106_1)).trans hx106_1
             replace p106 := eq_true p106
             replace q106 := eq_true q106
             have p107 : 0 ≤ (x9_1 : Int) := zod (by first | (with_reducible assumption) | assumption)
             have q107 : x9_1 < (l1.length : Int) := zod (by first | (with_reducible assumption) | assumption)
             obtain ⟨ad107, e107, hx107_0, hx107_1⟩ := at_T32 HR1.out x9_1 p107 q107
             have hw107_1 := hx107_1
             have hw107_0 := hx107_0
             cases e107
             replace hx107_0 := (HB.out.cell (zwb w _ hx107_0)).trans hx107_0
             replace hx107_1 := (HB.out.cell (zwb w _ hx107_1)).trans hx107_1
             replace p107 := eq_true p107
             replace q107 := eq_true q107
             refine start_ (n := 15) (S := fun w' => w'.cell? (ad106.add ((x8_1).toNat * 2)) = some (.int .i64 ((rd_T32 l0 x8_1).f0)) ∧ w'.cell? ⟨(ad106.add ((x8_1).toNat * 2)).block, (ad106.add ((x8_1).toNat * 2)).off + 1, none⟩ = some (.int .i64 ((rd_T32 l0 x8_1).f1)) ∧ w'.cell? (ad107.add ((x9_1).toNat * 2)) = some (.int .i64 ((rd_T32 l1 x9_1).f0)) ∧ w'.cell? ⟨(ad107.add ((x9_1).toNat * 2)).block, (ad107.add ((x9_1).toNat * 2)).off + 1, none⟩ = some (.int .i64 ((rd_T32 l1 x9_1).f1))) (ds := []) #[false, false, false, false, false, false, false, false, false, false, false, false, false, false, false] (by kernel_rfl) rfl rfl ⟨((HB.out.cell (zwb w _ hw106_0)).trans hw106_0), ((HB.out.cell (zwb w _ hw106_1)).trans hw106_1), ((HB.out.cell (zwb w _ hw107_0)).trans hw107_0), ((HB.out.cell (zwb w _ hw107_1)).trans hw107_1)⟩ (fun hHeld => ?_); refine with_tabW bound_Cut.tab7 bound_Cut.bits7 (fun HT_ HW_ => ?_)
             generalize wc.drew = w26 at HO_7 HB hx106_0 hx106_1 hx107_0 hx107_1 hHeld ⊢
             refine pure_ (i := 0) (N := some 29) (v := ?_) (a' := ?_) #[true, false, false, false, false, false, false, false, false, false, false, false, false, false, false] rfl rfl (any_of HT_.out (by kernel_rfl)) (fun _ _ _ h => h) (Or.inl ⟨by rfl, ?_⟩) ?_ ?_
             rotate_left
             ·intro w'
              go_simp
              with_reducible rfl
             rotate_left
             ·simp only [Act.put, zsa, zsz, zss, i64_w, i32_w]
              rfl
             refine pure_ (i := 1) (N := some 30) (v := ?_) (a' := ?_) #[true, true, false, false, false, false, false, false, false, false, false, false, false, false, false] rfl rfl (any_of HT_.out (by kernel_rfl)) (fun _ _ _ h => h) (Or.inl ⟨by rfl, ?_⟩) ?_ ?_
             rotate_left
             ·intro w'
              go_simp
              with_reducible rfl
             rotate_left
             ·simp only [Act.put, zsa, zsz, zss, i64_w, i32_w]
              rfl
             refine pure_ (i := 2) (N := some 31) (v := ?_) (a' := ?_) #[true, true, true, false, false, false, false, false, false, false, false, false, false, false, false] rfl rfl (any_of HT_.out (by kernel_rfl)) (fun _ _ _ h => h) (Or.inl ⟨by rfl, ?_⟩) ?_ ?_
             rotate_left
             ·intro w'
              go_simp
              with_reducible rfl
             rotate_left
             ·simp only [Act.put, zsa, zsz, zss, i64_w, i32_w]
              rfl
             refine pure_ (i := 4) (N := some 33) (v := ?_) (a' := ?_) #[true, true, true, false, true, false, false, false, false, false, false, false, false, false, false] rfl rfl (any_of HT_.out (by kernel_rfl)) (fun _ _ _ h => h) (Or.inl ⟨by rfl, ?_⟩) ?_ ?_
             rotate_left
             ·intro w'
              go_simp
              with_reducible rfl
             rotate_left
             ·simp only [Act.put, zsa, zsz, zss, i64_w, i32_w]
              rfl
             refine pure_ (i := 5) (N := some 34) (v := ?_) (a' := ?_) #[true, true, true, false, true, true, false, false, false, false, false, false, false, false, false] rfl rfl (any_of HT_.out (by kernel_rfl)) (fun _ _ _ h => h) (Or.inl ⟨by rfl, ?_⟩) ?_ ?_
             rotate_left
             ·intro w'
              go_simp
              with_reducible rfl
             rotate_left
             ·simp only [Act.put, zsa, zsz, zss, i64_w, i32_w]
              rfl
             refine pure_ (i := 6) (N := some 35) (v := ?_) (a' := ?_) #[true, true, true, false, true, true, true, false, false, false, false, false, false, false, false] rfl rfl (any_of HT_.out (by kernel_rfl)) (fun _ _ _ h => h) (Or.inl ⟨by rfl, ?_⟩) ?_ ?_
             rotate_left
             ·intro w'
              go_simp
              with_reducible rfl
             rotate_left
             ·simp only [Act.put, zsa, zsz, zss, i64_w, i32_w]
              rfl
             refine take_ (i := 3) (N := some 32) (v := ?_) (a' := ?_) #[true, true, true, true, true, true, true, false, false, false, false, false, false, false, false] rfl rfl (take_ofW HT_.out HW_.out (by kernel_rfl)) (fun _ _ _ h => h) (Or.inl ⟨by rfl, ?_⟩) hHeld ?_ ?_
             rotate_left
             ·rintro w' ⟨s0, s1, s2, s3⟩
              go_simp
              with_reducible rfl
             rotate_left
             ·simp only [Act.put, zsa, zsz, zss, i64_w, i32_w]
              rfl
             refine take_ (i := 7) (N := some 36) (v := ?_) (a' := ?_) #[true, true, true, true, true, true, true, true, false, false, false, false, false, false, false] rfl rfl (take_ofW HT_.out HW_.out (by kernel_rfl)) (fun _ _ _ h => h) (Or.inl ⟨by rfl, ?_⟩) hHeld ?_ ?_
             rotate_left
             ·rintro w' ⟨s0, s1, s2, s3⟩
              go_simp
              with_reducible rfl
             rotate_left
             ·simp only [Act.put, zsa, zsz, zss, i64_w, i32_w]
              rfl
             refine join_ (σ := Nat) 2 #[true, true, true, true, true, true, true, true, true, true, true, true, true, false, false] (fun s_ => [(37, .tuple #[.agg #[.int .i64 t108, .int .i64 t109], .bool true]), (10, .pointer (some ⟨s_, 0, none⟩)), (28, .tuple #[.agg #[.int .i64 t108, .int .i64 t109], .bool true]), (38, .agg #[.int .i64 t108, .int .i64 t109]), (39, .bool true)]) (fun s_ w' => (w'.cell? (ad106.add ((x8_1).toNat * 2)) = some (.int .i64 ((rd_T32 l0 x8_1).f0)) ∧ w'.cell? ⟨(ad106.add ((x8_1).toNat * 2)).block, (ad106.add ((x8_1).toNat * 2)).off + 1, none⟩ = some (.int .i64 ((rd_T32 l0 x8_1).f1)) ∧ w'.cell? (ad107.add ((x9_1).toNat * 2)) = some (.int .i64 ((rd_T32 l1 x9_1).f0)) ∧ w'.cell? ⟨(ad107.add ((x9_1).toNat * 2)).block, (ad107.add ((x9_1).toNat * 2)).off + 1, none⟩ = some (.int .i64 ((rd_T32 l1 x9_1).f1))) ∧ (Kd.R k32 32 w' w.heap.size (fun k_ => k_ ≠ s_) u7 x7_1) ∧ (w'.heap[s_]? = some (.cells #[.int .i64 0, .int .i64 0] 32 (0, 0))) ∧ (w.heap.size ≤ s_) ∧ (w.heap.size ≤ s_) ∧ (Below w.heap.size w w')) ?_ ?_
             rotate_left
             ·intro hCont
              refine two_ (i := 8) (j := 12) (Ni := some 37) (Nj := some 10) #[true, true, true, true, true, true, true, true, true, false, false, false, false, false, false] #[true, true, true, true, true, true, true, true, false, false, false, false, true, false, false] rfl rfl rfl rfl (two_of HT_.out (by kernel_rfl)) (by decide) (by decide) (fun K hK => ?_) (fun K hK => ?_)
              ·skip
               refine goes_ Try.func81 (by kernel_rfl) rfl #[.agg #[.int .i64 ((rd_T32 l0 x8_1).f0), .int .i64 ((rd_T32 l0 x8_1).f1)], .agg #[.int .i64 ((rd_T32 l1 x9_1).f0), .int .i64 ((rd_T32 l1 x9_1).f1)]] (by rfl) rfl rfl (by (try simp only [zmt, List.map_cons, List.map_nil]); first | done | rfl | (simp only [zld, zlt]; rfl)) ?_
               with_reducible refine (bound_meet.calls ((rd_T32 l0 x8_1).f0) ((rd_T32 l0 x8_1).f1) ((rd_T32 l1 x9_1).f0) ((rd_T32 l1 x9_1).f1) t108 t109 true _ A13.out).mono ?_
               rintro e w27 ⟨rfl, hb⟩
               refine ⟨_, rfl, ?_⟩
               have n0_ := zam (Kd.R_below (by (with_reducible repeat (first | apply zRa | apply zRn | apply zRd)); exact HO_7.out) hb)
               have n1_ := zam (zbt (by repeat (first | (with_reducible first | exact HB.out | apply zba | apply zbn | apply zb1) | exact HB.out)) hb)
               clear HO_7
               clear HB
               have HO_7 := n0_
               have HB := n1_
               clear n0_ n1_
               (try clear hb)
               (try clear hb2)
               (try clear hk)
               (try clear hi)
               refine hK.out _ _ ⟨((HB.out.cell (zwb w _ hw106_0)).trans hw106_0), ((HB.out.cell (zwb w _ hw106_1)).trans hw106_1), ((HB.out.cell (zwb w _ hw107_0)).trans hw107_0), ((HB.out.cell (zwb w _ hw107_1)).trans hw107_1)⟩ (fun hHeld => ?_)
               clear hK K
               refine norm_ (a' := ?_) ?_ ?_
               rotate_left
               ·show Act.put _ (some 37) _ = _
                simp only [Act.put, zsa, zsz, zss, i64_w, i32_w]
                rfl
               refine pure_ (i := 9) (N := some 28) (v := ?_) (a' := ?_) #[true, true, true, true, true, true, true, true, true, true, false, false, false, false, false] rfl rfl (any_of HT_.out (by kernel_rfl)) (fun _ _ _ h => h) (Or.inl ⟨by rfl, ?_⟩) ?_ ?_
               rotate_left
               ·intro w'
                go_simp
                with_reducible rfl
               rotate_left
               ·simp only [Act.put, zsa, zsz, zss, i64_w, i32_w]
                rfl
               refine pure_ (i := 10) (N := some 38) (v := ?_) (a' := ?_) #[true, true, true, true, true, true, true, true, true, true, true, false, false, false, false] rfl rfl (any_of HT_.out (by kernel_rfl)) (fun _ _ _ h => h) (Or.inl ⟨by rfl, ?_⟩) ?_ ?_
               rotate_left
               ·intro w'
                go_simp
                with_reducible rfl
               rotate_left
               ·simp only [Act.put, zsa, zsz, zss, i64_w, i32_w]
                rfl
               refine pure_ (i := 11) (N := some 39) (v := ?_) (a' := ?_) #[true, true, true, true, true, true, true, true, true, true, true, true, false, false, false] rfl rfl (any_of HT_.out (by kernel_rfl)) (fun _ _ _ h => h) (Or.inl ⟨by rfl, ?_⟩) ?_ ?_
               rotate_left
               ·intro w'
                go_simp
                with_reducible rfl
               rotate_left
               ·simp only [Act.put, zsa, zsz, zss, i64_w, i32_w]
                rfl
               refine one_ (i := 12) (N := some 10) #[true, true, true, true, true, true, true, true, true, true, true, true, true, false, false] rfl rfl (one_of HT_.out (by kernel_rfl)) (by decide) (fun K hK => ?_)
               refine box_step ?hg (N := 10) ?hd (cs := #[.int .i64 0, .int .i64 0]) (t := 32) ?hr ?_; (case hd => rfl); (case hg => rfl); (case hr => first | (go_simp; done) | (go_simp; rfl))
               intro gb111 hg w28 hbox hb
               have n0_ := zam (Kd.R_below (Kd.R_elderB (by (with_reducible repeat (first | apply zRa | apply zRn | apply zRd)); exact HO_7.out) gb111 (Nat.le_of_eq hg.symm)) hb)
               have n1_ := zam (zbt (by repeat (first | (with_reducible first | exact HB.out | apply zba | apply zbn | apply zb1) | exact HB.out)) hb)
               have n2_ := zam (hbox)
               have n3_ := zam ((by rw [hg]; exact (zbz (by repeat (first | (with_reducible first | exact HB.out | apply zba | apply zbn | apply zb1) | exact HB.out))) : w.heap.size ≤ gb111))
               have n4_ := zam ((by rw [hg]; exact (zbz (by repeat (first | (with_reducible first | exact HB.out | apply zba | apply zbn | apply zb1) | exact HB.out))) : w.heap.size ≤ gb111))
               clear HO_7
               clear HB
               have HO_7 := n0_
               have HB := n1_
               have BK111 := n2_
               have GW111 := n3_
               have GE111 := n4_
               clear n0_ n1_ n2_ n3_ n4_
               clear hb hbox hg
               refine hK.out _ _ ⟨((HB.out.cell (zwb w _ hw106_0)).trans hw106_0), ((HB.out.cell (zwb w _ hw106_1)).trans hw106_1), ((HB.out.cell (zwb w _ hw107_0)).trans hw107_0), ((HB.out.cell (zwb w _ hw107_1)).trans hw107_1)⟩ (fun hHeld => ?_)
               clear hK K
               refine norm_ (a' := ?_) ?_ ?_
               rotate_left
               ·show Act.put _ (some 10) _ = _
                simp only [Act.put, zsa, zsz, zss, i64_w, i32_w]
                rfl
               exact norm_ (by simp only [putAll, Act.put, zsa, zsz, zss]) (hCont (gb111) _ ⟨hHeld, (by (with_reducible repeat (first | apply zRa | apply zRn | apply zRd)); exact Kd.R_mono HO_7.out (fun _ hk => hk.2)), (by (with_reducible repeat (first | refine zkn ?_ _ | refine zkd ?_ | refine zka ?_ _)); exact BK111.out), GW111.out, GE111.out, (by repeat (first | (with_reducible first | exact HB.out | apply zba | apply zbn | apply zb1 | refine zbs ?_ GE111.out) | exact HB.out))⟩)
              skip
              refine box_step ?hg (N := 10) ?hd (cs := #[.int .i64 0, .int .i64 0]) (t := 32) ?hr ?_; (case hd => rfl); (case hg => rfl); (case hr => first | (go_simp; done) | (go_simp; rfl))
              intro gb111 hg w27 hbox hb
              have n0_ := zam (Kd.R_below (Kd.R_elderB (by (with_reducible repeat (first | apply zRa | apply zRn | apply zRd)); exact HO_7.out) gb111 (Nat.le_of_eq hg.symm)) hb)
              have n1_ := zam (zbt (by repeat (first | (with_reducible first | exact HB.out | apply zba | apply zbn | apply zb1) | exact HB.out)) hb)
              have n2_ := zam (hbox)
              have n3_ := zam ((by rw [hg]; exact (zbz (by repeat (first | (with_reducible first | exact HB.out | apply zba | apply zbn | apply zb1) | exact HB.out))) : w.heap.size ≤ gb111))
              have n4_ := zam ((by rw [hg]; exact (zbz (by repeat (first | (with_reducible first | exact HB.out | apply zba | apply zbn | apply zb1) | exact HB.out))) : w.heap.size ≤ gb111))
              clear HO_7
              clear HB
              have HO_7 := n0_
              have HB := n1_
              have BK111 := n2_
              have GW111 := n3_
              have GE111 := n4_
              clear n0_ n1_ n2_ n3_ n4_
              clear hb hbox hg
              refine hK.out _ _ ⟨((HB.out.cell (zwb w _ hw106_0)).trans hw106_0), ((HB.out.cell (zwb w _ hw106_1)).trans hw106_1), ((HB.out.cell (zwb w _ hw107_0)).trans hw107_0), ((HB.out.cell (zwb w _ hw107_1)).trans hw107_1)⟩ (fun hHeld => ?_)
              clear hK K
              refine norm_ (a' := ?_) ?_ ?_
              rotate_left
              ·show Act.put _ (some 10) _ = _
               simp only [Act.put, zsa, zsz, zss, i64_w, i32_w]
               rfl
              refine one_ (i := 8) (N := some 37) #[true, true, true, true, true, true, true, true, true, false, false, false, true, false, false] rfl rfl (one_of HT_.out (by kernel_rfl)) (by decide) (fun K hK => ?_)
              refine goes_ Try.func81 (by kernel_rfl) rfl #[.agg #[.int .i64 ((rd_T32 l0 x8_1).f0), .int .i64 ((rd_T32 l0 x8_1).f1)], .agg #[.int .i64 ((rd_T32 l1 x9_1).f0), .int .i64 ((rd_T32 l1 x9_1).f1)]] (by rfl) rfl rfl (by (try simp only [zmt, List.map_cons, List.map_nil]); first | done | rfl | (simp only [zld, zlt]; rfl)) ?_
              with_reducible refine (bound_meet.calls ((rd_T32 l0 x8_1).f0) ((rd_T32 l0 x8_1).f1) ((rd_T32 l1 x9_1).f0) ((rd_T32 l1 x9_1).f1) t108 t109 true _ A13.out).mono ?_
              rintro e w28 ⟨rfl, hb⟩
              refine ⟨_, rfl, ?_⟩
              have n0_ := zam (Kd.R_below (by (with_reducible repeat (first | apply zRa | apply zRn | apply zRd)); exact HO_7.out) hb)
              have n1_ := zam (zkb (g := gb111) (o := .cells #[.int .i64 0, .int .i64 0] 32 (0, 0)) (by (with_reducible repeat (first | refine zkn ?_ _ | refine zkd ?_ | refine zka ?_ _)); exact BK111.out) hb)
              have n2_ := zam (zbt (by repeat (first | (with_reducible first | exact HB.out | apply zba | apply zbn | apply zb1 | refine zbs ?_ GE111.out) | exact HB.out)) hb)
              clear HO_7
              clear BK111
              clear HB
              have HO_7 := n0_
              have BK111 := n1_
              have HB := n2_
              clear n0_ n1_ n2_
              (try clear hb)
              (try clear hb2)
              (try clear hk)
              (try clear hi)
              refine hK.out _ _ ⟨((HB.out.cell (zwb w _ hw106_0)).trans hw106_0), ((HB.out.cell (zwb w _ hw106_1)).trans hw106_1), ((HB.out.cell (zwb w _ hw107_0)).trans hw107_0), ((HB.out.cell (zwb w _ hw107_1)).trans hw107_1)⟩ (fun hHeld => ?_)
              clear hK K
              refine norm_ (a' := ?_) ?_ ?_
              rotate_left
              ·show Act.put _ (some 37) _ = _
               simp only [Act.put, zsa, zsz, zss, i64_w, i32_w]
               rfl
              refine pure_ (i := 9) (N := some 28) (v := ?_) (a' := ?_) #[true, true, true, true, true, true, true, true, true, true, false, false, true, false, false] rfl rfl (any_of HT_.out (by kernel_rfl)) (fun _ _ _ h => h) (Or.inl ⟨by rfl, ?_⟩) ?_ ?_
              rotate_left
              ·intro w'
               go_simp
               with_reducible rfl
              rotate_left
              ·simp only [Act.put, zsa, zsz, zss, i64_w, i32_w]
               rfl
              refine pure_ (i := 10) (N := some 38) (v := ?_) (a' := ?_) #[true, true, true, true, true, true, true, true, true, true, true, false, true, false, false] rfl rfl (any_of HT_.out (by kernel_rfl)) (fun _ _ _ h => h) (Or.inl ⟨by rfl, ?_⟩) ?_ ?_
              rotate_left
              ·intro w'
               go_simp
               with_reducible rfl
              rotate_left
              ·simp only [Act.put, zsa, zsz, zss, i64_w, i32_w]
               rfl
              refine pure_ (i := 11) (N := some 39) (v := ?_) (a' := ?_) #[true, true, true, true, true, true, true, true, true, true, true, true, true, false, false] rfl rfl (any_of HT_.out (by kernel_rfl)) (fun _ _ _ h => h) (Or.inl ⟨by rfl, ?_⟩) ?_ ?_
              rotate_left
              ·intro w'
               go_simp
               with_reducible rfl
              rotate_left
              ·simp only [Act.put, zsa, zsz, zss, i64_w, i32_w]
               rfl
              exact norm_ (by simp only [putAll, Act.put, zsa, zsz, zss]) (hCont (gb111) _ ⟨hHeld, (by (with_reducible repeat (first | apply zRa | apply zRn | apply zRd)); exact Kd.R_mono HO_7.out (fun _ hk => hk.2)), (by (with_reducible repeat (first | refine zkn ?_ _ | refine zkd ?_ | refine zka ?_ _)); exact BK111.out), GW111.out, GE111.out, (by repeat (first | (with_reducible first | exact HB.out | apply zba | apply zbn | apply zb1 | refine zbs ?_ GE111.out) | exact HB.out))⟩)
             rintro gb111 w29 ⟨hS_, h0_, h1_, h2_, h3_, h4_⟩
             have n0_ : Aside0 (Kd.R k32 32 w29 w.heap.size (fun k_ => k_ ≠ gb111) u7 x7_1) := ⟨h0_⟩
             have n1_ : Aside0 (w29.heap[gb111]? = some (.cells #[.int .i64 0, .int .i64 0] 32 (0, 0))) := ⟨h1_⟩
             have n2_ : Aside0 (w.heap.size ≤ gb111) := ⟨h2_⟩
             have n3_ : Aside0 (w.heap.size ≤ gb111) := ⟨h3_⟩
             have n4_ : Aside0 (Below w.heap.size w w29) := ⟨h4_⟩
             clear HO_7
             clear HB
             clear h0_ h1_ h2_ h3_ h4_
             have HO_7 := n0_
             have BK111 := n1_
             have GW111 := n2_
             have GE111 := n3_
             have HB := n4_
             clear n0_ n1_ n2_ n3_ n4_
             have hHeld : w29.cell? (ad106.add ((x8_1).toNat * 2)) = some (.int .i64 ((rd_T32 l0 x8_1).f0)) ∧ w29.cell? ⟨(ad106.add ((x8_1).toNat * 2)).block, (ad106.add ((x8_1).toNat * 2)).off + 1, none⟩ = some (.int .i64 ((rd_T32 l0 x8_1).f1)) ∧ w29.cell? (ad107.add ((x9_1).toNat * 2)) = some (.int .i64 ((rd_T32 l1 x9_1).f0)) ∧ w29.cell? ⟨(ad107.add ((x9_1).toNat * 2)).block, (ad107.add ((x9_1).toNat * 2)).off + 1, none⟩ = some (.int .i64 ((rd_T32 l1 x9_1).f1)) := hS_
             refine norm_ (a' := ?_) ?_ ?_
             rotate_left
             ·simp only [putAll, Act.put, zsa, zsz, zss]
              rfl
             refine one_ (i := 13) (N := none) #[true, true, true, true, true, true, true, true, true, true, true, true, true, true, false] rfl rfl (one_of HT_.out (by kernel_rfl)) (by decide) (fun K hK => ?_)
             have hs30 : w29.cell? ⟨gb111, 0, none⟩ = some (.int .i64 0) := (zkc BK111.out 0).trans rfl
             have hfs30 := zkz BK111.out 0
             have hs31 : w29.cell? ⟨gb111, 1, none⟩ = some (.int .i64 0) := (zkc BK111.out 1).trans rfl
             have hfs31 := zkz BK111.out 1
             refine skip_ (w1 := ?_) (by rfl) rfl ?_ ?_
             rotate_left
             ·go_simp
              rfl
             refine hK.out _ _ ⟨((cell_far (p := ⟨gb111, _, none⟩) (by first | exact Nat.ne_of_lt (Nat.lt_of_lt_of_le (by have := zwb _ _ hw106_0; first | rwa [add_block] at this | exact this) GW111.out) | (rw [add_block]; exact Nat.ne_of_lt (Nat.lt_of_lt_of_le (by have := zwb _ _ hw106_0; first | rwa [add_block] at this | exact this) GW111.out)) | (show (Addr.add _ _).block ≠ _; rw [add_block]; exact Nat.ne_of_lt (Nat.lt_of_lt_of_le (by have := zwb _ _ hw106_0; first | rwa [add_block] at this | exact this) GW111.out)) | (dsimp only; exact Nat.ne_of_lt (Nat.lt_of_lt_of_le (by have := zwb _ _ hw106_0; first | rwa [add_block] at this | exact this) GW111.out))) _).trans (((cell_far (p := ⟨gb111, _, none⟩) (by first | exact Nat.ne_of_lt (Nat.lt_of_lt_of_le (by have := zwb _ _ hw106_0; first | rwa [add_block] at this | exact this) GW111.out) | (rw [add_block]; exact Nat.ne_of_lt (Nat.lt_of_lt_of_le (by have := zwb _ _ hw106_0; first | rwa [add_block] at this | exact this) GW111.out)) | (show (Addr.add _ _).block ≠ _; rw [add_block]; exact Nat.ne_of_lt (Nat.lt_of_lt_of_le (by have := zwb _ _ hw106_0; first | rwa [add_block] at this | exact this) GW111.out)) | (dsimp only; exact Nat.ne_of_lt (Nat.lt_of_lt_of_le (by have := zwb _ _ hw106_0; first | rwa [add_block] at this | exact this) GW111.out))) _).trans (hHeld.1)))), ((cell_far (p := ⟨gb111, _, none⟩) (by first | exact Nat.ne_of_lt (Nat.lt_of_lt_of_le (by have := zwb _ _ hw106_1; first | rwa [add_block] at this | exact this) GW111.out) | (rw [add_block]; exact Nat.ne_of_lt (Nat.lt_of_lt_of_le (by have := zwb _ _ hw106_1; first | rwa [add_block] at this | exact this) GW111.out)) | (show (Addr.add _ _).block ≠ _; rw [add_block]; exact Nat.ne_of_lt (Nat.lt_of_lt_of_le (by have := zwb _ _ hw106_1; first | rwa [add_block] at this | exact this) GW111.out)) | (dsimp only; exact Nat.ne_of_lt (Nat.lt_of_lt_of_le (by have := zwb _ _ hw106_1; first | rwa [add_block] at this | exact this) GW111.out))) _).trans (((cell_far (p := ⟨gb111, _, none⟩) (by first | exact Nat.ne_of_lt (Nat.lt_of_lt_of_le (by have := zwb _ _ hw106_1; first | rwa [add_block] at this | exact this) GW111.out) | (rw [add_block]; exact Nat.ne_of_lt (Nat.lt_of_lt_of_le (by have := zwb _ _ hw106_1; first | rwa [add_block] at this | exact this) GW111.out)) | (show (Addr.add _ _).block ≠ _; rw [add_block]; exact Nat.ne_of_lt (Nat.lt_of_lt_of_le (by have := zwb _ _ hw106_1; first | rwa [add_block] at this | exact this) GW111.out)) | (dsimp only; exact Nat.ne_of_lt (Nat.lt_of_lt_of_le (by have := zwb _ _ hw106_1; first | rwa [add_block] at this | exact this) GW111.out))) _).trans (hHeld.2.1)))), ((cell_far (p := ⟨gb111, _, none⟩) (by first | exact Nat.ne_of_lt (Nat.lt_of_lt_of_le (by have := zwb _ _ hw107_0; first | rwa [add_block] at this | exact this) GW111.out) | (rw [add_block]; exact Nat.ne_of_lt (Nat.lt_of_lt_of_le (by have := zwb _ _ hw107_0; first | rwa [add_block] at this | exact this) GW111.out)) | (show (Addr.add _ _).block ≠ _; rw [add_block]; exact Nat.ne_of_lt (Nat.lt_of_lt_of_le (by have := zwb _ _ hw107_0; first | rwa [add_block] at this | exact this) GW111.out)) | (dsimp only; exact Nat.ne_of_lt (Nat.lt_of_lt_of_le (by have := zwb _ _ hw107_0; first | rwa [add_block] at this | exact this) GW111.out))) _).trans (((cell_far (p := ⟨gb111, _, none⟩) (by first | exact Nat.ne_of_lt (Nat.lt_of_lt_of_le (by have := zwb _ _ hw107_0; first | rwa [add_block] at this | exact this) GW111.out) | (rw [add_block]; exact Nat.ne_of_lt (Nat.lt_of_lt_of_le (by have := zwb _ _ hw107_0; first | rwa [add_block] at this | exact this) GW111.out)) | (show (Addr.add _ _).block ≠ _; rw [add_block]; exact Nat.ne_of_lt (Nat.lt_of_lt_of_le (by have := zwb _ _ hw107_0; first | rwa [add_block] at this | exact this) GW111.out)) | (dsimp only; exact Nat.ne_of_lt (Nat.lt_of_lt_of_le (by have := zwb _ _ hw107_0; first | rwa [add_block] at this | exact this) GW111.out))) _).trans (hHeld.2.2.1)))), ((cell_far (p := ⟨gb111, _, none⟩) (by first | exact Nat.ne_of_lt (Nat.lt_of_lt_of_le (by have := zwb _ _ hw107_1; first | rwa [add_block] at this | exact this) GW111.out) | (rw [add_block]; exact Nat.ne_of_lt (Nat.lt_of_lt_of_le (by have := zwb _ _ hw107_1; first | rwa [add_block] at this | exact this) GW111.out)) | (show (Addr.add _ _).block ≠ _; rw [add_block]; exact Nat.ne_of_lt (Nat.lt_of_lt_of_le (by have := zwb _ _ hw107_1; first | rwa [add_block] at this | exact this) GW111.out)) | (dsimp only; exact Nat.ne_of_lt (Nat.lt_of_lt_of_le (by have := zwb _ _ hw107_1; first | rwa [add_block] at this | exact this) GW111.out))) _).trans (((cell_far (p := ⟨gb111, _, none⟩) (by first | exact Nat.ne_of_lt (Nat.lt_of_lt_of_le (by have := zwb _ _ hw107_1; first | rwa [add_block] at this | exact this) GW111.out) | (rw [add_block]; exact Nat.ne_of_lt (Nat.lt_of_lt_of_le (by have := zwb _ _ hw107_1; first | rwa [add_block] at this | exact this) GW111.out)) | (show (Addr.add _ _).block ≠ _; rw [add_block]; exact Nat.ne_of_lt (Nat.lt_of_lt_of_le (by have := zwb _ _ hw107_1; first | rwa [add_block] at this | exact this) GW111.out)) | (dsimp only; exact Nat.ne_of_lt (Nat.lt_of_lt_of_le (by have := zwb _ _ hw107_1; first | rwa [add_block] at this | exact this) GW111.out))) _).trans (hHeld.2.2.2))))⟩ (fun hHeld => ?_)
             clear hK K
             refine pure_ (i := 14) (N := some 11) (v := ?_) (a' := ?_) #[true, true, true, true, true, true, true, true, true, true, true, true, true, true, true] rfl rfl (any_of HT_.out (by kernel_rfl)) (fun _ _ _ h => h) (Or.inl ⟨by rfl, ?_⟩) ?_ ?_
             rotate_left
             ·intro w'
              go_simp
              with_reducible rfl
             rotate_left
             ·simp only [Act.put, zsa, zsz, zss, i64_w, i32_w]
              rfl
             refine done_ (done_of HT_.out (by kernel_rfl)) ?_
             have hcz32_0 : w29.cell? ⟨gb111, 0, none⟩ = some (.int .i64 0) := (zkc BK111.out 0).trans rfl
             have hcz32_1 : w29.cell? ⟨gb111, 1, none⟩ = some (.int .i64 0) := (zkc BK111.out 1).trans rfl
             have hfz32_0 := zkz BK111.out 0
             have hfz32_1 := zkz BK111.out 1
             try go_wp2_with (first | ((with_reducible refine gate_builtin (b := .append) (xs := #[.tmp 41, .tmp 43]) rfl ?_); (try (refine gate_guard (by rfl) ?_; dsimp only)); at_builtin; refine Kd.R_append k32 (w0 := w) w.heap.size rfl (.tmp 41) (.tmp 43) 44 32 (.agg #[(.int .i64 0), (.int .i64 0)]) 16 rfl Try.underlying44 info32 rfl (by decide) (by omega) u7 x7_1 (⟨t108, t109⟩ : S32) [.int .i64 t108, .int .i64 t109] (fun k_ => k_ ≠ gb111) (fun _ => False) rfl (by first | (go_simp; done) | (go_simp; rfl)) ?aP (fun _ hk => hk.elim) ?aF ?aO ?aB ?aS ?aL ?_; (case aP => exact k32_mkM _ _ _ (⟨t108, t109⟩ : S32)); (case aB => exact (by repeat (first | (with_reducible first | exact HB.out | apply zba | apply zbn | apply zb1 | refine zbs ?_ GE111.out) | exact HB.out))); (case aF => exact (fun k_ hk => Kd.freshB (g := gb111) (o := .cells #[.int .i64 t108, .int .i64 t109] 32 (0, 0)) (by (with_reducible repeat (first | refine zkn ?_ _ | refine zkd ?_ | refine zka ?_ _)); refine blk_put (cs := #[.int .i64 t108, .int .i64 0]) ?_ 1 _ rfl; (with_reducible repeat (first | refine zkn ?_ _ | refine zkd ?_ | refine zka ?_ _)); refine blk_put (cs := #[.int .i64 0, .int .i64 0]) ?_ 0 _ rfl; (with_reducible repeat (first | refine zkn ?_ _ | refine zkd ?_ | refine zka ?_ _)); exact BK111.out) k_ hk)); (case aO => exact (by (with_reducible repeat (first | apply zRa | apply zRn | apply zRd)); exact Kd.R_mono (Kd.R_far (p := ⟨gb111, 1, none⟩) (Kd.R_far (p := ⟨gb111, 0, none⟩) (Kd.R_mono HO_7.out (fun k_ hk => (⟨hk, hk⟩ : _ ∧ k_ ≠ gb111))) (fun _ hk => hk.2) (.int .i64 t108)) (fun _ hk => hk.2) (.int .i64 t109)) (fun _ hk => hk.1))); (case aS => exact (zbz (by repeat (first | (with_reducible first | exact HB.out | apply zba | apply zbn | apply zb1 | refine zbs ?_ GE111.out) | exact HB.out)))); (case aL => have := LMc15.out; omega); intro v113 w33 ho hb hg hat; rw [← Ny112.out] at ho; have n0_ := zam (blk_grown (g := gb111) (o := .cells #[.int .i64 t108, .int .i64 t109] 32 (0, 0)) (by (with_reducible repeat (first | refine zkn ?_ _ | refine zkd ?_ | refine zka ?_ _)); refine blk_put (cs := #[.int .i64 t108, .int .i64 0]) ?_ 1 _ rfl; (with_reducible repeat (first | refine zkn ?_ _ | refine zkd ?_ | refine zka ?_ _)); refine blk_put (cs := #[.int .i64 0, .int .i64 0]) ?_ 0 _ rfl; (with_reducible repeat (first | refine zkn ?_ _ | refine zkd ?_ | refine zka ?_ _)); exact BK111.out) hg (Kd.R_away HO_7.out (fun _ hk => hk))); have n1_ := zam (hb); have n2_ := zam (ho); clear BK111; clear HB; clear HO_7; have BK111 := n0_; have HB := n1_; have HO114 := n2_; clear n0_ n1_ n2_; clear ho hb hg hat))
             have n0_ := zam (zRd HO114.out)
             have n1_ := zam (zkd BK111.out)
             have n2_ := zam (zb1 HB.out)
             clear HO114
             clear BK111
             clear HB
             have HO114 := n0_
             have BK111 := n1_
             have HB := n2_
             clear n0_ n1_ n2_
             have p115 : 0 ≤ (x8_1 : Int) := zod (by first | (with_reducible assumption) | assumption)
             have q115 : x8_1 < (l0.length : Int) := zod (by first | (with_reducible assumption) | assumption)
             obtain ⟨ad115, e115, hx115_0, hx115_1⟩ := at_T32 HR0.out x8_1 p115 q115
             have hw115_1 := hx115_1
             have hw115_0 := hx115_0
             obtain rfl : ad106 = ad115 := (by injection e115)
             replace hx115_0 := (HB.out.cell (zwb w _ hx115_0)).trans hx115_0
             replace hx115_1 := (HB.out.cell (zwb w _ hx115_1)).trans hx115_1
             replace p115 := eq_true p115
             replace q115 := eq_true q115
             have p116 : 0 ≤ (x9_1 : Int) := zod (by first | (with_reducible assumption) | assumption)
             have q116 : x9_1 < (l1.length : Int) := zod (by first | (with_reducible assumption) | assumption)
             obtain ⟨ad116, e116, hx116_0, hx116_1⟩ := at_T32 HR1.out x9_1 p116 q116
             have hw116_1 := hx116_1
             have hw116_0 := hx116_0
             obtain rfl : ad107 = ad116 := (by injection e116)
             replace hx116_0 := (HB.out.cell (zwb w _ hx116_0)).trans hx116_0
             replace hx116_1 := (HB.out.cell (zwb w _ hx116_1)).trans hx116_1
             replace p116 := eq_true p116
             replace q116 := eq_true q116
             refine start_ (n := 11) (S := fun w' => w'.cell? (ad106.add ((x8_1).toNat * 2)) = some (.int .i64 ((rd_T32 l0 x8_1).f0)) ∧ w'.cell? ⟨(ad106.add ((x8_1).toNat * 2)).block, (ad106.add ((x8_1).toNat * 2)).off + 1, none⟩ = some (.int .i64 ((rd_T32 l0 x8_1).f1)) ∧ w'.cell? (ad107.add ((x9_1).toNat * 2)) = some (.int .i64 ((rd_T32 l1 x9_1).f0)) ∧ w'.cell? ⟨(ad107.add ((x9_1).toNat * 2)).block, (ad107.add ((x9_1).toNat * 2)).off + 1, none⟩ = some (.int .i64 ((rd_T32 l1 x9_1).f1))) (ds := []) #[false, false, false, false, false, false, false, false, false, false, false] (by kernel_rfl) rfl rfl ⟨((HB.out.cell (zwb w _ hw115_0)).trans hw115_0), ((HB.out.cell (zwb w _ hw115_1)).trans hw115_1), ((HB.out.cell (zwb w _ hw116_0)).trans hw116_0), ((HB.out.cell (zwb w _ hw116_1)).trans hw116_1)⟩ (fun hHeld => ?_); refine with_tabW bound_Cut.tab10 bound_Cut.bits10 (fun HT_ HW_ => ?_)
             generalize w33.drew = w34 at HO114 BK111 HB hx115_0 hx115_1 hx116_0 hx116_1 hHeld ⊢
             refine pure_ (i := 0) (N := some 45) (v := ?_) (a' := ?_) #[true, false, false, false, false, false, false, false, false, false, false] rfl rfl (any_of HT_.out (by kernel_rfl)) (fun _ _ _ h => h) (Or.inl ⟨by rfl, ?_⟩) ?_ ?_
             rotate_left
             ·intro w'
              go_simp
              with_reducible rfl
             rotate_left
             ·simp only [Act.put, zsa, zsz, zss, i64_w, i32_w]
              rfl
             refine pure_ (i := 1) (N := some 46) (v := ?_) (a' := ?_) #[true, true, false, false, false, false, false, false, false, false, false] rfl rfl (any_of HT_.out (by kernel_rfl)) (fun _ _ _ h => h) (Or.inl ⟨by rfl, ?_⟩) ?_ ?_
             rotate_left
             ·intro w'
              go_simp
              with_reducible rfl
             rotate_left
             ·simp only [Act.put, zsa, zsz, zss, i64_w, i32_w]
              rfl
             refine pure_ (i := 2) (N := some 47) (v := ?_) (a' := ?_) #[true, true, true, false, false, false, false, false, false, false, false] rfl rfl (any_of HT_.out (by kernel_rfl)) (fun _ _ _ h => h) (Or.inl ⟨by rfl, ?_⟩) ?_ ?_
             rotate_left
             ·intro w'
              go_simp
              with_reducible rfl
             rotate_left
             ·simp only [Act.put, zsa, zsz, zss, i64_w, i32_w]
              rfl
             refine pure_ (i := 3) (N := some 48) (v := ?_) (a' := ?_) #[true, true, true, true, false, false, false, false, false, false, false] rfl rfl (any_of HT_.out (by kernel_rfl)) (fun _ _ _ h => h) (Or.inl ⟨by rfl, ?_⟩) ?_ ?_
             rotate_left
             ·intro w'
              go_simp
              with_reducible rfl
             rotate_left
             ·simp only [Act.put, zsa, zsz, zss, i64_w, i32_w]
              rfl
             refine pure_ (i := 5) (N := some 50) (v := ?_) (a' := ?_) #[true, true, true, true, false, true, false, false, false, false, false] rfl rfl (any_of HT_.out (by kernel_rfl)) (fun _ _ _ h => h) (Or.inl ⟨by rfl, ?_⟩) ?_ ?_
             rotate_left
             ·intro w'
              go_simp
              with_reducible rfl
             rotate_left
             ·simp only [Act.put, zsa, zsz, zss, i64_w, i32_w]
              rfl
             refine pure_ (i := 6) (N := some 51) (v := ?_) (a' := ?_) #[true, true, true, true, false, true, true, false, false, false, false] rfl rfl (any_of HT_.out (by kernel_rfl)) (fun _ _ _ h => h) (Or.inl ⟨by rfl, ?_⟩) ?_ ?_
             rotate_left
             ·intro w'
              go_simp
              with_reducible rfl
             rotate_left
             ·simp only [Act.put, zsa, zsz, zss, i64_w, i32_w]
              rfl
             refine pure_ (i := 7) (N := some 52) (v := ?_) (a' := ?_) #[true, true, true, true, false, true, true, true, false, false, false] rfl rfl (any_of HT_.out (by kernel_rfl)) (fun _ _ _ h => h) (Or.inl ⟨by rfl, ?_⟩) ?_ ?_
             rotate_left
             ·intro w'
              go_simp
              with_reducible rfl
             rotate_left
             ·simp only [Act.put, zsa, zsz, zss, i64_w, i32_w]
              rfl
             refine pure_ (i := 8) (N := some 53) (v := ?_) (a' := ?_) #[true, true, true, true, false, true, true, true, true, false, false] rfl rfl (any_of HT_.out (by kernel_rfl)) (fun _ _ _ h => h) (Or.inl ⟨by rfl, ?_⟩) ?_ ?_
             rotate_left
             ·intro w'
              go_simp
              with_reducible rfl
             rotate_left
             ·simp only [Act.put, zsa, zsz, zss, i64_w, i32_w]
              rfl
             refine take_ (i := 4) (N := some 49) (v := ?_) (a' := ?_) #[true, true, true, true, true, true, true, true, true, false, false] rfl rfl (take_ofW HT_.out HW_.out (by kernel_rfl)) (fun _ _ _ h => h) (Or.inl ⟨by rfl, ?_⟩) hHeld ?_ ?_
             rotate_left
             ·rintro w' ⟨s0, s1, s2, s3⟩
              go_simp
              with_reducible rfl
             rotate_left
             ·simp only [Act.put, zsa, zsz, zss, i64_w, i32_w]
              rfl
             refine take_ (i := 9) (N := some 54) (v := ?_) (a' := ?_) #[true, true, true, true, true, true, true, true, true, true, false] rfl rfl (take_ofW HT_.out HW_.out (by kernel_rfl)) (fun _ _ _ h => h) (Or.inl ⟨by rfl, ?_⟩) hHeld ?_ ?_
             rotate_left
             ·rintro w' ⟨s0, s1, s2, s3⟩
              go_simp
              with_reducible rfl
             rotate_left
             ·simp only [Act.put, zsa, zsz, zss, i64_w, i32_w]
              rfl
             refine pure_ (i := 10) (N := some 55) (v := ?_) (a' := ?_) #[true, true, true, true, true, true, true, true, true, true, true] rfl rfl (any_of HT_.out (by kernel_rfl)) (fun _ _ _ h => h) (Or.inl ⟨by rfl, ?_⟩) ?_ ?_
             rotate_left
             ·intro w'
              go_simp
              with_reducible rfl
             rotate_left
             ·simp only [Act.put, zsa, zsz, zss, i64_w, i32_w]
              rfl
             refine done_ (done_of HT_.out (by kernel_rfl)) ?_
             try go_wp2
             go_roundg kj5
             case measure => have := HK1.out; have := HJ5.out; omega
             case rel => exact ⟨(y112), (x8_1), (wrap64 (x9_1 + 1)), (by first | rfl | (simp; done) | (simp [*]; done)), (by first | rfl | (simp; done) | (simp [*]; done)), H', ⟨by have := HK1.out; have := HJ5.out; omega⟩, ⟨by (with_reducible repeat (first | apply zRa | apply zRn | apply zRd)); exact Kd.R_mono HO114.out (fun _ hk => trivial)⟩, ⟨by repeat (first | (with_reducible first | exact HB.out | apply zba | apply zbn | apply zb1 | refine zbs ?_ GE111.out) | exact HB.out)⟩⟩
            rw [if_neg c15] at H
            exact absurd H (by simp)
           replace c14 := Bool.eq_false_iff.mpr c14
           subst c14
           have H1 : (if ((rd_T32 l0 x8_1).f1) < ((rd_T32 l1 x9_1).f1) then (bound_Cut.l0 kj5 l0 l1 x7_1 (wrap64 (x8_1 + 1)) x9_1) else (bound_Cut.l0 kj5 l0 l1 x7_1 x8_1 (wrap64 (x9_1 + 1)))) = some (r1, r2) := by rw [if_neg (show ¬ (false = true) by decide)] at H; exact H
           clear H
           have H := H1
           clear H1
           by_cases c35 : ((rd_T32 l0 x8_1).f1) < ((rd_T32 l1 x9_1).f1)
           ·rw [if_pos c35] at H
            have c35b0 : decide (((rd_T32 l0 x8_1).f1) < ((rd_T32 l1 x9_1).f1)) = true := zdt c35
            clear c35
            have H' := zam H
            clear H
            try go_wp2
            have n0_ := zam (zRd HO_7.out)
            have n1_ := zam (zb1 HB.out)
            clear HO_7
            clear HB
            have HO_7 := n0_
            have HB := n1_
            clear n0_ n1_
            have p106 : 0 ≤ (x8_1 : Int) := zod (by first | (with_reducible assumption) | assumption)
            have q106 : x8_1 < (l0.length : Int) := zod (by first | (with_reducible assumption) | assumption)
            obtain ⟨ad106, e106, hx106_0, hx106_1⟩ := at_T32 HR0.out x8_1 p106 q106
            have hw106_1 := hx106_1
            have hw106_0 := hx106_0
            cases e106
            replace hx106_0 := (HB.out.cell (zwb w _ hx106_0)).trans hx106_0
            replace hx106_1 := (HB.out.cell (zwb w _ hx106_1)).trans hx106_1
            replace p106 := eq_true p106
            replace q106 := eq_true q106
            have p107 : 0 ≤ (x9_1 : Int) := zod (by first | (with_reducible assumption) | assumption)
            have q107 : x9_1 < (l1.length : Int) := zod (by first | (with_reducible assumption) | assumption)
            obtain ⟨ad107, e107, hx107_0, hx107_1⟩ := at_T32 HR1.out x9_1 p107 q107
            have hw107_1 := hx107_1
            have hw107_0 := hx107_0
            cases e107
            replace hx107_0 := (HB.out.cell (zwb w _ hx107_0)).trans hx107_0
            replace hx107_1 := (HB.out.cell (zwb w _ hx107_1)).trans hx107_1
            replace p107 := eq_true p107
            replace q107 := eq_true q107
            refine start_ (n := 15) (S := fun w' => w'.cell? (ad106.add ((x8_1).toNat * 2)) = some (.int .i64 ((rd_T32 l0 x8_1).f0)) ∧ w'.cell? ⟨(ad106.add ((x8_1).toNat * 2)).block, (ad106.add ((x8_1).toNat * 2)).off + 1, none⟩ = some (.int .i64 ((rd_T32 l0 x8_1).f1)) ∧ w'.cell? (ad107.add ((x9_1).toNat * 2)) = some (.int .i64 ((rd_T32 l1 x9_1).f0)) ∧ w'.cell? ⟨(ad107.add ((x9_1).toNat * 2)).block, (ad107.add ((x9_1).toNat * 2)).off + 1, none⟩ = some (.int .i64 ((rd_T32 l1 x9_1).f1))) (ds := []) #[false, false, false, false, false, false, false, false, false, false, false, false, false, false, false] (by kernel_rfl) rfl rfl ⟨((HB.out.cell (zwb w _ hw106_0)).trans hw106_0), ((HB.out.cell (zwb w _ hw106_1)).trans hw106_1), ((HB.out.cell (zwb w _ hw107_0)).trans hw107_0), ((HB.out.cell (zwb w _ hw107_1)).trans hw107_1)⟩ (fun hHeld => ?_); refine with_tabW bound_Cut.tab7 bound_Cut.bits7 (fun HT_ HW_ => ?_)
            generalize wc.drew = w36 at HO_7 HB hx106_0 hx106_1 hx107_0 hx107_1 hHeld ⊢
            refine pure_ (i := 0) (N := some 29) (v := ?_) (a' := ?_) #[true, false, false, false, false, false, false, false, false, false, false, false, false, false, false] rfl rfl (any_of HT_.out (by kernel_rfl)) (fun _ _ _ h => h) (Or.inl ⟨by rfl, ?_⟩) ?_ ?_
            rotate_left
            ·intro w'
             go_simp
             with_reducible rfl
            rotate_left
            ·simp only [Act.put, zsa, zsz, zss, i64_w, i32_w]
             rfl
            refine pure_ (i := 1) (N := some 30) (v := ?_) (a' := ?_) #[true, true, false, false, false, false, false, false, false, false, false, false, false, false, false] rfl rfl (any_of HT_.out (by kernel_rfl)) (fun _ _ _ h => h) (Or.inl ⟨by rfl, ?_⟩) ?_ ?_
            rotate_left
            ·intro w'
             go_simp
             with_reducible rfl
            rotate_left
            ·simp only [Act.put, zsa, zsz, zss, i64_w, i32_w]
             rfl
            refine pure_ (i := 2) (N := some 31) (v := ?_) (a' := ?_) #[true, true, true, false, false, false, false, false, false, false, false, false, false, false, false] rfl rfl (any_of HT_.out (by kernel_rfl)) (fun _ _ _ h => h) (Or.inl ⟨by rfl, ?_⟩) ?_ ?_
            rotate_left
            ·intro w'
             go_simp
             with_reducible rfl
            rotate_left
            ·simp only [Act.put, zsa, zsz, zss, i64_w, i32_w]
             rfl
            refine pure_ (i := 4) (N := some 33) (v := ?_) (a' := ?_) #[true, true, true, false, true, false, false, false, false, false, false, false, false, false, false] rfl rfl (any_of HT_.out (by kernel_rfl)) (fun _ _ _ h => h) (Or.inl ⟨by rfl, ?_⟩) ?_ ?_
            rotate_left
            ·intro w'
             go_simp
             with_reducible rfl
            rotate_left
            ·simp only [Act.put, zsa, zsz, zss, i64_w, i32_w]
             rfl
            refine pure_ (i := 5) (N := some 34) (v := ?_) (a' := ?_) #[true, true, true, false, true, true, false, false, false, false, false, false, false, false, false] rfl rfl (any_of HT_.out (by kernel_rfl)) (fun _ _ _ h => h) (Or.inl ⟨by rfl, ?_⟩) ?_ ?_
            rotate_left
            ·intro w'
             go_simp
             with_reducible rfl
            rotate_left
            ·simp only [Act.put, zsa, zsz, zss, i64_w, i32_w]
             rfl
            refine pure_ (i := 6) (N := some 35) (v := ?_) (a' := ?_) #[true, true, true, false, true, true, true, false, false, false, false, false, false, false, false] rfl rfl (any_of HT_.out (by kernel_rfl)) (fun _ _ _ h => h) (Or.inl ⟨by rfl, ?_⟩) ?_ ?_
            rotate_left
            ·intro w'
             go_simp
             with_reducible rfl
            rotate_left
            ·simp only [Act.put, zsa, zsz, zss, i64_w, i32_w]
             rfl
            refine take_ (i := 3) (N := some 32) (v := ?_) (a' := ?_) #[true, true, true, true, true, true, true, false, false, false, false, false, false, false, false] rfl rfl (take_ofW HT_.out HW_.out (by kernel_rfl)) (fun _ _ _ h => h) (Or.inl ⟨by rfl, ?_⟩) hHeld ?_ ?_
            rotate_left
            ·rintro w' ⟨s0, s1, s2, s3⟩
             go_simp
             with_reducible rfl
            rotate_left
            ·simp only [Act.put, zsa, zsz, zss, i64_w, i32_w]
             rfl
            refine take_ (i := 7) (N := some 36) (v := ?_) (a' := ?_) #[true, true, true, true, true, true, true, true, false, false, false, false, false, false, false] rfl rfl (take_ofW HT_.out HW_.out (by kernel_rfl)) (fun _ _ _ h => h) (Or.inl ⟨by rfl, ?_⟩) hHeld ?_ ?_
            rotate_left
            ·rintro w' ⟨s0, s1, s2, s3⟩
             go_simp
             with_reducible rfl
            rotate_left
            ·simp only [Act.put, zsa, zsz, zss, i64_w, i32_w]
             rfl
            refine join_ (σ := Nat) 2 #[true, true, true, true, true, true, true, true, true, true, true, true, true, false, false] (fun s_ => [(37, .tuple #[.agg #[.int .i64 t108, .int .i64 t109], .bool false]), (10, .pointer (some ⟨s_, 0, none⟩)), (28, .tuple #[.agg #[.int .i64 t108, .int .i64 t109], .bool false]), (38, .agg #[.int .i64 t108, .int .i64 t109]), (39, .bool false)]) (fun s_ w' => (w'.cell? (ad106.add ((x8_1).toNat * 2)) = some (.int .i64 ((rd_T32 l0 x8_1).f0)) ∧ w'.cell? ⟨(ad106.add ((x8_1).toNat * 2)).block, (ad106.add ((x8_1).toNat * 2)).off + 1, none⟩ = some (.int .i64 ((rd_T32 l0 x8_1).f1)) ∧ w'.cell? (ad107.add ((x9_1).toNat * 2)) = some (.int .i64 ((rd_T32 l1 x9_1).f0)) ∧ w'.cell? ⟨(ad107.add ((x9_1).toNat * 2)).block, (ad107.add ((x9_1).toNat * 2)).off + 1, none⟩ = some (.int .i64 ((rd_T32 l1 x9_1).f1))) ∧ (Kd.R k32 32 w' w.heap.size (fun k_ => k_ ≠ s_) u7 x7_1) ∧ (w'.heap[s_]? = some (.cells #[.int .i64 0, .int .i64 0] 32 (0, 0))) ∧ (w.heap.size ≤ s_) ∧ (w.heap.size ≤ s_) ∧ (Below w.heap.size w w')) ?_ ?_
            rotate_left
            ·intro hCont
             refine two_ (i := 8) (j := 12) (Ni := some 37) (Nj := some 10) #[true, true, true, true, true, true, true, true, true, false, false, false, false, false, false] #[true, true, true, true, true, true, true, true, false, false, false, false, true, false, false] rfl rfl rfl rfl (two_of HT_.out (by kernel_rfl)) (by decide) (by decide) (fun K hK => ?_) (fun K hK => ?_)
             ·skip
              refine goes_ Try.func81 (by kernel_rfl) rfl #[.agg #[.int .i64 ((rd_T32 l0 x8_1).f0), .int .i64 ((rd_T32 l0 x8_1).f1)], .agg #[.int .i64 ((rd_T32 l1 x9_1).f0), .int .i64 ((rd_T32 l1 x9_1).f1)]] (by rfl) rfl rfl (by (try simp only [zmt, List.map_cons, List.map_nil]); first | done | rfl | (simp only [zld, zlt]; rfl)) ?_
              with_reducible refine (bound_meet.calls ((rd_T32 l0 x8_1).f0) ((rd_T32 l0 x8_1).f1) ((rd_T32 l1 x9_1).f0) ((rd_T32 l1 x9_1).f1) t108 t109 false _ A13.out).mono ?_
              rintro e w37 ⟨rfl, hb⟩
              refine ⟨_, rfl, ?_⟩
              have n0_ := zam (Kd.R_below (by (with_reducible repeat (first | apply zRa | apply zRn | apply zRd)); exact HO_7.out) hb)
              have n1_ := zam (zbt (by repeat (first | (with_reducible first | exact HB.out | apply zba | apply zbn | apply zb1) | exact HB.out)) hb)
              clear HO_7
              clear HB
              have HO_7 := n0_
              have HB := n1_
              clear n0_ n1_
              (try clear hb)
              (try clear hb2)
              (try clear hk)
              (try clear hi)
              refine hK.out _ _ ⟨((HB.out.cell (zwb w _ hw106_0)).trans hw106_0), ((HB.out.cell (zwb w _ hw106_1)).trans hw106_1), ((HB.out.cell (zwb w _ hw107_0)).trans hw107_0), ((HB.out.cell (zwb w _ hw107_1)).trans hw107_1)⟩ (fun hHeld => ?_)
              clear hK K
              refine norm_ (a' := ?_) ?_ ?_
              rotate_left
              ·show Act.put _ (some 37) _ = _
               simp only [Act.put, zsa, zsz, zss, i64_w, i32_w]
               rfl
              refine pure_ (i := 9) (N := some 28) (v := ?_) (a' := ?_) #[true, true, true, true, true, true, true, true, true, true, false, false, false, false, false] rfl rfl (any_of HT_.out (by kernel_rfl)) (fun _ _ _ h => h) (Or.inl ⟨by rfl, ?_⟩) ?_ ?_
              rotate_left
              ·intro w'
               go_simp
               with_reducible rfl
              rotate_left
              ·simp only [Act.put, zsa, zsz, zss, i64_w, i32_w]
               rfl
              refine pure_ (i := 10) (N := some 38) (v := ?_) (a' := ?_) #[true, true, true, true, true, true, true, true, true, true, true, false, false, false, false] rfl rfl (any_of HT_.out (by kernel_rfl)) (fun _ _ _ h => h) (Or.inl ⟨by rfl, ?_⟩) ?_ ?_
              rotate_left
              ·intro w'
               go_simp
               with_reducible rfl
              rotate_left
              ·simp only [Act.put, zsa, zsz, zss, i64_w, i32_w]
               rfl
              refine pure_ (i := 11) (N := some 39) (v := ?_) (a' := ?_) #[true, true, true, true, true, true, true, true, true, true, true, true, false, false, false] rfl rfl (any_of HT_.out (by kernel_rfl)) (fun _ _ _ h => h) (Or.inl ⟨by rfl, ?_⟩) ?_ ?_
              rotate_left
              ·intro w'
               go_simp
               with_reducible rfl
              rotate_left
              ·simp only [Act.put, zsa, zsz, zss, i64_w, i32_w]
               rfl
              refine one_ (i := 12) (N := some 10) #[true, true, true, true, true, true, true, true, true, true, true, true, true, false, false] rfl rfl (one_of HT_.out (by kernel_rfl)) (by decide) (fun K hK => ?_)
              refine box_step ?hg (N := 10) ?hd (cs := #[.int .i64 0, .int .i64 0]) (t := 32) ?hr ?_; (case hd => rfl); (case hg => rfl); (case hr => first | (go_simp; done) | (go_simp; rfl))
              intro gb111 hg w38 hbox hb
              have n0_ := zam (Kd.R_below (Kd.R_elderB (by (with_reducible repeat (first | apply zRa | apply zRn | apply zRd)); exact HO_7.out) gb111 (Nat.le_of_eq hg.symm)) hb)
              have n1_ := zam (zbt (by repeat (first | (with_reducible first | exact HB.out | apply zba | apply zbn | apply zb1) | exact HB.out)) hb)
              have n2_ := zam (hbox)
              have n3_ := zam ((by rw [hg]; exact (zbz (by repeat (first | (with_reducible first | exact HB.out | apply zba | apply zbn | apply zb1) | exact HB.out))) : w.heap.size ≤ gb111))
              have n4_ := zam ((by rw [hg]; exact (zbz (by repeat (first | (with_reducible first | exact HB.out | apply zba | apply zbn | apply zb1) | exact HB.out))) : w.heap.size ≤ gb111))
              clear HO_7
              clear HB
              have HO_7 := n0_
              have HB := n1_
              have BK111 := n2_
              have GW111 := n3_
              have GE111 := n4_
              clear n0_ n1_ n2_ n3_ n4_
              clear hb hbox hg
              refine hK.out _ _ ⟨((HB.out.cell (zwb w _ hw106_0)).trans hw106_0), ((HB.out.cell (zwb w _ hw106_1)).trans hw106_1), ((HB.out.cell (zwb w _ hw107_0)).trans hw107_0), ((HB.out.cell (zwb w _ hw107_1)).trans hw107_1)⟩ (fun hHeld => ?_)
              clear hK K
              refine norm_ (a' := ?_) ?_ ?_
              rotate_left
              ·show Act.put _ (some 10) _ = _
               simp only [Act.put, zsa, zsz, zss, i64_w, i32_w]
               rfl
              exact norm_ (by simp only [putAll, Act.put, zsa, zsz, zss]) (hCont (gb111) _ ⟨hHeld, (by (with_reducible repeat (first | apply zRa | apply zRn | apply zRd)); exact Kd.R_mono HO_7.out (fun _ hk => hk.2)), (by (with_reducible repeat (first | refine zkn ?_ _ | refine zkd ?_ | refine zka ?_ _)); exact BK111.out), GW111.out, GE111.out, (by repeat (first | (with_reducible first | exact HB.out | apply zba | apply zbn | apply zb1 | refine zbs ?_ GE111.out) | exact HB.out))⟩)
             skip
             refine box_step ?hg (N := 10) ?hd (cs := #[.int .i64 0, .int .i64 0]) (t := 32) ?hr ?_; (case hd => rfl); (case hg => rfl); (case hr => first | (go_simp; done) | (go_simp; rfl))
             intro gb111 hg w37 hbox hb
             have n0_ := zam (Kd.R_below (Kd.R_elderB (by (with_reducible repeat (first | apply zRa | apply zRn | apply zRd)); exact HO_7.out) gb111 (Nat.le_of_eq hg.symm)) hb)
             have n1_ := zam (zbt (by repeat (first | (with_reducible first | exact HB.out | apply zba | apply zbn | apply zb1) | exact HB.out)) hb)
             have n2_ := zam (hbox)
             have n3_ := zam ((by rw [hg]; exact (zbz (by repeat (first | (with_reducible first | exact HB.out | apply zba | apply zbn | apply zb1) | exact HB.out))) : w.heap.size ≤ gb111))
             have n4_ := zam ((by rw [hg]; exact (zbz (by repeat (first | (with_reducible first | exact HB.out | apply zba | apply zbn | apply zb1) | exact HB.out))) : w.heap.size ≤ gb111))
             clear HO_7
             clear HB
             have HO_7 := n0_
             have HB := n1_
             have BK111 := n2_
             have GW111 := n3_
             have GE111 := n4_
             clear n0_ n1_ n2_ n3_ n4_
             clear hb hbox hg
             refine hK.out _ _ ⟨((HB.out.cell (zwb w _ hw106_0)).trans hw106_0), ((HB.out.cell (zwb w _ hw106_1)).trans hw106_1), ((HB.out.cell (zwb w _ hw107_0)).trans hw107_0), ((HB.out.cell (zwb w _ hw107_1)).trans hw107_1)⟩ (fun hHeld => ?_)
             clear hK K
             refine norm_ (a' := ?_) ?_ ?_
             rotate_left
             ·show Act.put _ (some 10) _ = _
              simp only [Act.put, zsa, zsz, zss, i64_w, i32_w]
              rfl
             refine one_ (i := 8) (N := some 37) #[true, true, true, true, true, true, true, true, true, false, false, false, true, false, false] rfl rfl (one_of HT_.out (by kernel_rfl)) (by decide) (fun K hK => ?_)
             refine goes_ Try.func81 (by kernel_rfl) rfl #[.agg #[.int .i64 ((rd_T32 l0 x8_1).f0), .int .i64 ((rd_T32 l0 x8_1).f1)], .agg #[.int .i64 ((rd_T32 l1 x9_1).f0), .int .i64 ((rd_T32 l1 x9_1).f1)]] (by rfl) rfl rfl (by (try simp only [zmt, List.map_cons, List.map_nil]); first | done | rfl | (simp only [zld, zlt]; rfl)) ?_
             with_reducible refine (bound_meet.calls ((rd_T32 l0 x8_1).f0) ((rd_T32 l0 x8_1).f1) ((rd_T32 l1 x9_1).f0) ((rd_T32 l1 x9_1).f1) t108 t109 false _ A13.out).mono ?_
             rintro e w38 ⟨rfl, hb⟩
             refine ⟨_, rfl, ?_⟩
             have n0_ := zam (Kd.R_below (by (with_reducible repeat (first | apply zRa | apply zRn | apply zRd)); exact HO_7.out) hb)
             have n1_ := zam (zkb (g := gb111) (o := .cells #[.int .i64 0, .int .i64 0] 32 (0, 0)) (by (with_reducible repeat (first | refine zkn ?_ _ | refine zkd ?_ | refine zka ?_ _)); exact BK111.out) hb)
             have n2_ := zam (zbt (by repeat (first | (with_reducible first | exact HB.out | apply zba | apply zbn | apply zb1 | refine zbs ?_ GE111.out) | exact HB.out)) hb)
             clear HO_7
             clear BK111
             clear HB
             have HO_7 := n0_
             have BK111 := n1_
             have HB := n2_
             clear n0_ n1_ n2_
             (try clear hb)
             (try clear hb2)
             (try clear hk)
             (try clear hi)
             refine hK.out _ _ ⟨((HB.out.cell (zwb w _ hw106_0)).trans hw106_0), ((HB.out.cell (zwb w _ hw106_1)).trans hw106_1), ((HB.out.cell (zwb w _ hw107_0)).trans hw107_0), ((HB.out.cell (zwb w _ hw107_1)).trans hw107_1)⟩ (fun hHeld => ?_)
             clear hK K
             refine norm_ (a' := ?_) ?_ ?_
             rotate_left
             ·show Act.put _ (some 37) _ = _
              simp only [Act.put, zsa, zsz, zss, i64_w, i32_w]
              rfl
             refine pure_ (i := 9) (N := some 28) (v := ?_) (a' := ?_) #[true, true, true, true, true, true, true, true, true, true, false, false, true, false, false] rfl rfl (any_of HT_.out (by kernel_rfl)) (fun _ _ _ h => h) (Or.inl ⟨by rfl, ?_⟩) ?_ ?_
             rotate_left
             ·intro w'
              go_simp
              with_reducible rfl
             rotate_left
             ·simp only [Act.put, zsa, zsz, zss, i64_w, i32_w]
              rfl
             refine pure_ (i := 10) (N := some 38) (v := ?_) (a' := ?_) #[true, true, true, true, true, true, true, true, true, true, true, false, true, false, false] rfl rfl (any_of HT_.out (by kernel_rfl)) (fun _ _ _ h => h) (Or.inl ⟨by rfl, ?_⟩) ?_ ?_
             rotate_left
             ·intro w'
              go_simp
              with_reducible rfl
             rotate_left
             ·simp only [Act.put, zsa, zsz, zss, i64_w, i32_w]
              rfl
             refine pure_ (i := 11) (N := some 39) (v := ?_) (a' := ?_) #[true, true, true, true, true, true, true, true, true, true, true, true, true, false, false] rfl rfl (any_of HT_.out (by kernel_rfl)) (fun _ _ _ h => h) (Or.inl ⟨by rfl, ?_⟩) ?_ ?_
             rotate_left
             ·intro w'
              go_simp
              with_reducible rfl
             rotate_left
             ·simp only [Act.put, zsa, zsz, zss, i64_w, i32_w]
              rfl
             exact norm_ (by simp only [putAll, Act.put, zsa, zsz, zss]) (hCont (gb111) _ ⟨hHeld, (by (with_reducible repeat (first | apply zRa | apply zRn | apply zRd)); exact Kd.R_mono HO_7.out (fun _ hk => hk.2)), (by (with_reducible repeat (first | refine zkn ?_ _ | refine zkd ?_ | refine zka ?_ _)); exact BK111.out), GW111.out, GE111.out, (by repeat (first | (with_reducible first | exact HB.out | apply zba | apply zbn | apply zb1 | refine zbs ?_ GE111.out) | exact HB.out))⟩)
            rintro gb111 w39 ⟨hS_, h0_, h1_, h2_, h3_, h4_⟩
            have n0_ : Aside0 (Kd.R k32 32 w39 w.heap.size (fun k_ => k_ ≠ gb111) u7 x7_1) := ⟨h0_⟩
            have n1_ : Aside0 (w39.heap[gb111]? = some (.cells #[.int .i64 0, .int .i64 0] 32 (0, 0))) := ⟨h1_⟩
            have n2_ : Aside0 (w.heap.size ≤ gb111) := ⟨h2_⟩
            have n3_ : Aside0 (w.heap.size ≤ gb111) := ⟨h3_⟩
            have n4_ : Aside0 (Below w.heap.size w w39) := ⟨h4_⟩
            clear HO_7
            clear HB
            clear h0_ h1_ h2_ h3_ h4_
            have HO_7 := n0_
            have BK111 := n1_
            have GW111 := n2_
            have GE111 := n3_
            have HB := n4_
            clear n0_ n1_ n2_ n3_ n4_
            have hHeld : w39.cell? (ad106.add ((x8_1).toNat * 2)) = some (.int .i64 ((rd_T32 l0 x8_1).f0)) ∧ w39.cell? ⟨(ad106.add ((x8_1).toNat * 2)).block, (ad106.add ((x8_1).toNat * 2)).off + 1, none⟩ = some (.int .i64 ((rd_T32 l0 x8_1).f1)) ∧ w39.cell? (ad107.add ((x9_1).toNat * 2)) = some (.int .i64 ((rd_T32 l1 x9_1).f0)) ∧ w39.cell? ⟨(ad107.add ((x9_1).toNat * 2)).block, (ad107.add ((x9_1).toNat * 2)).off + 1, none⟩ = some (.int .i64 ((rd_T32 l1 x9_1).f1)) := hS_
            refine norm_ (a' := ?_) ?_ ?_
            rotate_left
            ·simp only [putAll, Act.put, zsa, zsz, zss]
             rfl
            refine one_ (i := 13) (N := none) #[true, true, true, true, true, true, true, true, true, true, true, true, true, true, false] rfl rfl (one_of HT_.out (by kernel_rfl)) (by decide) (fun K hK => ?_)
            have hs40 : w39.cell? ⟨gb111, 0, none⟩ = some (.int .i64 0) := (zkc BK111.out 0).trans rfl
            have hfs40 := zkz BK111.out 0
            have hs41 : w39.cell? ⟨gb111, 1, none⟩ = some (.int .i64 0) := (zkc BK111.out 1).trans rfl
            have hfs41 := zkz BK111.out 1
            refine skip_ (w1 := ?_) (by rfl) rfl ?_ ?_
            rotate_left
            ·go_simp
             rfl
            refine hK.out _ _ ⟨((cell_far (p := ⟨gb111, _, none⟩) (by first | exact Nat.ne_of_lt (Nat.lt_of_lt_of_le (by have := zwb _ _ hw106_0; first | rwa [add_block] at this | exact this) GW111.out) | (rw [add_block]; exact Nat.ne_of_lt (Nat.lt_of_lt_of_le (by have := zwb _ _ hw106_0; first | rwa [add_block] at this | exact this) GW111.out)) | (show (Addr.add _ _).block ≠ _; rw [add_block]; exact Nat.ne_of_lt (Nat.lt_of_lt_of_le (by have := zwb _ _ hw106_0; first | rwa [add_block] at this | exact this) GW111.out)) | (dsimp only; exact Nat.ne_of_lt (Nat.lt_of_lt_of_le (by have := zwb _ _ hw106_0; first | rwa [add_block] at this | exact this) GW111.out))) _).trans (((cell_far (p := ⟨gb111, _, none⟩) (by first | exact Nat.ne_of_lt (Nat.lt_of_lt_of_le (by have := zwb _ _ hw106_0; first | rwa [add_block] at this | exact this) GW111.out) | (rw [add_block]; exact Nat.ne_of_lt (Nat.lt_of_lt_of_le (by have := zwb _ _ hw106_0; first | rwa [add_block] at this | exact this) GW111.out)) | (show (Addr.add _ _).block ≠ _; rw [add_block]; exact Nat.ne_of_lt (Nat.lt_of_lt_of_le (by have := zwb _ _ hw106_0; first | rwa [add_block] at this | exact this) GW111.out)) | (dsimp only; exact Nat.ne_of_lt (Nat.lt_of_lt_of_le (by have := zwb _ _ hw106_0; first | rwa [add_block] at this | exact this) GW111.out))) _).trans (hHeld.1)))), ((cell_far (p := ⟨gb111, _, none⟩) (by first | exact Nat.ne_of_lt (Nat.lt_of_lt_of_le (by have := zwb _ _ hw106_1; first | rwa [add_block] at this | exact this) GW111.out) | (rw [add_block]; exact Nat.ne_of_lt (Nat.lt_of_lt_of_le (by have := zwb _ _ hw106_1; first | rwa [add_block] at this | exact this) GW111.out)) | (show (Addr.add _ _).block ≠ _; rw [add_block]; exact Nat.ne_of_lt (Nat.lt_of_lt_of_le (by have := zwb _ _ hw106_1; first | rwa [add_block] at this | exact this) GW111.out)) | (dsimp only; exact Nat.ne_of_lt (Nat.lt_of_lt_of_le (by have := zwb _ _ hw106_1; first | rwa [add_block] at this | exact this) GW111.out))) _).trans (((cell_far (p := ⟨gb111, _, none⟩) (by first | exact Nat.ne_of_lt (Nat.lt_of_lt_of_le (by have := zwb _ _ hw106_1; first | rwa [add_block] at this | exact this) GW111.out) | (rw [add_block]; exact Nat.ne_of_lt (Nat.lt_of_lt_of_le (by have := zwb _ _ hw106_1; first | rwa [add_block] at this | exact this) GW111.out)) | (show (Addr.add _ _).block ≠ _; rw [add_block]; exact Nat.ne_of_lt (Nat.lt_of_lt_of_le (by have := zwb _ _ hw106_1; first | rwa [add_block] at this | exact this) GW111.out)) | (dsimp only; exact Nat.ne_of_lt (Nat.lt_of_lt_of_le (by have := zwb _ _ hw106_1; first | rwa [add_block] at this | exact this) GW111.out))) _).trans (hHeld.2.1)))), ((cell_far (p := ⟨gb111, _, none⟩) (by first | exact Nat.ne_of_lt (Nat.lt_of_lt_of_le (by have := zwb _ _ hw107_0; first | rwa [add_block] at this | exact this) GW111.out) | (rw [add_block]; exact Nat.ne_of_lt (Nat.lt_of_lt_of_le (by have := zwb _ _ hw107_0; first | rwa [add_block] at this | exact this) GW111.out)) | (show (Addr.add _ _).block ≠ _; rw [add_block]; exact Nat.ne_of_lt (Nat.lt_of_lt_of_le (by have := zwb _ _ hw107_0; first | rwa [add_block] at this | exact this) GW111.out)) | (dsimp only; exact Nat.ne_of_lt (Nat.lt_of_lt_of_le (by have := zwb _ _ hw107_0; first | rwa [add_block] at this | exact this) GW111.out))) _).trans (((cell_far (p := ⟨gb111, _, none⟩) (by first | exact Nat.ne_of_lt (Nat.lt_of_lt_of_le (by have := zwb _ _ hw107_0; first | rwa [add_block] at this | exact this) GW111.out) | (rw [add_block]; exact Nat.ne_of_lt (Nat.lt_of_lt_of_le (by have := zwb _ _ hw107_0; first | rwa [add_block] at this | exact this) GW111.out)) | (show (Addr.add _ _).block ≠ _; rw [add_block]; exact Nat.ne_of_lt (Nat.lt_of_lt_of_le (by have := zwb _ _ hw107_0; first | rwa [add_block] at this | exact this) GW111.out)) | (dsimp only; exact Nat.ne_of_lt (Nat.lt_of_lt_of_le (by have := zwb _ _ hw107_0; first | rwa [add_block] at this | exact this) GW111.out))) _).trans (hHeld.2.2.1)))), ((cell_far (p := ⟨gb111, _, none⟩) (by first | exact Nat.ne_of_lt (Nat.lt_of_lt_of_le (by have := zwb _ _ hw107_1; first | rwa [add_block] at this | exact this) GW111.out) | (rw [add_block]; exact Nat.ne_of_lt (Nat.lt_of_lt_of_le (by have := zwb _ _ hw107_1; first | rwa [add_block] at this | exact this) GW111.out)) | (show (Addr.add _ _).block ≠ _; rw [add_block]; exact Nat.ne_of_lt (Nat.lt_of_lt_of_le (by have := zwb _ _ hw107_1; first | rwa [add_block] at this | exact this) GW111.out)) | (dsimp only; exact Nat.ne_of_lt (Nat.lt_of_lt_of_le (by have := zwb _ _ hw107_1; first | rwa [add_block] at this | exact this) GW111.out))) _).trans (((cell_far (p := ⟨gb111, _, none⟩) (by first | exact Nat.ne_of_lt (Nat.lt_of_lt_of_le (by have := zwb _ _ hw107_1; first | rwa [add_block] at this | exact this) GW111.out) | (rw [add_block]; exact Nat.ne_of_lt (Nat.lt_of_lt_of_le (by have := zwb _ _ hw107_1; first | rwa [add_block] at this | exact this) GW111.out)) | (show (Addr.add _ _).block ≠ _; rw [add_block]; exact Nat.ne_of_lt (Nat.lt_of_lt_of_le (by have := zwb _ _ hw107_1; first | rwa [add_block] at this | exact this) GW111.out)) | (dsimp only; exact Nat.ne_of_lt (Nat.lt_of_lt_of_le (by have := zwb _ _ hw107_1; first | rwa [add_block] at this | exact this) GW111.out))) _).trans (hHeld.2.2.2))))⟩ (fun hHeld => ?_)
            clear hK K
            refine pure_ (i := 14) (N := some 11) (v := ?_) (a' := ?_) #[true, true, true, true, true, true, true, true, true, true, true, true, true, true, true] rfl rfl (any_of HT_.out (by kernel_rfl)) (fun _ _ _ h => h) (Or.inl ⟨by rfl, ?_⟩) ?_ ?_
            rotate_left
            ·intro w'
             go_simp
             with_reducible rfl
            rotate_left
            ·simp only [Act.put, zsa, zsz, zss, i64_w, i32_w]
             rfl
            refine done_ (done_of HT_.out (by kernel_rfl)) ?_
            try go_wp2
            have n0_ : Aside0 (Kd.R k32 32 ((w39.setCell ⟨gb111, 0, none⟩ (.int .i64 t108)).setCell ⟨gb111, 1, none⟩ (.int .i64 t109)) w.heap.size (fun k_ => k_ ≠ gb111) u7 x7_1) := ⟨by (with_reducible repeat (first | apply zRa | apply zRn | apply zRd)); exact Kd.R_mono (Kd.R_far (p := ⟨gb111, 1, none⟩) (Kd.R_far (p := ⟨gb111, 0, none⟩) (Kd.R_mono HO_7.out (fun k_ hk => (⟨hk, hk⟩ : _ ∧ k_ ≠ gb111))) (fun _ hk => hk.2) (.int .i64 t108)) (fun _ hk => hk.2) (.int .i64 t109)) (fun _ hk => hk.1)⟩
            have n1_ : Aside0 (((w39.setCell ⟨gb111, 0, none⟩ (.int .i64 t108)).setCell ⟨gb111, 1, none⟩ (.int .i64 t109)).heap[gb111]? = some (.cells #[.int .i64 t108, .int .i64 t109] 32 (0, 0))) := ⟨by (with_reducible repeat (first | refine zkn ?_ _ | refine zkd ?_ | refine zka ?_ _)); refine blk_put (cs := #[.int .i64 t108, .int .i64 0]) ?_ 1 _ rfl; (with_reducible repeat (first | refine zkn ?_ _ | refine zkd ?_ | refine zka ?_ _)); refine blk_put (cs := #[.int .i64 0, .int .i64 0]) ?_ 0 _ rfl; (with_reducible repeat (first | refine zkn ?_ _ | refine zkd ?_ | refine zka ?_ _)); exact BK111.out⟩
            have n2_ : Aside0 (Below w.heap.size w ((w39.setCell ⟨gb111, 0, none⟩ (.int .i64 t108)).setCell ⟨gb111, 1, none⟩ (.int .i64 t109))) := ⟨by repeat (first | (with_reducible first | exact HB.out | apply zba | apply zbn | apply zb1 | refine zbs ?_ GE111.out) | exact HB.out)⟩
            (try clear HO_7)
            (try clear BK111)
            (try clear HB)
            generalize ((w39.setCell ⟨gb111, 0, none⟩ (.int .i64 t108)).setCell ⟨gb111, 1, none⟩ (.int .i64 t109)) = w42 at n0_ n1_ n2_ ⊢
            have HO_7 := n0_
            have BK111 := n1_
            have HB := n2_
            clear n0_ n1_ n2_
            have n0_ := zam (zRd HO_7.out)
            have n1_ := zam (zkd BK111.out)
            have n2_ := zam (zb1 HB.out)
            clear HO_7
            clear BK111
            clear HB
            have HO_7 := n0_
            have BK111 := n1_
            have HB := n2_
            clear n0_ n1_ n2_
            have p117 : 0 ≤ (x8_1 : Int) := zod (by first | (with_reducible assumption) | assumption)
            have q117 : x8_1 < (l0.length : Int) := zod (by first | (with_reducible assumption) | assumption)
            obtain ⟨ad117, e117, hx117_0, hx117_1⟩ := at_T32 HR0.out x8_1 p117 q117
            have hw117_1 := hx117_1
            have hw117_0 := hx117_0
            obtain rfl : ad106 = ad117 := (by injection e117)
            replace hx117_0 := (HB.out.cell (zwb w _ hx117_0)).trans hx117_0
            replace hx117_1 := (HB.out.cell (zwb w _ hx117_1)).trans hx117_1
            replace p117 := eq_true p117
            replace q117 := eq_true q117
            have p118 : 0 ≤ (x9_1 : Int) := zod (by first | (with_reducible assumption) | assumption)
            have q118 : x9_1 < (l1.length : Int) := zod (by first | (with_reducible assumption) | assumption)
            obtain ⟨ad118, e118, hx118_0, hx118_1⟩ := at_T32 HR1.out x9_1 p118 q118
            have hw118_1 := hx118_1
            have hw118_0 := hx118_0
            obtain rfl : ad107 = ad118 := (by injection e118)
            replace hx118_0 := (HB.out.cell (zwb w _ hx118_0)).trans hx118_0
            replace hx118_1 := (HB.out.cell (zwb w _ hx118_1)).trans hx118_1
            replace p118 := eq_true p118
            replace q118 := eq_true q118
            refine start_ (n := 11) (S := fun w' => w'.cell? (ad106.add ((x8_1).toNat * 2)) = some (.int .i64 ((rd_T32 l0 x8_1).f0)) ∧ w'.cell? ⟨(ad106.add ((x8_1).toNat * 2)).block, (ad106.add ((x8_1).toNat * 2)).off + 1, none⟩ = some (.int .i64 ((rd_T32 l0 x8_1).f1)) ∧ w'.cell? (ad107.add ((x9_1).toNat * 2)) = some (.int .i64 ((rd_T32 l1 x9_1).f0)) ∧ w'.cell? ⟨(ad107.add ((x9_1).toNat * 2)).block, (ad107.add ((x9_1).toNat * 2)).off + 1, none⟩ = some (.int .i64 ((rd_T32 l1 x9_1).f1))) (ds := []) #[false, false, false, false, false, false, false, false, false, false, false] (by kernel_rfl) rfl rfl ⟨((HB.out.cell (zwb w _ hw117_0)).trans hw117_0), ((HB.out.cell (zwb w _ hw117_1)).trans hw117_1), ((HB.out.cell (zwb w _ hw118_0)).trans hw118_0), ((HB.out.cell (zwb w _ hw118_1)).trans hw118_1)⟩ (fun hHeld => ?_); refine with_tabW bound_Cut.tab10 bound_Cut.bits10 (fun HT_ HW_ => ?_)
            generalize w42.drew = w43 at HO_7 BK111 HB hx117_0 hx117_1 hx118_0 hx118_1 hHeld ⊢
            refine pure_ (i := 0) (N := some 45) (v := ?_) (a' := ?_) #[true, false, false, false, false, false, false, false, false, false, false] rfl rfl (any_of HT_.out (by kernel_rfl)) (fun _ _ _ h => h) (Or.inl ⟨by rfl, ?_⟩) ?_ ?_
            rotate_left
            ·intro w'
             go_simp
             with_reducible rfl
            rotate_left
            ·simp only [Act.put, zsa, zsz, zss, i64_w, i32_w]
             rfl
            refine pure_ (i := 1) (N := some 46) (v := ?_) (a' := ?_) #[true, true, false, false, false, false, false, false, false, false, false] rfl rfl (any_of HT_.out (by kernel_rfl)) (fun _ _ _ h => h) (Or.inl ⟨by rfl, ?_⟩) ?_ ?_
            rotate_left
            ·intro w'
             go_simp
             with_reducible rfl
            rotate_left
            ·simp only [Act.put, zsa, zsz, zss, i64_w, i32_w]
             rfl
            refine pure_ (i := 2) (N := some 47) (v := ?_) (a' := ?_) #[true, true, true, false, false, false, false, false, false, false, false] rfl rfl (any_of HT_.out (by kernel_rfl)) (fun _ _ _ h => h) (Or.inl ⟨by rfl, ?_⟩) ?_ ?_
            rotate_left
            ·intro w'
             go_simp
             with_reducible rfl
            rotate_left
            ·simp only [Act.put, zsa, zsz, zss, i64_w, i32_w]
             rfl
            refine pure_ (i := 3) (N := some 48) (v := ?_) (a' := ?_) #[true, true, true, true, false, false, false, false, false, false, false] rfl rfl (any_of HT_.out (by kernel_rfl)) (fun _ _ _ h => h) (Or.inl ⟨by rfl, ?_⟩) ?_ ?_
            rotate_left
            ·intro w'
             go_simp
             with_reducible rfl
            rotate_left
            ·simp only [Act.put, zsa, zsz, zss, i64_w, i32_w]
             rfl
            refine pure_ (i := 5) (N := some 50) (v := ?_) (a' := ?_) #[true, true, true, true, false, true, false, false, false, false, false] rfl rfl (any_of HT_.out (by kernel_rfl)) (fun _ _ _ h => h) (Or.inl ⟨by rfl, ?_⟩) ?_ ?_
            rotate_left
            ·intro w'
             go_simp
             with_reducible rfl
            rotate_left
            ·simp only [Act.put, zsa, zsz, zss, i64_w, i32_w]
             rfl
            refine pure_ (i := 6) (N := some 51) (v := ?_) (a' := ?_) #[true, true, true, true, false, true, true, false, false, false, false] rfl rfl (any_of HT_.out (by kernel_rfl)) (fun _ _ _ h => h) (Or.inl ⟨by rfl, ?_⟩) ?_ ?_
            rotate_left
            ·intro w'
             go_simp
             with_reducible rfl
            rotate_left
            ·simp only [Act.put, zsa, zsz, zss, i64_w, i32_w]
             rfl
            refine pure_ (i := 7) (N := some 52) (v := ?_) (a' := ?_) #[true, true, true, true, false, true, true, true, false, false, false] rfl rfl (any_of HT_.out (by kernel_rfl)) (fun _ _ _ h => h) (Or.inl ⟨by rfl, ?_⟩) ?_ ?_
            rotate_left
            ·intro w'
             go_simp
             with_reducible rfl
            rotate_left
            ·simp only [Act.put, zsa, zsz, zss, i64_w, i32_w]
             rfl
            refine pure_ (i := 8) (N := some 53) (v := ?_) (a' := ?_) #[true, true, true, true, false, true, true, true, true, false, false] rfl rfl (any_of HT_.out (by kernel_rfl)) (fun _ _ _ h => h) (Or.inl ⟨by rfl, ?_⟩) ?_ ?_
            rotate_left
            ·intro w'
             go_simp
             with_reducible rfl
            rotate_left
            ·simp only [Act.put, zsa, zsz, zss, i64_w, i32_w]
             rfl
            refine take_ (i := 4) (N := some 49) (v := ?_) (a' := ?_) #[true, true, true, true, true, true, true, true, true, false, false] rfl rfl (take_ofW HT_.out HW_.out (by kernel_rfl)) (fun _ _ _ h => h) (Or.inl ⟨by rfl, ?_⟩) hHeld ?_ ?_
            rotate_left
            ·rintro w' ⟨s0, s1, s2, s3⟩
             go_simp
             with_reducible rfl
            rotate_left
            ·simp only [Act.put, zsa, zsz, zss, i64_w, i32_w]
             rfl
            refine take_ (i := 9) (N := some 54) (v := ?_) (a' := ?_) #[true, true, true, true, true, true, true, true, true, true, false] rfl rfl (take_ofW HT_.out HW_.out (by kernel_rfl)) (fun _ _ _ h => h) (Or.inl ⟨by rfl, ?_⟩) hHeld ?_ ?_
            rotate_left
            ·rintro w' ⟨s0, s1, s2, s3⟩
             go_simp
             with_reducible rfl
            rotate_left
            ·simp only [Act.put, zsa, zsz, zss, i64_w, i32_w]
             rfl
            refine pure_ (i := 10) (N := some 55) (v := ?_) (a' := ?_) #[true, true, true, true, true, true, true, true, true, true, true] rfl rfl (any_of HT_.out (by kernel_rfl)) (fun _ _ _ h => h) (Or.inl ⟨by rfl, ?_⟩) ?_ ?_
            rotate_left
            ·intro w'
             go_simp
             with_reducible rfl
            rotate_left
            ·simp only [Act.put, zsa, zsz, zss, i64_w, i32_w]
             rfl
            refine done_ (done_of HT_.out (by kernel_rfl)) ?_
            try go_wp2
            go_roundg kj5
            case measure => have := HK1.out; have := HJ5.out; omega
            case rel => exact ⟨(x7_1), (wrap64 (x8_1 + 1)), (x9_1), (by first | rfl | (simp; done) | (simp [*]; done)), (by first | rfl | (simp; done) | (simp [*]; done)), H', ⟨by have := HK1.out; have := HJ5.out; omega⟩, ⟨by (with_reducible repeat (first | apply zRa | apply zRn | apply zRd)); exact Kd.R_mono HO_7.out (fun _ hk => trivial)⟩, ⟨by repeat (first | (with_reducible first | exact HB.out | apply zba | apply zbn | apply zb1 | refine zbs ?_ GE111.out) | exact HB.out)⟩⟩
           rw [if_neg c35] at H
           have c35b0 : decide (((rd_T32 l0 x8_1).f1) < ((rd_T32 l1 x9_1).f1)) = false := zdf c35
           clear c35
           have H' := zam H
           clear H
           try go_wp2
           have n0_ := zam (zRd HO_7.out)
           have n1_ := zam (zb1 HB.out)
           clear HO_7
           clear HB
           have HO_7 := n0_
           have HB := n1_
           clear n0_ n1_
           have p106 : 0 ≤ (x8_1 : Int) := zod (by first | (with_reducible assumption) | assumption)
           have q106 : x8_1 < (l0.length : Int) := zod (by first | (with_reducible assumption) | assumption)
           obtain ⟨ad106, e106, hx106_0, hx106_1⟩ := at_T32 HR0.out x8_1 p106 q106
           have hw106_1 := hx106_1
           have hw106_0 := hx106_0
           cases e106
           replace hx106_0 := (HB.out.cell (zwb w _ hx106_0)).trans hx106_0
           replace hx106_1 := (HB.out.cell (zwb w _ hx106_1)).trans hx106_1
           replace p106 := eq_true p106
           replace q106 := eq_true q106
           have p107 : 0 ≤ (x9_1 : Int) := zod (by first | (with_reducible assumption) | assumption)
           have q107 : x9_1 < (l1.length : Int) := zod (by first | (with_reducible assumption) | assumption)
           obtain ⟨ad107, e107, hx107_0, hx107_1⟩ := at_T32 HR1.out x9_1 p107 q107
           have hw107_1 := hx107_1
           have hw107_0 := hx107_0
           cases e107
           replace hx107_0 := (HB.out.cell (zwb w _ hx107_0)).trans hx107_0
           replace hx107_1 := (HB.out.cell (zwb w _ hx107_1)).trans hx107_1
           replace p107 := eq_true p107
           replace q107 := eq_true q107
           refine start_ (n := 15) (S := fun w' => w'.cell? (ad106.add ((x8_1).toNat * 2)) = some (.int .i64 ((rd_T32 l0 x8_1).f0)) ∧ w'.cell? ⟨(ad106.add ((x8_1).toNat * 2)).block, (ad106.add ((x8_1).toNat * 2)).off + 1, none⟩ = some (.int .i64 ((rd_T32 l0 x8_1).f1)) ∧ w'.cell? (ad107.add ((x9_1).toNat * 2)) = some (.int .i64 ((rd_T32 l1 x9_1).f0)) ∧ w'.cell? ⟨(ad107.add ((x9_1).toNat * 2)).block, (ad107.add ((x9_1).toNat * 2)).off + 1, none⟩ = some (.int .i64 ((rd_T32 l1 x9_1).f1))) (ds := []) #[false, false, false, false, false, false, false, false, false, false, false, false, false, false, false] (by kernel_rfl) rfl rfl ⟨((HB.out.cell (zwb w _ hw106_0)).trans hw106_0), ((HB.out.cell (zwb w _ hw106_1)).trans hw106_1), ((HB.out.cell (zwb w _ hw107_0)).trans hw107_0), ((HB.out.cell (zwb w _ hw107_1)).trans hw107_1)⟩ (fun hHeld => ?_); refine with_tabW bound_Cut.tab7 bound_Cut.bits7 (fun HT_ HW_ => ?_)
           generalize wc.drew = w44 at HO_7 HB hx106_0 hx106_1 hx107_0 hx107_1 hHeld ⊢
           refine pure_ (i := 0) (N := some 29) (v := ?_) (a' := ?_) #[true, false, false, false, false, false, false, false, false, false, false, false, false, false, false] rfl rfl (any_of HT_.out (by kernel_rfl)) (fun _ _ _ h => h) (Or.inl ⟨by rfl, ?_⟩) ?_ ?_
           rotate_left
           ·intro w'
            go_simp
            with_reducible rfl
           rotate_left
           ·simp only [Act.put, zsa, zsz, zss, i64_w, i32_w]
            rfl
           refine pure_ (i := 1) (N := some 30) (v := ?_) (a' := ?_) #[true, true, false, false, false, false, false, false, false, false, false, false, false, false, false] rfl rfl (any_of HT_.out (by kernel_rfl)) (fun _ _ _ h => h) (Or.inl ⟨by rfl, ?_⟩) ?_ ?_
           rotate_left
           ·intro w'
            go_simp
            with_reducible rfl
           rotate_left
           ·simp only [Act.put, zsa, zsz, zss, i64_w, i32_w]
            rfl
           refine pure_ (i := 2) (N := some 31) (v := ?_) (a' := ?_) #[true, true, true, false, false, false, false, false, false, false, false, false, false, false, false] rfl rfl (any_of HT_.out (by kernel_rfl)) (fun _ _ _ h => h) (Or.inl ⟨by rfl, ?_⟩) ?_ ?_
           rotate_left
           ·intro w'
            go_simp
            with_reducible rfl
           rotate_left
           ·simp only [Act.put, zsa, zsz, zss, i64_w, i32_w]
            rfl
           refine pure_ (i := 4) (N := some 33) (v := ?_) (a' := ?_) #[true, true, true, false, true, false, false, false, false, false, false, false, false, false, false] rfl rfl (any_of HT_.out (by kernel_rfl)) (fun _ _ _ h => h) (Or.inl ⟨by rfl, ?_⟩) ?_ ?_
           rotate_left
           ·intro w'
            go_simp
            with_reducible rfl
           rotate_left
           ·simp only [Act.put, zsa, zsz, zss, i64_w, i32_w]
            rfl
           refine pure_ (i := 5) (N := some 34) (v := ?_) (a' := ?_) #[true, true, true, false, true, true, false, false, false, false, false, false, false, false, false] rfl rfl (any_of HT_.out (by kernel_rfl)) (fun _ _ _ h => h) (Or.inl ⟨by rfl, ?_⟩) ?_ ?_
           rotate_left
           ·intro w'
            go_simp
            with_reducible rfl
           rotate_left
           ·simp only [Act.put, zsa, zsz, zss, i64_w, i32_w]
            rfl
           refine pure_ (i := 6) (N := some 35) (v := ?_) (a' := ?_) #[true, true, true, false, true, true, true, false, false, false, false, false, false, false, false] rfl rfl (any_of HT_.out (by kernel_rfl)) (fun _ _ _ h => h) (Or.inl ⟨by rfl, ?_⟩) ?_ ?_
           rotate_left
           ·intro w'
            go_simp
            with_reducible rfl
           rotate_left
           ·simp only [Act.put, zsa, zsz, zss, i64_w, i32_w]
            rfl
           refine take_ (i := 3) (N := some 32) (v := ?_) (a' := ?_) #[true, true, true, true, true, true, true, false, false, false, false, false, false, false, false] rfl rfl (take_ofW HT_.out HW_.out (by kernel_rfl)) (fun _ _ _ h => h) (Or.inl ⟨by rfl, ?_⟩) hHeld ?_ ?_
           rotate_left
           ·rintro w' ⟨s0, s1, s2, s3⟩
            go_simp
            with_reducible rfl
           rotate_left
           ·simp only [Act.put, zsa, zsz, zss, i64_w, i32_w]
            rfl
           refine take_ (i := 7) (N := some 36) (v := ?_) (a' := ?_) #[true, true, true, true, true, true, true, true, false, false, false, false, false, false, false] rfl rfl (take_ofW HT_.out HW_.out (by kernel_rfl)) (fun _ _ _ h => h) (Or.inl ⟨by rfl, ?_⟩) hHeld ?_ ?_
           rotate_left
           ·rintro w' ⟨s0, s1, s2, s3⟩
            go_simp
            with_reducible rfl
           rotate_left
           ·simp only [Act.put, zsa, zsz, zss, i64_w, i32_w]
            rfl
           refine join_ (σ := Nat) 2 #[true, true, true, true, true, true, true, true, true, true, true, true, true, false, false] (fun s_ => [(37, .tuple #[.agg #[.int .i64 t108, .int .i64 t109], .bool false]), (10, .pointer (some ⟨s_, 0, none⟩)), (28, .tuple #[.agg #[.int .i64 t108, .int .i64 t109], .bool false]), (38, .agg #[.int .i64 t108, .int .i64 t109]), (39, .bool false)]) (fun s_ w' => (w'.cell? (ad106.add ((x8_1).toNat * 2)) = some (.int .i64 ((rd_T32 l0 x8_1).f0)) ∧ w'.cell? ⟨(ad106.add ((x8_1).toNat * 2)).block, (ad106.add ((x8_1).toNat * 2)).off + 1, none⟩ = some (.int .i64 ((rd_T32 l0 x8_1).f1)) ∧ w'.cell? (ad107.add ((x9_1).toNat * 2)) = some (.int .i64 ((rd_T32 l1 x9_1).f0)) ∧ w'.cell? ⟨(ad107.add ((x9_1).toNat * 2)).block, (ad107.add ((x9_1).toNat * 2)).off + 1, none⟩ = some (.int .i64 ((rd_T32 l1 x9_1).f1))) ∧ (Kd.R k32 32 w' w.heap.size (fun k_ => k_ ≠ s_) u7 x7_1) ∧ (w'.heap[s_]? = some (.cells #[.int .i64 0, .int .i64 0] 32 (0, 0))) ∧ (w.heap.size ≤ s_) ∧ (w.heap.size ≤ s_) ∧ (Below w.heap.size w w')) ?_ ?_
           rotate_left
           ·intro hCont
            refine two_ (i := 8) (j := 12) (Ni := some 37) (Nj := some 10) #[true, true, true, true, true, true, true, true, true, false, false, false, false, false, false] #[true, true, true, true, true, true, true, true, false, false, false, false, true, false, false] rfl rfl rfl rfl (two_of HT_.out (by kernel_rfl)) (by decide) (by decide) (fun K hK => ?_) (fun K hK => ?_)
            ·skip
             refine goes_ Try.func81 (by kernel_rfl) rfl #[.agg #[.int .i64 ((rd_T32 l0 x8_1).f0), .int .i64 ((rd_T32 l0 x8_1).f1)], .agg #[.int .i64 ((rd_T32 l1 x9_1).f0), .int .i64 ((rd_T32 l1 x9_1).f1)]] (by rfl) rfl rfl (by (try simp only [zmt, List.map_cons, List.map_nil]); first | done | rfl | (simp only [zld, zlt]; rfl)) ?_
             with_reducible refine (bound_meet.calls ((rd_T32 l0 x8_1).f0) ((rd_T32 l0 x8_1).f1) ((rd_T32 l1 x9_1).f0) ((rd_T32 l1 x9_1).f1) t108 t109 false _ A13.out).mono ?_
             rintro e w45 ⟨rfl, hb⟩
             refine ⟨_, rfl, ?_⟩
             have n0_ := zam (Kd.R_below (by (with_reducible repeat (first | apply zRa | apply zRn | apply zRd)); exact HO_7.out) hb)
             have n1_ := zam (zbt (by repeat (first | (with_reducible first | exact HB.out | apply zba | apply zbn | apply zb1) | exact HB.out)) hb)
             clear HO_7
             clear HB
             have HO_7 := n0_
             have HB := n1_
             clear n0_ n1_
             (try clear hb)
             (try clear hb2)
             (try clear hk)
             (try clear hi)
             refine hK.out _ _ ⟨((HB.out.cell (zwb w _ hw106_0)).trans hw106_0), ((HB.out.cell (zwb w _ hw106_1)).trans hw106_1), ((HB.out.cell (zwb w _ hw107_0)).trans hw107_0), ((HB.out.cell (zwb w _ hw107_1)).trans hw107_1)⟩ (fun hHeld => ?_)
             clear hK K
             refine norm_ (a' := ?_) ?_ ?_
             rotate_left
             ·show Act.put _ (some 37) _ = _
              simp only [Act.put, zsa, zsz, zss, i64_w, i32_w]
              rfl
             refine pure_ (i := 9) (N := some 28) (v := ?_) (a' := ?_) #[true, true, true, true, true, true, true, true, true, true, false, false, false, false, false] rfl rfl (any_of HT_.out (by kernel_rfl)) (fun _ _ _ h => h) (Or.inl ⟨by rfl, ?_⟩) ?_ ?_
             rotate_left
             ·intro w'
              go_simp
              with_reducible rfl
             rotate_left
             ·simp only [Act.put, zsa, zsz, zss, i64_w, i32_w]
              rfl
             refine pure_ (i := 10) (N := some 38) (v := ?_) (a' := ?_) #[true, true, true, true, true, true, true, true, true, true, true, false, false, false, false] rfl rfl (any_of HT_.out (by kernel_rfl)) (fun _ _ _ h => h) (Or.inl ⟨by rfl, ?_⟩) ?_ ?_
             rotate_left
             ·intro w'
              go_simp
              with_reducible rfl
             rotate_left
             ·simp only [Act.put, zsa, zsz, zss, i64_w, i32_w]
              rfl
             refine pure_ (i := 11) (N := some 39) (v := ?_) (a' := ?_) #[true, true, true, true, true, true, true, true, true, true, true, true, false, false, false] rfl rfl (any_of HT_.out (by kernel_rfl)) (fun _ _ _ h => h) (Or.inl ⟨by rfl, ?_⟩) ?_ ?_
             rotate_left
             ·intro w'
              go_simp
              with_reducible rfl
             rotate_left
             ·simp only [Act.put, zsa, zsz, zss, i64_w, i32_w]
              rfl
             refine one_ (i := 12) (N := some 10) #[true, true, true, true, true, true, true, true, true, true, true, true, true, false, false] rfl rfl (one_of HT_.out (by kernel_rfl)) (by decide) (fun K hK => ?_)
             refine box_step ?hg (N := 10) ?hd (cs := #[.int .i64 0, .int .i64 0]) (t := 32) ?hr ?_; (case hd => rfl); (case hg => rfl); (case hr => first | (go_simp; done) | (go_simp; rfl))
             intro gb111 hg w46 hbox hb
             have n0_ := zam (Kd.R_below (Kd.R_elderB (by (with_reducible repeat (first | apply zRa | apply zRn | apply zRd)); exact HO_7.out) gb111 (Nat.le_of_eq hg.symm)) hb)
             have n1_ := zam (zbt (by repeat (first | (with_reducible first | exact HB.out | apply zba | apply zbn | apply zb1) | exact HB.out)) hb)
             have n2_ := zam (hbox)
             have n3_ := zam ((by rw [hg]; exact (zbz (by repeat (first | (with_reducible first | exact HB.out | apply zba | apply zbn | apply zb1) | exact HB.out))) : w.heap.size ≤ gb111))
             have n4_ := zam ((by rw [hg]; exact (zbz (by repeat (first | (with_reducible first | exact HB.out | apply zba | apply zbn | apply zb1) | exact HB.out))) : w.heap.size ≤ gb111))
             clear HO_7
             clear HB
             have HO_7 := n0_
             have HB := n1_
             have BK111 := n2_
             have GW111 := n3_
             have GE111 := n4_
             clear n0_ n1_ n2_ n3_ n4_
             clear hb hbox hg
             refine hK.out _ _ ⟨((HB.out.cell (zwb w _ hw106_0)).trans hw106_0), ((HB.out.cell (zwb w _ hw106_1)).trans hw106_1), ((HB.out.cell (zwb w _ hw107_0)).trans hw107_0), ((HB.out.cell (zwb w _ hw107_1)).trans hw107_1)⟩ (fun hHeld => ?_)
             clear hK K
             refine norm_ (a' := ?_) ?_ ?_
             rotate_left
             ·show Act.put _ (some 10) _ = _
              simp only [Act.put, zsa, zsz, zss, i64_w, i32_w]
              rfl
             exact norm_ (by simp only [putAll, Act.put, zsa, zsz, zss]) (hCont (gb111) _ ⟨hHeld, (by (with_reducible repeat (first | apply zRa | apply zRn | apply zRd)); exact Kd.R_mono HO_7.out (fun _ hk => hk.2)), (by (with_reducible repeat (first | refine zkn ?_ _ | refine zkd ?_ | refine zka ?_ _)); exact BK111.out), GW111.out, GE111.out, (by repeat (first | (with_reducible first | exact HB.out | apply zba | apply zbn | apply zb1 | refine zbs ?_ GE111.out) | exact HB.out))⟩)
            skip
            refine box_step ?hg (N := 10) ?hd (cs := #[.int .i64 0, .int .i64 0]) (t := 32) ?hr ?_; (case hd => rfl); (case hg => rfl); (case hr => first | (go_simp; done) | (go_simp; rfl))
            intro gb111 hg w45 hbox hb
            have n0_ := zam (Kd.R_below (Kd.R_elderB (by (with_reducible repeat (first | apply zRa | apply zRn | apply zRd)); exact HO_7.out) gb111 (Nat.le_of_eq hg.symm)) hb)
            have n1_ := zam (zbt (by repeat (first | (with_reducible first | exact HB.out | apply zba | apply zbn | apply zb1) | exact HB.out)) hb)
            have n2_ := zam (hbox)
            have n3_ := zam ((by rw [hg]; exact (zbz (by repeat (first | (with_reducible first | exact HB.out | apply zba | apply zbn | apply zb1) | exact HB.out))) : w.heap.size ≤ gb111))
            have n4_ := zam ((by rw [hg]; exact (zbz (by repeat (first | (with_reducible first | exact HB.out | apply zba | apply zbn | apply zb1) | exact HB.out))) : w.heap.size ≤ gb111))
            clear HO_7
            clear HB
            have HO_7 := n0_
            have HB := n1_
            have BK111 := n2_
            have GW111 := n3_
            have GE111 := n4_
            clear n0_ n1_ n2_ n3_ n4_
            clear hb hbox hg
            refine hK.out _ _ ⟨((HB.out.cell (zwb w _ hw106_0)).trans hw106_0), ((HB.out.cell (zwb w _ hw106_1)).trans hw106_1), ((HB.out.cell (zwb w _ hw107_0)).trans hw107_0), ((HB.out.cell (zwb w _ hw107_1)).trans hw107_1)⟩ (fun hHeld => ?_)
            clear hK K
            refine norm_ (a' := ?_) ?_ ?_
            rotate_left
            ·show Act.put _ (some 10) _ = _
             simp only [Act.put, zsa, zsz, zss, i64_w, i32_w]
             rfl
            refine one_ (i := 8) (N := some 37) #[true, true, true, true, true, true, true, true, true, false, false, false, true, false, false] rfl rfl (one_of HT_.out (by kernel_rfl)) (by decide) (fun K hK => ?_)
            refine goes_ Try.func81 (by kernel_rfl) rfl #[.agg #[.int .i64 ((rd_T32 l0 x8_1).f0), .int .i64 ((rd_T32 l0 x8_1).f1)], .agg #[.int .i64 ((rd_T32 l1 x9_1).f0), .int .i64 ((rd_T32 l1 x9_1).f1)]] (by rfl) rfl rfl (by (try simp only [zmt, List.map_cons, List.map_nil]); first | done | rfl | (simp only [zld, zlt]; rfl)) ?_
            with_reducible refine (bound_meet.calls ((rd_T32 l0 x8_1).f0) ((rd_T32 l0 x8_1).f1) ((rd_T32 l1 x9_1).f0) ((rd_T32 l1 x9_1).f1) t108 t109 false _ A13.out).mono ?_
            rintro e w46 ⟨rfl, hb⟩
            refine ⟨_, rfl, ?_⟩
            have n0_ := zam (Kd.R_below (by (with_reducible repeat (first | apply zRa | apply zRn | apply zRd)); exact HO_7.out) hb)
            have n1_ := zam (zkb (g := gb111) (o := .cells #[.int .i64 0, .int .i64 0] 32 (0, 0)) (by (with_reducible repeat (first | refine zkn ?_ _ | refine zkd ?_ | refine zka ?_ _)); exact BK111.out) hb)
            have n2_ := zam (zbt (by repeat (first | (with_reducible first | exact HB.out | apply zba | apply zbn | apply zb1 | refine zbs ?_ GE111.out) | exact HB.out)) hb)
            clear HO_7
            clear BK111
            clear HB
            have HO_7 := n0_
            have BK111 := n1_
            have HB := n2_
            clear n0_ n1_ n2_
            (try clear hb)
            (try clear hb2)
            (try clear hk)
            (try clear hi)
            refine hK.out _ _ ⟨((HB.out.cell (zwb w _ hw106_0)).trans hw106_0), ((HB.out.cell (zwb w _ hw106_1)).trans hw106_1), ((HB.out.cell (zwb w _ hw107_0)).trans hw107_0), ((HB.out.cell (zwb w _ hw107_1)).trans hw107_1)⟩ (fun hHeld => ?_)
            clear hK K
            refine norm_ (a' := ?_) ?_ ?_
            rotate_left
            ·show Act.put _ (some 37) _ = _
             simp only [Act.put, zsa, zsz, zss, i64_w, i32_w]
             rfl
            refine pure_ (i := 9) (N := some 28) (v := ?_) (a' := ?_) #[true, true, true, true, true, true, true, true, true, true, false, false, true, false, false] rfl rfl (any_of HT_.out (by kernel_rfl)) (fun _ _ _ h => h) (Or.inl ⟨by rfl, ?_⟩) ?_ ?_
            rotate_left
            ·intro w'
             go_simp
             with_reducible rfl
            rotate_left
            ·simp only [Act.put, zsa, zsz, zss, i64_w, i32_w]
             rfl
            refine pure_ (i := 10) (N := some 38) (v := ?_) (a' := ?_) #[true, true, true, true, true, true, true, true, true, true, true, false, true, false, false] rfl rfl (any_of HT_.out (by kernel_rfl)) (fun _ _ _ h => h) (Or.inl ⟨by rfl, ?_⟩) ?_ ?_
            rotate_left
            ·intro w'
             go_simp
             with_reducible rfl
            rotate_left
            ·simp only [Act.put, zsa, zsz, zss, i64_w, i32_w]
             rfl
            refine pure_ (i := 11) (N := some 39) (v := ?_) (a' := ?_) #[true, true, true, true, true, true, true, true, true, true, true, true, true, false, false] rfl rfl (any_of HT_.out (by kernel_rfl)) (fun _ _ _ h => h) (Or.inl ⟨by rfl, ?_⟩) ?_ ?_
            rotate_left
            ·intro w'
             go_simp
             with_reducible rfl
            rotate_left
            ·simp only [Act.put, zsa, zsz, zss, i64_w, i32_w]
             rfl
            exact norm_ (by simp only [putAll, Act.put, zsa, zsz, zss]) (hCont (gb111) _ ⟨hHeld, (by (with_reducible repeat (first | apply zRa | apply zRn | apply zRd)); exact Kd.R_mono HO_7.out (fun _ hk => hk.2)), (by (with_reducible repeat (first | refine zkn ?_ _ | refine zkd ?_ | refine zka ?_ _)); exact BK111.out), GW111.out, GE111.out, (by repeat (first | (with_reducible first | exact HB.out | apply zba | apply zbn | apply zb1 | refine zbs ?_ GE111.out) | exact HB.out))⟩)
           rintro gb111 w47 ⟨hS_, h0_, h1_, h2_, h3_, h4_⟩
           have n0_ : Aside0 (Kd.R k32 32 w47 w.heap.size (fun k_ => k_ ≠ gb111) u7 x7_1) := ⟨h0_⟩
           have n1_ : Aside0 (w47.heap[gb111]? = some (.cells #[.int .i64 0, .int .i64 0] 32 (0, 0))) := ⟨h1_⟩
           have n2_ : Aside0 (w.heap.size ≤ gb111) := ⟨h2_⟩
           have n3_ : Aside0 (w.heap.size ≤ gb111) := ⟨h3_⟩
           have n4_ : Aside0 (Below w.heap.size w w47) := ⟨h4_⟩
           clear HO_7
           clear HB
           clear h0_ h1_ h2_ h3_ h4_
           have HO_7 := n0_
           have BK111 := n1_
           have GW111 := n2_
           have GE111 := n3_
           have HB := n4_
           clear n0_ n1_ n2_ n3_ n4_
           have hHeld : w47.cell? (ad106.add ((x8_1).toNat * 2)) = some (.int .i64 ((rd_T32 l0 x8_1).f0)) ∧ w47.cell? ⟨(ad106.add ((x8_1).toNat * 2)).block, (ad106.add ((x8_1).toNat * 2)).off + 1, none⟩ = some (.int .i64 ((rd_T32 l0 x8_1).f1)) ∧ w47.cell? (ad107.add ((x9_1).toNat * 2)) = some (.int .i64 ((rd_T32 l1 x9_1).f0)) ∧ w47.cell? ⟨(ad107.add ((x9_1).toNat * 2)).block, (ad107.add ((x9_1).toNat * 2)).off + 1, none⟩ = some (.int .i64 ((rd_T32 l1 x9_1).f1)) := hS_
           refine norm_ (a' := ?_) ?_ ?_
           rotate_left
           ·simp only [putAll, Act.put, zsa, zsz, zss]
            rfl
           refine one_ (i := 13) (N := none) #[true, true, true, true, true, true, true, true, true, true, true, true, true, true, false] rfl rfl (one_of HT_.out (by kernel_rfl)) (by decide) (fun K hK => ?_)
           have hs48 : w47.cell? ⟨gb111, 0, none⟩ = some (.int .i64 0) := (zkc BK111.out 0).trans rfl
           have hfs48 := zkz BK111.out 0
           have hs49 : w47.cell? ⟨gb111, 1, none⟩ = some (.int .i64 0) := (zkc BK111.out 1).trans rfl
           have hfs49 := zkz BK111.out 1
           refine skip_ (w1 := ?_) (by rfl) rfl ?_ ?_
           rotate_left
           ·go_simp
            rfl
           refine hK.out _ _ ⟨((cell_far (p := ⟨gb111, _, none⟩) (by first | exact Nat.ne_of_lt (Nat.lt_of_lt_of_le (by have := zwb _ _ hw106_0; first | rwa [add_block] at this | exact this) GW111.out) | (rw [add_block]; exact Nat.ne_of_lt (Nat.lt_of_lt_of_le (by have := zwb _ _ hw106_0; first | rwa [add_block] at this | exact this) GW111.out)) | (show (Addr.add _ _).block ≠ _; rw [add_block]; exact Nat.ne_of_lt (Nat.lt_of_lt_of_le (by have := zwb _ _ hw106_0; first | rwa [add_block] at this | exact this) GW111.out)) | (dsimp only; exact Nat.ne_of_lt (Nat.lt_of_lt_of_le (by have := zwb _ _ hw106_0; first | rwa [add_block] at this | exact this) GW111.out))) _).trans (((cell_far (p := ⟨gb111, _, none⟩) (by first | exact Nat.ne_of_lt (Nat.lt_of_lt_of_le (by have := zwb _ _ hw106_0; first | rwa [add_block] at this | exact this) GW111.out) | (rw [add_block]; exact Nat.ne_of_lt (Nat.lt_of_lt_of_le (by have := zwb _ _ hw106_0; first | rwa [add_block] at this | exact this) GW111.out)) | (show (Addr.add _ _).block ≠ _; rw [add_block]; exact Nat.ne_of_lt (Nat.lt_of_lt_of_le (by have := zwb _ _ hw106_0; first | rwa [add_block] at this | exact this) GW111.out)) | (dsimp only; exact Nat.ne_of_lt (Nat.lt_of_lt_of_le (by have := zwb _ _ hw106_0; first | rwa [add_block] at this | exact this) GW111.out))) _).trans (hHeld.1)))), ((cell_far (p := ⟨gb111, _, none⟩) (by first | exact Nat.ne_of_lt (Nat.lt_of_lt_of_le (by have := zwb _ _ hw106_1; first | rwa [add_block] at this | exact this) GW111.out) | (rw [add_block]; exact Nat.ne_of_lt (Nat.lt_of_lt_of_le (by have := zwb _ _ hw106_1; first | rwa [add_block] at this | exact this) GW111.out)) | (show (Addr.add _ _).block ≠ _; rw [add_block]; exact Nat.ne_of_lt (Nat.lt_of_lt_of_le (by have := zwb _ _ hw106_1; first | rwa [add_block] at this | exact this) GW111.out)) | (dsimp only; exact Nat.ne_of_lt (Nat.lt_of_lt_of_le (by have := zwb _ _ hw106_1; first | rwa [add_block] at this | exact this) GW111.out))) _).trans (((cell_far (p := ⟨gb111, _, none⟩) (by first | exact Nat.ne_of_lt (Nat.lt_of_lt_of_le (by have := zwb _ _ hw106_1; first | rwa [add_block] at this | exact this) GW111.out) | (rw [add_block]; exact Nat.ne_of_lt (Nat.lt_of_lt_of_le (by have := zwb _ _ hw106_1; first | rwa [add_block] at this | exact this) GW111.out)) | (show (Addr.add _ _).block ≠ _; rw [add_block]; exact Nat.ne_of_lt (Nat.lt_of_lt_of_le (by have := zwb _ _ hw106_1; first | rwa [add_block] at this | exact this) GW111.out)) | (dsimp only; exact Nat.ne_of_lt (Nat.lt_of_lt_of_le (by have := zwb _ _ hw106_1; first | rwa [add_block] at this | exact this) GW111.out))) _).trans (hHeld.2.1)))), ((cell_far (p := ⟨gb111, _, none⟩) (by first | exact Nat.ne_of_lt (Nat.lt_of_lt_of_le (by have := zwb _ _ hw107_0; first | rwa [add_block] at this | exact this) GW111.out) | (rw [add_block]; exact Nat.ne_of_lt (Nat.lt_of_lt_of_le (by have := zwb _ _ hw107_0; first | rwa [add_block] at this | exact this) GW111.out)) | (show (Addr.add _ _).block ≠ _; rw [add_block]; exact Nat.ne_of_lt (Nat.lt_of_lt_of_le (by have := zwb _ _ hw107_0; first | rwa [add_block] at this | exact this) GW111.out)) | (dsimp only; exact Nat.ne_of_lt (Nat.lt_of_lt_of_le (by have := zwb _ _ hw107_0; first | rwa [add_block] at this | exact this) GW111.out))) _).trans (((cell_far (p := ⟨gb111, _, none⟩) (by first | exact Nat.ne_of_lt (Nat.lt_of_lt_of_le (by have := zwb _ _ hw107_0; first | rwa [add_block] at this | exact this) GW111.out) | (rw [add_block]; exact Nat.ne_of_lt (Nat.lt_of_lt_of_le (by have := zwb _ _ hw107_0; first | rwa [add_block] at this | exact this) GW111.out)) | (show (Addr.add _ _).block ≠ _; rw [add_block]; exact Nat.ne_of_lt (Nat.lt_of_lt_of_le (by have := zwb _ _ hw107_0; first | rwa [add_block] at this | exact this) GW111.out)) | (dsimp only; exact Nat.ne_of_lt (Nat.lt_of_lt_of_le (by have := zwb _ _ hw107_0; first | rwa [add_block] at this | exact this) GW111.out))) _).trans (hHeld.2.2.1)))), ((cell_far (p := ⟨gb111, _, none⟩) (by first | exact Nat.ne_of_lt (Nat.lt_of_lt_of_le (by have := zwb _ _ hw107_1; first | rwa [add_block] at this | exact this) GW111.out) | (rw [add_block]; exact Nat.ne_of_lt (Nat.lt_of_lt_of_le (by have := zwb _ _ hw107_1; first | rwa [add_block] at this | exact this) GW111.out)) | (show (Addr.add _ _).block ≠ _; rw [add_block]; exact Nat.ne_of_lt (Nat.lt_of_lt_of_le (by have := zwb _ _ hw107_1; first | rwa [add_block] at this | exact this) GW111.out)) | (dsimp only; exact Nat.ne_of_lt (Nat.lt_of_lt_of_le (by have := zwb _ _ hw107_1; first | rwa [add_block] at this | exact this) GW111.out))) _).trans (((cell_far (p := ⟨gb111, _, none⟩) (by first | exact Nat.ne_of_lt (Nat.lt_of_lt_of_le (by have := zwb _ _ hw107_1; first | rwa [add_block] at this | exact this) GW111.out) | (rw [add_block]; exact Nat.ne_of_lt (Nat.lt_of_lt_of_le (by have := zwb _ _ hw107_1; first | rwa [add_block] at this | exact this) GW111.out)) | (show (Addr.add _ _).block ≠ _; rw [add_block]; exact Nat.ne_of_lt (Nat.lt_of_lt_of_le (by have := zwb _ _ hw107_1; first | rwa [add_block] at this | exact this) GW111.out)) | (dsimp only; exact Nat.ne_of_lt (Nat.lt_of_lt_of_le (by have := zwb _ _ hw107_1; first | rwa [add_block] at this | exact this) GW111.out))) _).trans (hHeld.2.2.2))))⟩ (fun hHeld => ?_)
           clear hK K
           refine pure_ (i := 14) (N := some 11) (v := ?_) (a' := ?_) #[true, true, true, true, true, true, true, true, true, true, true, true, true, true, true] rfl rfl (any_of HT_.out (by kernel_rfl)) (fun _ _ _ h => h) (Or.inl ⟨by rfl, ?_⟩) ?_ ?_
           rotate_left
           ·intro w'
            go_simp
            with_reducible rfl
           rotate_left
           ·simp only [Act.put, zsa, zsz, zss, i64_w, i32_w]
            rfl
           refine done_ (done_of HT_.out (by kernel_rfl)) ?_
           try go_wp2
           have n0_ : Aside0 (Kd.R k32 32 ((w47.setCell ⟨gb111, 0, none⟩ (.int .i64 t108)).setCell ⟨gb111, 1, none⟩ (.int .i64 t109)) w.heap.size (fun k_ => k_ ≠ gb111) u7 x7_1) := ⟨by (with_reducible repeat (first | apply zRa | apply zRn | apply zRd)); exact Kd.R_mono (Kd.R_far (p := ⟨gb111, 1, none⟩) (Kd.R_far (p := ⟨gb111, 0, none⟩) (Kd.R_mono HO_7.out (fun k_ hk => (⟨hk, hk⟩ : _ ∧ k_ ≠ gb111))) (fun _ hk => hk.2) (.int .i64 t108)) (fun _ hk => hk.2) (.int .i64 t109)) (fun _ hk => hk.1)⟩
           have n1_ : Aside0 (((w47.setCell ⟨gb111, 0, none⟩ (.int .i64 t108)).setCell ⟨gb111, 1, none⟩ (.int .i64 t109)).heap[gb111]? = some (.cells #[.int .i64 t108, .int .i64 t109] 32 (0, 0))) := ⟨by (with_reducible repeat (first | refine zkn ?_ _ | refine zkd ?_ | refine zka ?_ _)); refine blk_put (cs := #[.int .i64 t108, .int .i64 0]) ?_ 1 _ rfl; (with_reducible repeat (first | refine zkn ?_ _ | refine zkd ?_ | refine zka ?_ _)); refine blk_put (cs := #[.int .i64 0, .int .i64 0]) ?_ 0 _ rfl; (with_reducible repeat (first | refine zkn ?_ _ | refine zkd ?_ | refine zka ?_ _)); exact BK111.out⟩
           have n2_ : Aside0 (Below w.heap.size w ((w47.setCell ⟨gb111, 0, none⟩ (.int .i64 t108)).setCell ⟨gb111, 1, none⟩ (.int .i64 t109))) := ⟨by repeat (first | (with_reducible first | exact HB.out | apply zba | apply zbn | apply zb1 | refine zbs ?_ GE111.out) | exact HB.out)⟩
           (try clear HO_7)
           (try clear BK111)
           (try clear HB)
           generalize ((w47.setCell ⟨gb111, 0, none⟩ (.int .i64 t108)).setCell ⟨gb111, 1, none⟩ (.int .i64 t109)) = w50 at n0_ n1_ n2_ ⊢
           have HO_7 := n0_
           have BK111 := n1_
           have HB := n2_
           clear n0_ n1_ n2_
           have n0_ := zam (zRd HO_7.out)
           have n1_ := zam (zkd BK111.out)
           have n2_ := zam (zb1 HB.out)
           clear HO_7
           clear BK111
           clear HB
           have HO_7 := n0_
           have BK111 := n1_
           have HB := n2_
           clear n0_ n1_ n2_
           have p117 : 0 ≤ (x8_1 : Int) := zod (by first | (with_reducible assumption) | assumption)
           have q117 : x8_1 < (l0.length : Int) := zod (by first | (with_reducible assumption) | assumption)
           obtain ⟨ad117, e117, hx117_0, hx117_1⟩ := at_T32 HR0.out x8_1 p117 q117
           have hw117_1 := hx117_1
           have hw117_0 := hx117_0
           obtain rfl : ad106 = ad117 := (by injection e117)
           replace hx117_0 := (HB.out.cell (zwb w _ hx117_0)).trans hx117_0
           replace hx117_1 := (HB.out.cell (zwb w _ hx117_1)).trans hx117_1
           replace p117 := eq_true p117
           replace q117 := eq_true q117
           have p118 : 0 ≤ (x9_1 : Int) := zod (by first | (with_reducible assumption) | assumption)
           have q118 : x9_1 < (l1.length : Int) := zod (by first | (with_reducible assumption) | assumption)
           obtain ⟨ad118, e118, hx118_0, hx118_1⟩ := at_T32 HR1.out x9_1 p118 q118
           have hw118_1 := hx118_1
           have hw118_0 := hx118_0
           obtain rfl : ad107 = ad118 := (by injection e118)
           replace hx118_0 := (HB.out.cell (zwb w _ hx118_0)).trans hx118_0
           replace hx118_1 := (HB.out.cell (zwb w _ hx118_1)).trans hx118_1
           replace p118 := eq_true p118
           replace q118 := eq_true q118
           refine start_ (n := 11) (S := fun w' => w'.cell? (ad106.add ((x8_1).toNat * 2)) = some (.int .i64 ((rd_T32 l0 x8_1).f0)) ∧ w'.cell? ⟨(ad106.add ((x8_1).toNat * 2)).block, (ad106.add ((x8_1).toNat * 2)).off + 1, none⟩ = some (.int .i64 ((rd_T32 l0 x8_1).f1)) ∧ w'.cell? (ad107.add ((x9_1).toNat * 2)) = some (.int .i64 ((rd_T32 l1 x9_1).f0)) ∧ w'.cell? ⟨(ad107.add ((x9_1).toNat * 2)).block, (ad107.add ((x9_1).toNat * 2)).off + 1, none⟩ = some (.int .i64 ((rd_T32 l1 x9_1).f1))) (ds := []) #[false, false, false, false, false, false, false, false, false, false, false] (by kernel_rfl) rfl rfl ⟨((HB.out.cell (zwb w _ hw117_0)).trans hw117_0), ((HB.out.cell (zwb w _ hw117_1)).trans hw117_1), ((HB.out.cell (zwb w _ hw118_0)).trans hw118_0), ((HB.out.cell (zwb w _ hw118_1)).trans hw118_1)⟩ (fun hHeld => ?_); refine with_tabW bound_Cut.tab10 bound_Cut.bits10 (fun HT_ HW_ => ?_)
           generalize w50.drew = w51 at HO_7 BK111 HB hx117_0 hx117_1 hx118_0 hx118_1 hHeld ⊢
           refine pure_ (i := 0) (N := some 45) (v := ?_) (a' := ?_) #[true, false, false, false, false, false, false, false, false, false, false] rfl rfl (any_of HT_.out (by kernel_rfl)) (fun _ _ _ h => h) (Or.inl ⟨by rfl, ?_⟩) ?_ ?_
           rotate_left
           ·intro w'
            go_simp
            with_reducible rfl
           rotate_left
           ·simp only [Act.put, zsa, zsz, zss, i64_w, i32_w]
            rfl
           refine pure_ (i := 1) (N := some 46) (v := ?_) (a' := ?_) #[true, true, false, false, false, false, false, false, false, false, false] rfl rfl (any_of HT_.out (by kernel_rfl)) (fun _ _ _ h => h) (Or.inl ⟨by rfl, ?_⟩) ?_ ?_
           rotate_left
           ·intro w'
            go_simp
            with_reducible rfl
           rotate_left
           ·simp only [Act.put, zsa, zsz, zss, i64_w, i32_w]
            rfl
           refine pure_ (i := 2) (N := some 47) (v := ?_) (a' := ?_) #[true, true, true, false, false, false, false, false, false, false, false] rfl rfl (any_of HT_.out (by kernel_rfl)) (fun _ _ _ h => h) (Or.inl ⟨by rfl, ?_⟩) ?_ ?_
           rotate_left
           ·intro w'
            go_simp
            with_reducible rfl
           rotate_left
           ·simp only [Act.put, zsa, zsz, zss, i64_w, i32_w]
            rfl
           refine pure_ (i := 3) (N := some 48) (v := ?_) (a' := ?_) #[true, true, true, true, false, false, false, false, false, false, false] rfl rfl (any_of HT_.out (by kernel_rfl)) (fun _ _ _ h => h) (Or.inl ⟨by rfl, ?_⟩) ?_ ?_
           rotate_left
           ·intro w'
            go_simp
            with_reducible rfl
           rotate_left
           ·simp only [Act.put, zsa, zsz, zss, i64_w, i32_w]
            rfl
           refine pure_ (i := 5) (N := some 50) (v := ?_) (a' := ?_) #[true, true, true, true, false, true, false, false, false, false, false] rfl rfl (any_of HT_.out (by kernel_rfl)) (fun _ _ _ h => h) (Or.inl ⟨by rfl, ?_⟩) ?_ ?_
           rotate_left
           ·intro w'
            go_simp
            with_reducible rfl
           rotate_left
           ·simp only [Act.put, zsa, zsz, zss, i64_w, i32_w]
            rfl
           refine pure_ (i := 6) (N := some 51) (v := ?_) (a' := ?_) #[true, true, true, true, false, true, true, false, false, false, false] rfl rfl (any_of HT_.out (by kernel_rfl)) (fun _ _ _ h => h) (Or.inl ⟨by rfl, ?_⟩) ?_ ?_
           rotate_left
           ·intro w'
            go_simp
            with_reducible rfl
           rotate_left
           ·simp only [Act.put, zsa, zsz, zss, i64_w, i32_w]
            rfl
           refine pure_ (i := 7) (N := some 52) (v := ?_) (a' := ?_) #[true, true, true, true, false, true, true, true, false, false, false] rfl rfl (any_of HT_.out (by kernel_rfl)) (fun _ _ _ h => h) (Or.inl ⟨by rfl, ?_⟩) ?_ ?_
           rotate_left
           ·intro w'
            go_simp
            with_reducible rfl
           rotate_left
           ·simp only [Act.put, zsa, zsz, zss, i64_w, i32_w]
            rfl
           refine pure_ (i := 8) (N := some 53) (v := ?_) (a' := ?_) #[true, true, true, true, false, true, true, true, true, false, false] rfl rfl (any_of HT_.out (by kernel_rfl)) (fun _ _ _ h => h) (Or.inl ⟨by rfl, ?_⟩) ?_ ?_
           rotate_left
           ·intro w'
            go_simp
            with_reducible rfl
           rotate_left
           ·simp only [Act.put, zsa, zsz, zss, i64_w, i32_w]
            rfl
           refine take_ (i := 4) (N := some 49) (v := ?_) (a' := ?_) #[true, true, true, true, true, true, true, true, true, false, false] rfl rfl (take_ofW HT_.out HW_.out (by kernel_rfl)) (fun _ _ _ h => h) (Or.inl ⟨by rfl, ?_⟩) hHeld ?_ ?_
           rotate_left
           ·rintro w' ⟨s0, s1, s2, s3⟩
            go_simp
            with_reducible rfl
           rotate_left
           ·simp only [Act.put, zsa, zsz, zss, i64_w, i32_w]
            rfl
           refine take_ (i := 9) (N := some 54) (v := ?_) (a' := ?_) #[true, true, true, true, true, true, true, true, true, true, false] rfl rfl (take_ofW HT_.out HW_.out (by kernel_rfl)) (fun _ _ _ h => h) (Or.inl ⟨by rfl, ?_⟩) hHeld ?_ ?_
           rotate_left
           ·rintro w' ⟨s0, s1, s2, s3⟩
            go_simp
            with_reducible rfl
           rotate_left
           ·simp only [Act.put, zsa, zsz, zss, i64_w, i32_w]
            rfl
           refine pure_ (i := 10) (N := some 55) (v := ?_) (a' := ?_) #[true, true, true, true, true, true, true, true, true, true, true] rfl rfl (any_of HT_.out (by kernel_rfl)) (fun _ _ _ h => h) (Or.inl ⟨by rfl, ?_⟩) ?_ ?_
           rotate_left
           ·intro w'
            go_simp
            with_reducible rfl
           rotate_left
           ·simp only [Act.put, zsa, zsz, zss, i64_w, i32_w]
            rfl
           refine done_ (done_of HT_.out (by kernel_rfl)) ?_
           try go_wp2
           go_roundg kj5
           case measure => have := HK1.out; have := HJ5.out; omega
           case rel => exact ⟨(x7_1), (x8_1), (wrap64 (x9_1 + 1)), (by first | rfl | (simp; done) | (simp [*]; done)), (by first | rfl | (simp; done) | (simp [*]; done)), H', ⟨by have := HK1.out; have := HJ5.out; omega⟩, ⟨by (with_reducible repeat (first | apply zRa | apply zRn | apply zRd)); exact Kd.R_mono HO_7.out (fun _ hk => trivial)⟩, ⟨by repeat (first | (with_reducible first | exact HB.out | apply zba | apply zbn | apply zb1 | refine zbs ?_ GE111.out) | exact HB.out)⟩⟩
          rw [if_neg c12] at H
          exact absurd H (by simp)
         rw [if_neg c11] at H
         exact absurd H (by simp)
        rw [if_neg c10] at H
        exact absurd H (by simp)
       rw [if_neg c9] at H
       exact absurd H (by simp)
      replace c8 := Bool.eq_false_iff.mpr c8
      subst c8
      have H1 : ((bound_few.f x7_1).bind fun bt102 => (some (bt102.1, bt102.2))) = some (r1, r2) := by rw [if_neg (show ¬ (false = true) by decide)] at H; exact H
      clear H
      have H := H1
      clear H1
      replace H := Option.bind_eq_some_iff.mp H
      obtain ⟨⟨t102, t105⟩, A520, H⟩ := H
      replace H : (some (t102, t105)) = some (r1, r2) := H
      have A52 := zam A520
      clear A520
      simp only [Option.some.injEq, Prod.mk.injEq] at H
      obtain ⟨rfl, rfl⟩ := H
      obtain ⟨Ao53, co53, eo53⟩ := Kd.R_slice HO_7.out
      subst eo53
      go_wp2_with (first | ((with_reducible refine zgc (f := 89) rfl ?_); refine goesL_ (some 61) rfl rfl Try.func89 (by kernel_rfl) rfl #[.slice Ao53 x7_1.length co53] rfl (by (try simp only [zmt, List.map_cons, List.map_nil]); first | done | rfl | (simp only [zld, zlt]; rfl)) ?_; (with_reducible refine (bound_few.calls (fun k_ => some k_ = (.slice Ao53 x7_1.length co53 : Value).ownBlock) (.slice Ao53 x7_1.length co53) x7_1 t102 t105 w _ ?side1 ?side2 A52.out).mono ?_); (case side1 => repeat (first | (with_reducible first | exact HB.out | apply zba | apply zbn | apply zb1) | exact HB.out)); (case side2 => exact Kd.R_tight rfl HO_7.out); rintro e w54 ⟨v103, rfl, ho0, hb, hkp⟩; refine ⟨_, rfl, ?_⟩; have n0_ := zam (Kd.R_mono (ok' := fun k_ => True) ho0 (fun k_ hk_ => trivial)); have n1_ := zam (hb); clear HB; clear HO_7; have HO104 := n0_; have HB := n1_; clear n0_ n1_; (try clear hb); (try clear hkp); (try clear ho0)))
      go_ret2
      exact ⟨_, by first | rfl | (simp [errW_none, errW_some] <;> rfl) | (simp [*, errW_none, errW_some] <;> rfl), by (with_reducible repeat (first | apply zRa | apply zRn | apply zRd)); exact HO104.out, by repeat (first | (with_reducible first | exact HB.out | apply zba | apply zbn | apply zb1) | exact HB.out)⟩
 rw [if_neg c4] at H
 have c4b0 : (t101 == 0) = false := beq_eq_false_iff_ne.mpr c4
 have c4b1 : (t101 != 0) = true := bne_iff_ne.mpr c4
 simp only [Option.some.injEq, Prod.mk.injEq] at H
 obtain ⟨rfl, rfl⟩ := H
 go_enter Try.func41, Try.ntmps41
 go_wp2_with (first | ((with_reducible refine zgc (f := 88) rfl ?_); refine goesL_ (some 14) rfl rfl Try.func88 (by kernel_rfl) rfl #[.slice A0 l0.length c0, .slice A1 l1.length c1] rfl (by (try simp only [zmt, List.map_cons, List.map_nil]); first | done | rfl | (simp only [zld, zlt]; rfl)) ?_; (with_reducible refine (bound_checkSets.calls k _ _ l0 _ _ l1 t101 _ ?side1 ?side2 ?side3 ?side4 A3.out).mono ?_); (case side1 => repeat (first | exact HR0.out | (with_reducible refine Kd.C_alloc ?_ _) | (with_reducible refine Kd.C_drewN ?_ _) | (with_reducible refine Kd.C_drew ?_))); (case side2 => exact HC0.out); (case side3 => repeat (first | exact HR1.out | (with_reducible refine Kd.C_alloc ?_ _) | (with_reducible refine Kd.C_drewN ?_ _) | (with_reducible refine Kd.C_drew ?_))); (case side4 => exact HC1.out); rintro e w55 ⟨rfl, hb⟩; refine ⟨_, rfl, ?_⟩; have n0_ := zam (zbt (by repeat (first | (with_reducible first | exact HB.out | apply zba | apply zbn | apply zb1) | exact HB.out)) hb); clear HB; have HB := n0_; clear n0_; (try clear hb); (try clear hb2); (try clear hk); (try clear hi)))
 go_ret2
 exact ⟨_, by first | rfl | (simp [errW_none, errW_some] <;> rfl) | (simp [*, errW_none, errW_some] <;> rfl), by first | exact Kd.R_nil _ _ _ _ _ | exact Kd.N_nil _ _ _ _ _ | exact Kd.V_nil _ _ _ _ _ | exact Kd.Q_nil _ _ _ _ _ | exact Kd.S_nil _ _ _ _ _, by repeat (first | (with_reducible first | exact HB.out | apply zba | apply zbn | apply zb1) | exact HB.out)⟩
end Go.Proofs.Ytlkafgibgipodaa.P
