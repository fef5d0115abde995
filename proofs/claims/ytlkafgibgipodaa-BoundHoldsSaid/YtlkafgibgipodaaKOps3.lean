/- The operations of layer 1, walked and in closed form. Part 4 of 4. -/
-- Put together by wip/tools/shake.py, a program of this work: out of the words that the kit's print tool (print.sh) writes for a claim and what wip/tools/xprint.py prints, those that this claim reaches, and this work's own texts.
import Derived.Laws.EntriesVeiled
import Derived.Shelf.SlSortCmp.WholeK
import Derived.RangeFuncBox
import Derived.RangeFuncNested
import Derived.RangeFuncBound
import Derived.RangeFuncCalls
import Derived.RangeFuncLeaves
import Derived.Shelf.Abstract
import Derived.Shelf.RegionOpen
import Derived.OwnWalkIn
import Derived.TacticsInMore
import Derived.LoopNIn
import Derived.LoopIn
import Derived.Sort.QuietIn
import Derived.Deep.Slices
import Derived.OpenShut
import Derived.Test.YtlkafgibgipodaaKOps2
namespace Go.Proofs.Ytlkafgibgipodaa.P
open Go.RowKit Go.Proofs.YtlkafgibgipodaaW.PrintWords Go.Proofs.YtlkafgibgipodaaW.PrintLast Go.Proofs.YtlkafgibgipodaaW.PrintMore
attribute [local go_sem] max2_int min2_int max_two min_two max_three min_three max_four min_four   -- for this text's walks alone
set_option linter.unusedVariables false
set_option linter.unusedSimpArgs false
open Go.Shelf Go.Lib Go.Sort
instance : Inhabited S32 := ⟨z32⟩
def encSpan (x : S32) : List Value := [.int .i64 x.f0, .int .i64 x.f1]
theorem spanCmp_lt (x y : S32) : ltOf spanCmp x y = decide (x.f0 < y.f0) := by
 unfold ltOf spanCmp
 by_cases h1 : x.f0 < y.f0
 ·simp [h1]
 by_cases h2 : y.f0 < x.f0 <;> simp [h1, h2]
theorem spanSwo : SWO (ltOf spanCmp) where
 irrefl x := by rw [spanCmp_lt]; simp
 trans x y z h1 h2 := by rw [spanCmp_lt] at *; simp at *; omega
 ntrans x y z h1 h2 := by rw [spanCmp_lt] at *; simp at *; omega
theorem spanLays (blk off size : Nat) (w : World) : CmpLays Try.prog 97 #[] encSpan 2 spanCmp blk off size w :=
 fun _ _ _ _ x y => cmp_grow x y _
def flatSpan (xs : List S32) : List Value := xs.flatMap encSpan
theorem flat_get : ∀ (xs : List S32) (t : Nat), t < xs.length * 2 → (flatSpan xs)[t]? = some (encSpan (xs[t / 2]?.getD z32))[t % 2]!
 | [], t, h => by simp at h
 | x :: xs, 0, _ => by simp [flatSpan, encSpan]
 | x :: xs, 1, _ => by simp [flatSpan, encSpan]
 | x :: xs, t + 2, h => by
  have ih := flat_get xs t (by simp only [List.length_cons] at h; omega)
  have e1 : (t + 2) / 2 = t / 2 + 1 := by omega
  have e2 : (t + 2) % 2 = t % 2 := by omega
  rw [e1, e2, List.getElem?_cons_succ, ← ih]
  simp [flatSpan, encSpan]
theorem flat_length : ∀ xs : List S32, (flatSpan xs).length = xs.length * 2
 | [] => rfl
 | x :: xs => by
  have := flat_length xs
  simp only [flatSpan, List.flatMap_cons, List.length_append, List.length_cons, encSpan, List.length_nil] at this ⊢
  omega
theorem flatK_span (d : Array S32) : (flatK encSpan 2 d).toList = flatSpan d.toList := by
 apply List.ext_getElem?
 intro t
 by_cases h : t < d.size * 2
 ·rw [flat_get d.toList t (by simpa using h)]
  have hs : t < (flatK encSpan 2 d).size := by simpa using h
  have h1 := get_flatK encSpan 2 d t h
  rw [getElem!_pos _ t hs] at h1
  have hd : t / 2 < d.size := by omega
  rw [Array.getElem?_toList, Array.getElem?_eq_getElem hs, h1]
  simp [hd]
 rw [List.getElem?_eq_none (by simpa using Nat.le_of_not_lt h), List.getElem?_eq_none (by rw [flat_length]; simpa using Nat.le_of_not_lt h)]
theorem own_of_span {e : Nat} {w : World} {base : Nat} {ok : Nat → Prop} {v : Value} {xs : List S32} (h : Kd.R k32 e w base ok v xs) : w.ownsRow base e 2 v xs.length (flatSpan xs) := by
 obtain ⟨_, inner, ho, hr⟩ := h
 have : inner = flatSpan xs := by
  apply List.ext_getElem?
  intro t
  have hil : inner.length = xs.length * 2 := ho.1
  by_cases ht : t < xs.length * 2
  ·rw [flat_get xs t ht]
   have hj : t / 2 < xs.length := by omega
   have h2 := k32_openM (hr.2 (t / 2) xs[t / 2] (List.getElem?_eq_getElem hj))
   have h3 : ((inner.drop (t / 2 * 2)).take 2)[t % 2]? = (encSpan (xs[t / 2]?.getD z32))[t % 2]? := by
    have : (inner.drop (t / 2 * 2)).take 2 = [.int .i64 (xs[t / 2]).f0, .int .i64 (xs[t / 2]).f1] := h2
    rw [this, List.getElem?_eq_getElem hj]
    rfl
   rw [List.getElem?_take, if_pos (by omega), List.getElem?_drop, show t / 2 * 2 + t % 2 = t by omega] at h3
   rw [h3]
   have : t % 2 < 2 := by omega
   rcases (show t % 2 = 0 ∨ t % 2 = 1 by omega) with q | q <;> rw [q] <;> rfl
  rw [List.getElem?_eq_none (by omega), List.getElem?_eq_none (by rw [flat_length]; omega)]
 rw [← this]
 exact ho
theorem span_of_own {e : Nat} {w : World} {base : Nat} {ok : Nat → Prop} {v : Value} {xs : List S32} (h : w.ownsRow base e 2 v xs.length (flatSpan xs)) (hok : ∀ k, v.ownBlock = some k → ok k) : Kd.R k32 e w base ok v xs := by
 refine ⟨hok, _, h, ?_⟩
 refine ⟨flat_length xs, fun j p hj => ?_⟩
 obtain ⟨hl, hp⟩ := List.getElem?_eq_some_iff.1 hj
 have : ((flatSpan xs).drop (j * 2)).take 2 = [.int .i64 p.f0, .int .i64 p.f1] := by
  apply List.ext_getElem?
  intro t
  by_cases ht : t < 2
  ·rw [List.getElem?_take, if_pos ht, List.getElem?_drop, flat_get xs _ (by omega), show (j * 2 + t) / 2 = j by omega, show (j * 2 + t) % 2 = t by omega, hj]
   rcases (show t = 0 ∨ t = 1 by omega) with rfl | rfl <;> rfl
  rw [List.getElem?_eq_none (by rw [zlt]; omega), List.getElem?_eq_none (by simp; omega)]
 show k32.M _ _ _ p (((flatSpan xs).drop (j * 2)).take 2)
 rw [this]
 exact k32_mkM _ _ _ p
theorem holds_span {w : World} {g : Nat} {cur : Array Value} {e : Nat} {xs : List S32} (hcur : w.heap[g]? = some (.cells cur e (0, 0))) (htake : cur.toList.take (xs.length * 2) = flatSpan xs) : HoldsK encSpan 2 w g 0 xs.toArray := by
 intro j hj
 have hj2 : j < xs.length * 2 := by simpa using hj
 refine ⟨?_, by rw [Nat.zero_add]; exact zkz hcur j⟩
 have h1 : cur[j]? = (flatSpan xs)[j]? := by
  rw [← htake, List.getElem?_take, if_pos hj2, Array.getElem?_toList]
 have h2 : (flatK encSpan 2 xs.toArray).toList[j]? = (flatSpan xs)[j]? := by rw [flatK_span]
 rw [Nat.zero_add, (zkc hcur j).trans h1, ← h2, Array.getElem?_toList, Array.getElem?_eq_getElem hj, getElem!_pos _ j hj]
 rfl
theorem sorted_row {w : World} {g : Nat} {cur : Array Value} {e : Nat} (hcur : w.heap[g]? = some (.cells cur e (0, 0))) (n : Nat) (d : Array S32) (os : Array Obj) :
  (sortWorldK encSpan 2 w g 0 n d os).heap[g]? = some (.cells (putCells id 0 (flatK encSpan 2 d) cur) e (0, 0)) := by
 have h1 : (putRowK encSpan 2 (Sort.ahead w n) g 0 d).heap[g]? = some (.cells (putCells id 0 (flatK encSpan 2 d) cur) e (0, 0)) := by
  show ((Sort.ahead w n).heap.modify g _)[g]? = _
  rw [Array.getElem?_modify, if_pos rfl]
  show Option.map _ (w.heap[g]?) = _
  rw [hcur]
  rfl
 show ((putRowK encSpan 2 (Sort.ahead w n) g 0 d).heap ++ os)[g]? = _
 rw [Array.getElem?_append_left (blk_lt h1)]
 exact h1
theorem sorted_below {B : Nat} {w0 w : World} {g : Nat} (hb : Below B w0 w) (hg : B ≤ g) (hB : B ≤ w.heap.size) (n : Nat) (d : Array S32) (os : Array Obj) : Below B w0 (sortWorldK encSpan 2 w g 0 n d os) := by
 refine hb.trans ⟨rfl, rfl, rfl, ?_, fun k hk => ?_⟩
 ·show w.heap.size ≤ ((putRowK encSpan 2 (Sort.ahead w n) g 0 d).heap ++ os).size
  rw [Array.size_append, size_putRowK]
  exact Nat.le_add_right _ _
 show ((putRowK encSpan 2 (Sort.ahead w n) g 0 d).heap ++ os)[k]? = _
 rw [Array.getElem?_append_left (by rw [size_putRowK]; exact Nat.lt_of_lt_of_le hk hB)]
 show ((Sort.ahead w n).heap.modify g _)[k]? = _
 rw [Array.getElem?_modify, if_neg (by omega)]
 rfl
theorem put_take (F cur : Array Value) (h : F.size ≤ cur.size) : (putCells id 0 F cur).toList.take F.size = F.toList := by
 apply List.ext_getElem?
 intro j
 by_cases hj : j < F.size
 ·rw [List.getElem?_take, if_pos hj, Array.getElem?_toList, Array.getElem?_toList]
  unfold putCells
  rw [Array.getElem?_mapIdx, Array.getElem?_eq_getElem (by omega), Option.map_some, if_pos ⟨Nat.zero_le _, by omega⟩, Nat.sub_zero, Array.getElem?_eq_getElem hj, getElem!_pos _ j hj]
  rfl
 rw [List.getElem?_eq_none (by rw [zlt]; omega), List.getElem?_eq_none (by simpa using Nat.le_of_not_lt hj)]
set_option maxHeartbeats 4000000 in
theorem sort_spans_some (w0 w : World) (v : Value) (xs : List S32) (hR : Kd.R k32 32 w w0.heap.size (fun _ => True) v xs) (hB : Below w0.heap.size w0 w) (hl : xs.length < 2305843009213693952) (hp : 0 < xs.length) :
  Calls Try.prog 96 #[v, .func (.func 97) #[] #[]] w fun e w' => e = .returned (.tuple #[]) ∧ ∃ ys : List S32, ys.Perm xs ∧ ys.Pairwise (fun a b => ¬ b.f0 < a.f0) ∧ Kd.R k32 32 w' w0.heap.size (fun _ => True) v ys ∧ Below w0.heap.size w0 w' := by
 have ho := own_of_span hR
 obtain ⟨hol, ho2⟩ := ho
 rcases ho2 with ⟨_, h0⟩ | ⟨g, cap, cur, rfl, hg, hcur, hn, hmx, hsz, htake⟩
 ·omega
 have eg : ∀ args w, (callFunc 97 args).run Try.prog w = .ok (.enter 97 args) w := enters_of Try.func97 (by kernel_rfl) rfl
 have hH := holds_span hcur htake
 have hcon := AnyQ.slices_SortFunc laySortSpan 2 Try.isAgg32 Try.sizeOf32 encSpan (fun _ => rfl) (fun x v hv => by simp [encSpan] at hv; rcases hv with rfl | rfl <;> rfl) spanCmp spanSwo 97 #[] g 0 cap xs.toArray w eg (spanLays g 0 xs.toArray.size w) hH (blk_lt hcur) (by simpa using (show xs.length < 4611686018427387904 by omega))
 change Calls Try.prog 96 _ _ _ at hcon
 refine hcon.mono ?_
 rintro e w' ⟨rfl, d', n, os, ⟨hs1, _, hs2⟩, hso, rfl⟩
 have hsx : d'.size = xs.length := by simpa using hs1
 have e1 : d'.extract 0 xs.toArray.size = d' := by
  have : xs.toArray.size = d'.size := hs1.symm
  rw [this, Array.extract_size]
 have e2 : xs.toArray.extract 0 xs.toArray.size = xs.toArray := Array.extract_size
 rw [e1, e2] at hs2
 refine ⟨rfl, d'.toList, hs2, ?_, ?_, sorted_below hB hg (zbz hB) n d' os⟩
 ·rw [List.pairwise_iff_getElem]
  intro i j hi hj hij hlt
  have hi' : i < d'.size := by simpa using hi
  have hj' : j < d'.size := by simpa using hj
  have h := hso i j (Nat.zero_le _) hij (by simpa [hsx] using hj')
  rw [spanCmp_lt, getElem!_pos _ i hi', getElem!_pos _ j hj'] at h
  simp at h hlt
  omega
 refine span_of_own ?_ (fun _ _ => trivial)
 have hlen : d'.toList.length = xs.length := by simpa using hsx
 rw [hlen]
 refine ⟨by rw [flat_length, hlen], .inr ⟨g, cap, _, rfl, hg, sorted_row hcur n d' os, hn, hmx, ?_, ?_⟩⟩
 ·rw [← hsz]
  simp [putCells]
 have hF : (flatK encSpan 2 d').size = xs.length * 2 := by simp [hsx]
 rw [← hF, put_take _ _ (by omega), flatK_span]
set_option maxRecDepth 100000 in
set_option maxHeartbeats 4000000 in
theorem insertion_none (A : Option Addr) (c : Nat) (f : Value) (w : World) : Calls Try.prog 127 #[.slice A 0 c, .int .i64 0, .int .i64 0, f] w fun e w' => e = .returned (.tuple #[]) ∧ Below w.heap.size w w' := by
 have HB := zam (Below.refl w.heap.size w)
 go_enter Try.func127, Try.ntmps127
 go_wp2
 go_loopw [8] (fun v wr => v = .int .i64 1 ∧ Below w.heap.size w wr) (fun _ _ => 0)
 case atStart => exact ⟨rfl, HB.out⟩
 case round =>
  obtain ⟨rfl, hb⟩ := hrel
  have HB2 := zam hb
  clear hb
  go_wp2
  go_end0
  exact ⟨rfl, HB2.out⟩
theorem len_zero (w : World) : Calls Try.prog 124 #[.int .u64 0] w fun e w' => (∃ l : Int, e = .returned (.int .i64 l)) ∧ w' = w := by
 have h := Any.bits_Len (SlLaysF0.n15.bits (P := Try.prog) (ρ := laySortSpan_ren) { laySortSpan with }) 0 w (by omega) (by omega)
 change Calls Try.prog 124 _ _ _ at h
 exact h.mono fun e w' hh => ⟨⟨_, hh.1⟩, hh.2⟩
set_option maxRecDepth 100000 in
set_option maxHeartbeats 4000000 in
theorem pdq_none (A : Option Addr) (c : Nat) (l : Int) (f : Value) (w : World) : Calls Try.prog 123 #[.slice A 0 c, .int .i64 0, .int .i64 0, .int .i64 l, f] w fun e w' => e = .returned (.tuple #[]) ∧ Below w.heap.size w w' := by
 have HB := zam (Below.refl w.heap.size w)
 have IN := zam (fun w => insertion_none A c f w)
 go_enter Try.func123, Try.ntmps123
 go_wp2
 go_loopw [1, 2] (fun v1 v2 wr => v1 = .int .i64 0 ∧ v2 = .int .i64 0 ∧ Below w.heap.size w wr) (fun _ _ _ => 0)
 case atStart => exact ⟨rfl, rfl, HB.out⟩
 case round =>
  obtain ⟨rfl, rfl, hb⟩ := hrel
  have HB2 := zam hb
  clear hb
  go_wp2_with (go_at_call 127; (with_reducible refine (IN.out _).mono ?_); rintro e w2 ⟨rfl, hb⟩; have n0 := zam (zbt HB2.out hb); clear HB2 hb; have HB2 := n0; clear n0)
  refine zbr (results_none rfl _ _ _) rfl ?_
  exact ⟨rfl, HB2.out⟩
set_option maxRecDepth 100000 in
set_option maxHeartbeats 4000000 in
theorem sort_none (A : Option Addr) (c : Nat) (f : Value) (w : World) : Calls Try.prog 96 #[.slice A 0 c, f] w fun e w' => e = .returned (.tuple #[]) ∧ Below w.heap.size w w' := by
 have HB := zam (Below.refl w.heap.size w)
 have PN := zam (fun l w => pdq_none A c l f w)
 go_enter Try.func96, Try.ntmps96
 go_wp2_with (first | (go_at_call 124; (refine (len_zero _).mono ?_); rintro e w2 ⟨⟨l, rfl⟩, rfl⟩) | (go_at_call 123; (refine (PN.out _ _).mono ?_); rintro e w2 ⟨rfl, hb⟩; have n0 := zam (zbt HB.out hb); clear HB hb; have HB := n0; clear n0))
 go_end0
 exact ⟨rfl, HB.out⟩
theorem sort_spans (w0 w : World) (v : Value) (xs : List S32) (hR : Kd.R k32 32 w w0.heap.size (fun _ => True) v xs) (hB : Below w0.heap.size w0 w) (hl : xs.length < 2305843009213693952) :
  Calls Try.prog 96 #[v, .func (.func 97) #[] #[]] w fun e w' => e = .returned (.tuple #[]) ∧ ∃ ys : List S32, ys.Perm xs ∧ ys.Pairwise (fun a b => ¬ b.f0 < a.f0) ∧ Kd.R k32 32 w' w0.heap.size (fun _ => True) v ys ∧ Below w0.heap.size w0 w' := by
 rcases Nat.eq_zero_or_pos xs.length with h0 | h0
 ·obtain rfl := List.length_eq_zero_iff.mp h0
  obtain ⟨A, c, rfl⟩ := Kd.R_slice hR
  exact (sort_none A c _ w).mono fun e w' h => ⟨h.1, [], List.Perm.refl _, List.Pairwise.nil, Kd.R_below hR h.2, zbt hB h.2⟩
 exact sort_spans_some w0 w v xs hR hB hl h0
end Go.Proofs.Ytlkafgibgipodaa.P
namespace Go.Proofs.Ytlkafgibgipodaa.P
open Go.RowKit Go.Proofs.YtlkafgibgipodaaW.PrintWords Go.Proofs.YtlkafgibgipodaaW.PrintLast Go.Proofs.YtlkafgibgipodaaW.PrintMore
attribute [local go_sem] max2_int min2_int max_two min_two max_three min_three max_four min_four   -- for this text's walks alone
set_option linter.unusedVariables false
set_option linter.unusedSimpArgs false
open Go.Shelf
attribute [local go_sem] Oper.semAt_some
def VKeep (Bs : Nat) (A : Option Addr) (U V : World) : Prop := V.heap[Bs]? = U.heap[Bs]? ∧ ∀ ad, A = some ad → V.heap[ad.block]? = U.heap[ad.block]?
theorem VKeep.refl (Bs : Nat) (A : Option Addr) (U : World) : VKeep Bs A U U := ⟨rfl, fun _ _ => rfl⟩
theorem VKeep.trans {Bs : Nat} {A : Option Addr} {U V X : World} (h : VKeep Bs A U V) (k : VKeep Bs A V X) : VKeep Bs A U X := ⟨k.1.trans h.1, fun ad e => (k.2 ad e).trans (h.2 ad e)⟩
theorem addr_block (ad : Addr) (k : Nat) : (ad.add k).block = ad.block := by
 unfold Addr.add
 split <;> rfl
set_option maxRecDepth 100000 in
set_option maxHeartbeats 4000000 in
theorem span_values1_in (fn0 : FuncId → Prop) (dep : Option Nat) (al : Bool) (n : Nat) (h6 : fn0 125) (hn : 1 ≤ n) (l Bs : Nat) (A : Option Addr) (c : Nat) (xs : List S32) (hxl : xs.length ≤ 1000000) (J Jx : List S32 → World → Prop) (hA : ∀ pre W W', J pre W → W.grownBy W' none → J pre W')
  (hY : ∀ pre x W, J pre W → pre.length < xs.length → YieldAt (Fence.mk fn0 dep al none) (n - 1) Try.prog l #[.agg #[.int .i64 x.f0, .int .i64 x.f1]] W fun e W' => (e = .returned (.bool true) ∧ J (pre ++ [x]) W' ∧ VKeep Bs A W W') ∨ (e = .returned (.bool false) ∧ Jx (pre ++ [x]) W'))
  (W : World) (kb : W.heap[Bs]? = some (.cells #[.slice A xs.length c] 44 (0, 0))) (kc : Kd.C k32 W A xs.length xs) (kl : ∀ ad, A = some ad → 0 < xs.length → ad.block < W.heap.size) (h0 : J [] W) :
  CallsIn (Fence.mk fn0 dep al none) n Try.prog 125 #[.func (.yield l) #[] #[], .pointer (some ⟨Bs, 0, none⟩)] W fun e W' => (∃ v, e = .returned v) ∧ (J xs W' ∨ ∃ pre, Jx pre W') := by
 have KB := zam kb
 have KC := zam kc
 have KL := zam kl
 have HL := zam hxl
 have HA := zam hA
 have HY := zam hY
 refine callsIn_of_wp Try.func125 rfl h6 ?_ rfl
 simp only [Try.ntmps125, List.size_toArray, List.length_cons, List.length_nil, Nat.reduceAdd, Nat.reduceSub, Array.replicate_succ, Array.replicate_zero, List.push_toArray, List.append_toArray, List.nil_append, List.cons_append]
 have hz0 := (zkc kb 0).trans rfl
 clear kb kc kl hxl hA hY
 gi_wp2
 clear hz0
 gi_loopw [7] (fun v wr => ∃ i : Nat, i ≤ xs.length ∧ v = .int .i64 (i : Int) ∧ J (xs.take i) wr ∧ VKeep Bs A W wr) (fun v _ => xs.length - (intOf v).toNat)
 case atStart => exact ⟨0, Nat.zero_le _, rfl, h0, VKeep.refl _ _ _⟩
 case round =>
  obtain ⟨i, hi, rfl, hJ, hk⟩ := hrel
  by_cases hlt : i < xs.length
  ·have d1 : decide ((i : Int) < (xs.length : Int)) = true := zdt (by omega)
   obtain ⟨ad, ead, hx0, hx1⟩ := at_T32 KC.out (i : Int) (Int.natCast_nonneg _) (by omega)
   subst ead
   have e1 : rd_T32 xs (i : Int) = xs[i] := by
    unfold rd_T32
    rw [Int.toNat_natCast]
    simp [List.getD, hlt]
   rw [e1, Int.toNat_natCast] at hx0 hx1
   have hy0 : wr.cell? (ad.add (i * 2)) = some (.int .i64 xs[i].f0) := ((World.cell?_of_block (a := ad.add (i * 2)) (show wr.heap[(ad.add (i * 2)).block]? = W.heap[(ad.add (i * 2)).block]? from by rw [addr_block]; exact hk.2 ad rfl) : wr.cell? (ad.add (i * 2)) = W.cell? (ad.add (i * 2)))).trans hx0
   have hy1 : wr.cell? ⟨(ad.add (i * 2)).block, (ad.add (i * 2)).off + 1, none⟩ = some (.int .i64 xs[i].f1) := ((World.cell?_of_block (a := ⟨(ad.add (i * 2)).block, (ad.add (i * 2)).off + 1, none⟩) (show wr.heap[(ad.add (i * 2)).block]? = W.heap[(ad.add (i * 2)).block]? from by rw [addr_block]; exact hk.2 ad rfl) : wr.cell? ⟨(ad.add (i * 2)).block, (ad.add (i * 2)).off + 1, none⟩ = W.cell? ⟨(ad.add (i * 2)).block, (ad.add (i * 2)).off + 1, none⟩)).trans hx1
   clear hx0 hx1
   have wi : IntKind.i64.wrap ((i : Int) + 1) = ((i + 1 : Nat) : Int) := by
    have := HL.out
    rw [i64_w, wrap_id (by omega) (by omega)]
    omega
   obtain ⟨fn, tmps, assign, body, hy, hR⟩ := HY.out (xs.take i) xs[i] (wr.alloc (.cells #[.int .i64 xs[i].f0, .int .i64 xs[i].f1] 32)) (HA.out _ _ _ hJ (World.grownBy_alloc wr _ none)) (by rw [zlt]; omega)
   have HK := zam hk
   have HA1 : Aside0 (VKeep Bs (some ad) wr (wr.alloc (.cells #[.int .i64 xs[i].f0, .int .i64 xs[i].f1] 32))) := ⟨by
    have b1 := blk_lt (hk.1.trans KB.out)
    have b2 : ad.block < wr.heap.size := by
     have h1 := KL.out ad rfl (by omega)
     have h2 : wr.heap[ad.block]? = some (W.heap[ad.block]) := (hk.2 ad rfl).trans (Array.getElem?_eq_getElem h1)
     exact blk_lt h2
    exact ⟨Below.heap_alloc wr _ _ b1, fun a e => by cases e; exact Below.heap_alloc wr _ _ b2⟩⟩
   clear hk
   gi_wp2
   refine hR.mono ?_
   rintro e W3 (⟨rfl, hJ3, hk3⟩ | ⟨rfl, hJx3⟩)
   ·gi_wp2
    go_roundw
    case rel =>
     refine ⟨i + 1, by omega, rfl, ?_, HK.out.trans (VKeep.trans HA1.out hk3)⟩
     rw [take_snoc hlt]
     exact hJ3
    case measure => (simp only [intOf]; omega)
   gi_wp2
   refine ⟨rfl, _, results_none rfl _ _ _, ⟨_, rfl⟩, .inr ⟨_, hJx3⟩⟩
  have d1 : decide ((i : Int) < (xs.length : Int)) = false := zdf (by omega)
  have hie : i = xs.length := by omega
  rw [hie, List.take_length] at hJ
  gi_wp2
  refine ⟨rfl, _, results_none rfl _ _ _, ⟨_, rfl⟩, .inl hJ⟩
theorem span_values_in (fn0 : FuncId → Prop) (dep : Option Nat) (al : Bool) (n : Nat) (h5 : fn0 98) (v : Value) (A : Option Addr) (m c : Nat) (hv : v = .slice A m c) (w : World) :
  CallsIn (Fence.mk fn0 dep al none) n Try.prog 98 #[v] w fun e w' =>
   e = .returned (.func (.func 125) #[] #[.pointer (some ⟨w.heap.size, 0, none⟩)]) ∧ w' = w.alloc (.cells #[.slice A m c] 44) := by
 subst hv
 refine callsIn_of_wp Try.func98 rfl h5 ?_ rfl
 simp only [Try.ntmps98, List.size_toArray, List.length_cons, List.length_nil, Nat.reduceAdd, Nat.reduceSub, Array.replicate_succ, Array.replicate_zero, List.push_toArray, List.append_toArray, List.nil_append, List.cons_append]
 gi_wp2
 go_ret
 exact ⟨rfl, rfl⟩
theorem span_values_stops (fn0 : FuncId → Prop) (dep : Option Nat) (al : Bool) (n : Nat) (h6 : fn0 125) (hn : 1 ≤ n) (Bs : Nat) (A : Option Addr) (c : Nat) (xs : List S32) (hxl : xs.length ≤ 1000000) (w : World) (kb : w.heap[Bs]? = some (.cells #[.slice A xs.length c] 44 (0, 0))) (kc : Kd.C k32 w A xs.length xs) (kl : ∀ ad, A = some ad → 0 < xs.length → ad.block < w.heap.size) :
  SeqStopsK (Fence.mk fn0 dep al none) n Try.prog 125 #[.pointer (some ⟨Bs, 0, none⟩)] (fun x : S32 => #[Value.agg #[.int .i64 x.f0, .int .i64 x.f1]]) (VKeep Bs A) (fun ys => ys = xs) (fun _ => True) xs.length w := fun l J Jx W hW hA _ hY h0 =>
 (span_values1_in fn0 dep al n h6 hn l Bs A c xs hxl J Jx (fun pre W W' h hg => hA pre W W' none h hg (fun r e => by cases e)) (fun pre x W h hl => hY pre x W h hl) W (zkb kb hW) (Kd.C_below kc hW) (fun ad e h => Nat.lt_of_lt_of_le (kl ad e h) hW.size) h0).mono
  (fun e W' h => ⟨h.1, h.2.elim (fun hJ => .inl ⟨xs, rfl, hJ⟩) (fun hJ => .inr (hJ.elim fun pre hp => ⟨pre, trivial, hp⟩))⟩)
end Go.Proofs.Ytlkafgibgipodaa.P
namespace Go.Proofs.Ytlkafgibgipodaa.P
open Go.RowKit Go.Proofs.YtlkafgibgipodaaW.PrintWords Go.Proofs.YtlkafgibgipodaaW.PrintLast Go.Proofs.YtlkafgibgipodaaW.PrintMore
attribute [local go_sem] max2_int min2_int max_two min_two max_three min_three max_four min_four   -- for this text's walks alone
set_option linter.unusedVariables false
set_option linter.unusedSimpArgs false
set_option maxHeartbeats 4000000 in
theorem cloneS_nil (c : Nat) (w : World) : (binOp .eql 44 (.slice none 0 c) (.slice none 0 0)).run Try.prog w = .ok (.bool true) w := by kernel_rfl
theorem cloneS_some (ad : Addr) (n c : Nat) (w : World) : (binOp .eql 44 (.slice (some ad) n c) (.slice none 0 0)).run Try.prog w = .ok (.bool false) w := by kernel_rfl
attribute [local go_sem] cloneS_nil cloneS_some
set_option maxRecDepth 100000 in
theorem clone_spans (A : Option Addr) (c : Nat) (xs : List S32) (w : World) (hr0 : Kd.C k32 w A xs.length xs) (hc0 : xs.length ≤ c) (hl : xs.length < 2513169434916) :
  Calls Try.prog 95 #[.slice A xs.length c] w fun e w' => ∃ v0_ : Value, e = .returned v0_ ∧ Kd.R k32 32 w' w.heap.size (fun _ => True) v0_ xs ∧ Below w.heap.size w w' := by
 have HR := zam hr0
 have LM := zam hl
 clear hr0 hl
 cases A with
 | none =>
  have hx : xs = [] := by
   cases xs with
   | nil => rfl
   | cons x xs =>
    obtain ⟨ad, e, _⟩ := at_T32 HR.out 0 (by decide) (by simp only [List.length_cons]; omega)
    cases e
  subst hx
  go_enter Try.func95, Try.ntmps95
  go_wp2
  go_ret
  exact ⟨_, rfl, Kd.R_nil _ _ _ _ _, Below.refl _ _⟩
 | some ad =>
  go_enter Try.func95, Try.ntmps95
  go_wp2_with (first | ((with_reducible refine zgd (N := 5) rfl ?_); refine Kd.R_lit k32 _ 32 ?hg (N := 5) ?hd (xs := ([] : List S32)) (inner := []) (ok := fun _ => True) (okp := fun _ => True) ?hr ?hp (fun _ hk => hk) trivial (Below.refl _ _) (Nat.le_refl _) (by simp) ?_; (case hd => rfl); (case hg => rfl); (case hr => first | (go_simp; done) | (go_simp; rfl)); (case hp => exact (Reps.none _ _)); intro v1 w1 ho hb hg_ hnew_; clear hg_ hnew_; have HO := zam ho; have HB := zam hb; have n1 := zam (Kd.C_below HR.out HB.out); clear HR ho hb; have HR := n1; clear n1) | ((with_reducible refine gate_builtin (b := .append) (xs := #[.tmp 5, .tmp 6]) rfl ?_); at_builtin; refine Kd.R_append_rows k32 (w0 := w) w.heap.size rfl (.tmp 5) (.tmp 6) 44 32 (.agg #[.int .i64 0, .int .i64 0]) 16 rfl Try.underlying44 info32 rfl (by decide) (by omega) v1 [] xs _ _ _ (fun _ => True) (fun _ => False) rfl rfl HO.out HR.out (fun _ _ h => h) (fun _ h => h.elim) (fun _ _ => trivial) HB.out (zbz HB.out) (by have := LM.out; simp only [List.length_nil]; omega) ?_; intro v2 w2 ho hb hg hat; rw [List.nil_append] at ho; have n2 := zam ho; have n3 := zam hb; clear HO HB ho hb hg hat; have HO := n2; have HB := n3; clear n2 n3))
  go_ret
  exact ⟨_, rfl, HO.out, HB.out⟩
end Go.Proofs.Ytlkafgibgipodaa.P
namespace Go.Proofs.Ytlkafgibgipodaa.P
open Go.RowKit Go.Proofs.YtlkafgibgipodaaW.PrintWords Go.Proofs.YtlkafgibgipodaaW.PrintLast Go.Proofs.YtlkafgibgipodaaW.PrintMore
attribute [local go_sem] max2_int min2_int max_two min_two max_three min_three max_four min_four   -- for this text's walks alone
set_option linter.unusedVariables false
set_option linter.unusedSimpArgs false
open Go.Shelf
def bound_Cover.f (k : Nat) (l : List (S32)) : Option (List (S32) × Int) := if (l.length : Int) > 256 then some ([], 6) else (bound_check.f k l).bind fun e => if e = 0 then some (Bd.cover l, 0) else some ([], e)
theorem bound_Cover.mono : ∀ a0 k, LeO (bound_Cover.f k a0) (bound_Cover.f (k + 1) a0) := by
 intro a0 k
 unfold bound_Cover.f
 refine LeO.ite (LeO.refl _) (LeO.bind (bound_check.mono _ _) fun _ => ?_)
 exact LeO.refl _
theorem check_ok0 (l : List S32) : ∀ (k i : Nat), i ≤ l.length → l.length ≤ 1000000 → bound_check.l0 k l (l.length : Int) (i : Int) = some 0 → ∀ s ∈ l.drop i, Bd.ok s := by
 intro k
 induction k with
 | zero => intro i _ _ h; cases h
 | succ k ih =>
  intro i hi hl h
  rw [bound_check.l0] at h
  by_cases hlt : i < l.length
  ·rw [if_pos (by omega), if_pos (by omega), if_pos (by omega)] at h
   have e1 : rd_T32 l (i : Int) = l[i] := by
    unfold rd_T32
    rw [Int.toNat_natCast]
    simp [List.getD, hlt]
   rw [e1] at h
   by_cases q1 : l[i].f0 > l[i].f1
   ·rw [if_pos q1] at h; cases h
   rw [if_neg q1] at h
   by_cases q2 : l[i].f0 < -1073741824
   ·rw [if_pos q2] at h; cases h
   rw [if_neg q2] at h
   by_cases q3 : l[i].f1 > 1073741824
   ·rw [if_pos q3] at h; cases h
   rw [if_neg q3, wrap_succ hlt (by omega)] at h
   intro s hs
   rw [drop_cons hlt] at hs
   rcases List.mem_cons.1 hs with rfl | hs
   ·exact ⟨by omega, by omega, by omega⟩
   exact ih (i + 1) (by omega) hl h s hs
  rw [List.drop_eq_nil_of_le (by omega)]
  intro s hs
  cases hs
theorem check_ok {l : List S32} {k : Nat} (hl : l.length ≤ 1000000) (h : bound_check.f k l = some 0) : ∀ s ∈ l, Bd.ok s := by
 have := check_ok0 l k 0 (Nat.zero_le _) hl h
 rwa [List.drop_zero] at this
theorem flat_eq : ∀ xs : List S32, Bd.flat xs = flatSpan xs
 | [] => rfl
 | x :: xs => by
  rw [Bd.flat, flat_eq xs]
  simp [flatSpan, encSpan]
theorem own_down {W : World} {b b' e size n : Nat} {v : Value} {xs : List Value} (h : W.ownsRow b e size v n xs) (hb : b' ≤ b) : W.ownsRow b' e size v n xs :=
 ⟨h.1, h.2.imp id fun ⟨g, cap, cur, h1, h2, h3⟩ => ⟨g, cap, cur, h1, Nat.le_trans hb h2, h3⟩⟩
theorem join_values (A : Option Addr) (c : Nat) (xs : List S32) (w : World) (hxl : xs.length ≤ 1000000) (Bs : Nat) (kb : w.heap[Bs]? = some (.cells #[.slice A xs.length c] 44 (0, 0))) (kc : Kd.C k32 w A xs.length xs) (kl : ∀ ad, A = some ad → ad.block < w.heap.size) :
  Calls Try.prog 90 #[.func (.func 125) #[] #[.pointer (some ⟨Bs, 0, none⟩)]] w fun e w' => ∃ v : Value, e = .returned v ∧ Kd.R k32 32 w' w.heap.size (fun _ => True) v (Bd.join xs) ∧ Below w.heap.size w w' := by
 have hBs := blk_lt kb
 refine (callsIn_wide.1 (bound_join_in (fun _ => True) none false 3 trivial (by omega) 125 trivial (enters_of Try.func125 (by kernel_rfl) rfl) #[.pointer (some ⟨Bs, 0, none⟩)] (VKeep Bs A) (fun ys => ys = xs) (fun _ => True) xs.length hxl w
  (span_values_stops (fun _ => True) none false 2 trivial (by omega) Bs A c xs hxl w kb kc (fun ad e _ => kl ad e)) (fun h k => VKeep.trans h k) (fun W W' h => ⟨h _ hBs, fun ad e => h _ (kl ad e)⟩))).mono ?_
 rintro e w' ⟨v, ys, rfl, rfl, hrow, hb⟩
 rw [flat_eq] at hrow
 exact ⟨v, rfl, span_of_own (own_down hrow (Nat.le_add_right _ 1)) (fun _ _ => trivial), hb⟩
set_option maxHeartbeats 4000000 in
set_option maxRecDepth 100000 in
theorem bound_Cover.calls (k : Nat) (A0 : Option Addr) (c0 : Nat) (l0 : List (S32)) (r1 : List (S32)) (r2 : Int) (w : World) (hr0 : Kd.C k32 w A0 l0.length l0) (hc0 : l0.length ≤ c0) (h : bound_Cover.f k l0 = some (r1, r2)) :
  Calls Try.prog 46 #[.slice A0 l0.length c0] w fun e w' => ∃ v0_ : Value, e = .returned (.tuple #[v0_, .int .i64 r2]) ∧ Kd.R k32 32 w' w.heap.size (fun _ => True) v0_ r1 ∧ Below w.heap.size w w' := by
 unfold bound_Cover.f at h
 have HB := zam (Below.refl w.heap.size w)
 by_cases q : (l0.length : Int) > 256
 ·rw [if_pos q] at h
  simp only [Option.some.injEq, Prod.mk.injEq] at h
  obtain ⟨rfl, rfl⟩ := h
  have d1 : decide (256 < (l0.length : Int)) = true := zdt q
  have d2 : decide (256 < l0.length) = true := zdt (by omega)
  go_enter Try.func46, Try.ntmps46
  go_wp2
  go_ret2
  exact ⟨_, rfl, Kd.R_nil _ _ _ _ _, HB.out⟩
 rw [if_neg q] at h
 have d1 : decide (256 < (l0.length : Int)) = false := zdf q
 have d2 : decide (256 < l0.length) = false := zdf (by omega)
 have hlen : l0.length ≤ 256 := by omega
 obtain ⟨e, he, h⟩ := Option.bind_eq_some_iff.mp h
 have HC := zam he
 have LN := zam hlen
 clear q hlen he
 by_cases qe : e = 0
 ·subst qe
  rw [if_pos rfl] at h
  simp only [Option.some.injEq, Prod.mk.injEq] at h
  obtain ⟨rfl, rfl⟩ := h
  go_enter Try.func46, Try.ntmps46
  go_wp2_with (first
   | (go_at_call 80; (refine (bound_check.calls k A0 c0 l0 0 _ hr0 hc0 HC.out).mono ?_); rintro e w2 ⟨rfl, hb⟩; have n0 := zam (zbt HB.out hb); clear HB hb; have HB := n0; clear n0)
   | (go_at_call 95; (refine (clone_spans A0 c0 l0 _ (Kd.C_below hr0 HB.out) hc0 (by have := LN.out; omega)).mono ?_); rintro e w3 ⟨v3, rfl, ho, hb⟩; have HO := zam (span_of_own (ok := fun _ => True) (own_down (b' := w.heap.size) (own_of_span ho) (zbz HB.out)) (fun _ _ => trivial)); have n0 := zam (zbt HB.out hb); clear HB hb ho; have HB := n0; clear n0)
   | (go_at_call 96; (refine (sort_spans w _ _ l0 HO.out HB.out (by have := LN.out; omega)).mono ?_); rintro e w4 ⟨rfl, ys, hp, hs, ho, hb⟩; obtain ⟨A, c, rfl, hlc, hC⟩ := Kd.R_reads ho; have CC := zam hC; have KL := zam (fun ad (e : A = some ad) => own_lt (own_of_span ho) ad.block (by rw [e]; rfl)); clear hC hlc; have PE := zam hp; have SO := zam hs; clear HO HB; have HO := zam ho; have HB := zam hb; clear hp hs ho hb)
   | (go_at_call 98; (refine (callsIn_wide.1 (span_values_in (fun _ => True) none false 1 trivial _ A _ c rfl w4)).mono ?_); rintro e w5 ⟨rfl, rfl⟩)
   | (go_at_call 90; ((refine (join_values A c ys (w4.alloc (.cells #[.slice A ys.length c] 44)) (by rw [PE.out.length_eq]; have := LN.out; omega) w4.heap.size (blk_new w4 _) (Kd.C_alloc CC.out _) (fun ad e => by have := KL.out ad e; rw [World.size_alloc]; omega)).mono ?_); rintro e w6 ⟨v6, rfl, ho, hb⟩; have HO6 := zam (span_of_own (ok := fun _ => True) (own_down (b' := w.heap.size) (own_of_span ho) (by rw [World.size_alloc]; have := zbz HB.out; omega)) (fun _ _ => trivial)); have HB6 := zam (zbt (zba HB.out _) hb); clear ho hb)))
  go_ret2
  refine ⟨_, rfl, ?_, HB6.out⟩
  rw [← Bd.join_perm PE.out (SO.out.imp (fun h => by omega)) (check_ok (by have := LN.out; omega) HC.out)]
  exact HO6.out
 rw [if_neg qe] at h
 simp only [Option.some.injEq, Prod.mk.injEq] at h
 obtain ⟨rfl, rfl⟩ := h
 have e1 : (e == 0) = false := beq_eq_false_iff_ne.mpr qe
 have e2 : (e != 0) = true := bne_iff_ne.mpr qe
 clear qe
 go_enter Try.func46, Try.ntmps46
 go_wp2_with (go_at_call 80; (refine (bound_check.calls k A0 c0 l0 e _ hr0 hc0 HC.out).mono ?_); rintro e w2 ⟨rfl, hb⟩; have n0 := zam (zbt HB.out hb); clear HB hb; have HB := n0; clear n0)
 go_ret2
 exact ⟨_, rfl, Kd.R_nil _ _ _ _ _, HB.out⟩
end Go.Proofs.Ytlkafgibgipodaa.P
namespace Go.Proofs.Ytlkafgibgipodaa.P
open Go.RowKit Go.Proofs.YtlkafgibgipodaaW.PrintWords Go.Proofs.YtlkafgibgipodaaW.PrintLast Go.Proofs.YtlkafgibgipodaaW.PrintMore
attribute [local go_sem] max2_int min2_int max_two min_two max_three min_three max_four min_four   -- for this text's walks alone
set_option linter.unusedVariables false
set_option linter.unusedSimpArgs false
def bound_apart.f (a0_0 : Int) (a0_1 : Int) (a1_0 : Int) (a1_1 : Int) : Option (Int × Int) := some (mx (mx 0 (wrap64 (a0_0 - a1_1))) (wrap64 (a1_0 - a0_1)), mx (wrap64 (a0_1 - a1_0)) (wrap64 (a1_1 - a0_0)))
def bound_Square.j0 : Nat → Bool → Int → Int → Int → Int → Int → Int → Int → Int → Option (Int × Int × Int)
 | 0, _, _, _, _, _, _, _, _, _ => none
 | k + 1, x18, x102000, x102001, x102002, x102003, x103000, x103001, x103002, x103003 => if x18 = true then (some (0, 0, 2)) else ((bound_apart.f x102000 x102001 x103000 x103001).bind fun bt105 => ((bound_apart.f x102002 x102003 x103002 x103003).bind fun bt107 => (some (wrap64 ((wrap64 (bt105.1 * bt105.1)) + (wrap64 (bt107.1 * bt107.1))), wrap64 ((wrap64 (bt105.2 * bt105.2)) + (wrap64 (bt107.2 * bt107.2))), 0))))
def bound_Square.f (k : Nat) (a0_0 : Int) (a0_1 : Int) (a0_2 : Int) (a0_3 : Int) (a1_0 : Int) (a1_1 : Int) (a1_2 : Int) (a1_3 : Int) : Option (Int × Int × Int) := (bound_CheckBox.f k a0_0 a0_1 a0_2 a0_3).bind fun t103 => (if t103 = 0 then ((bound_CheckBox.f k a1_0 a1_1 a1_2 a1_3).bind fun t104 => (bound_Square.j0 k (t104 != 0) a0_0 a0_1 a0_2 a0_3 a1_0 a1_1 a1_2 a1_3)) else (bound_Square.j0 k true a0_0 a0_1 a0_2 a0_3 a1_0 a1_1 a1_2 a1_3))
def bound_Distance.f (k : Nat) (a0_0 : Int) (a0_1 : Int) (a0_2 : Int) (a0_3 : Int) (a1_0 : Int) (a1_1 : Int) (a1_2 : Int) (a1_3 : Int) : Option (Int × Int × Int) := (bound_Square.f k a0_0 a0_1 a0_2 a0_3 a1_0 a1_1 a1_2 a1_3).bind fun bt104 => (if bt104.2.2 = 0 then ((bound_round_root.f false bt104.1).bind fun t107 => ((bound_round_root.f true bt104.2.1).bind fun t108 => (some (t107, t108, 0)))) else (some (0, 0, bt104.2.2)))
theorem eqA32 (d : Nat) (w : World) (x0 y0 : Int) (x1 y1 : Int) :
  (Op.equalIn (d + 2) 32 (.agg #[.int .i64 x0, .int .i64 x1]) (.agg #[.int .i64 y0, .int .i64 y1])).run Try.prog w = .ok (x0 == y0 && (x1 == y1)) w := by
 refine eqA_of Try.underlying32 (by kernel_rfl) ?_
 refine eqf_cons (by rfl) (by go_simp; rfl) (by go_simp; rfl) (by go_simp) ?_
 exact eqf_last (by rfl) (by go_simp; rfl) (by go_simp; rfl) (by go_simp)
end Go.Proofs.Ytlkafgibgipodaa.P
namespace Go.Proofs.Ytlkafgibgipodaa.P
open Go.RowKit Go.Proofs.YtlkafgibgipodaaW.PrintWords Go.Proofs.YtlkafgibgipodaaW.PrintLast Go.Proofs.YtlkafgibgipodaaW.PrintMore
attribute [local go_sem] max2_int min2_int max_two min_two max_three min_three max_four min_four   -- for this text's walks alone
set_option linter.unusedVariables false
set_option linter.unusedSimpArgs false
attribute [local go_sem high] eqA32
def bound_In.f (k : Nat) (a0_0 : Int) (a0_1 : Int) (a1_0 : Int) (a1_1 : Int) : Option (Int × Int) := (bound_check.f k (([(⟨a0_0, a0_1⟩ : S32), (⟨a1_0, a1_1⟩ : S32)] : List (S32)))).bind fun t106 => (if t106 = 0 then ((bound_meet.f a0_0 a0_1 a1_0 a1_1).bind fun bt107 => (if bt107.2.2 = true then (if (bt107.1 == a0_0 && (bt107.2.1 == a0_1)) = true then (some (2, 0)) else (some (1, 0))) else (some (0, 0)))) else (some (0, t106)))
end Go.Proofs.Ytlkafgibgipodaa.P
namespace Go.Proofs.Ytlkafgibgipodaa.P
open Go.RowKit Go.Proofs.YtlkafgibgipodaaW.PrintWords Go.Proofs.YtlkafgibgipodaaW.PrintLast Go.Proofs.YtlkafgibgipodaaW.PrintMore
attribute [local go_sem] max2_int min2_int max_two min_two max_three min_three max_four min_four   -- for this text's walks alone
set_option linter.unusedVariables false
set_option linter.unusedSimpArgs false
def bound_Less.f (k : Nat) (a0_0 : Int) (a0_1 : Int) (a1_0 : Int) (a1_1 : Int) : Option (Int × Int) := (bound_check.f k (([(⟨a0_0, a0_1⟩ : S32), (⟨a1_0, a1_1⟩ : S32)] : List (S32)))).bind fun t106 => (if t106 = 0 then (if a0_1 < a1_0 then (some (2, 0)) else (if a0_0 ≥ a1_1 then (some (0, 0)) else (some (1, 0)))) else (some (0, t106)))
def bound_Not.f (a0 : Int) : Option (Int × Int) := (bound_isAnswer.f a0).bind fun t101 => (if t101 = true then (some (wrap64 (2 - a0), 0)) else (some (0, 2)))
end Go.Proofs.Ytlkafgibgipodaa.P
namespace Go.Proofs.Ytlkafgibgipodaa.P
open Go.RowKit Go.Proofs.YtlkafgibgipodaaW.PrintWords Go.Proofs.YtlkafgibgipodaaW.PrintLast Go.Proofs.YtlkafgibgipodaaW.PrintMore
attribute [local go_sem] max2_int min2_int max_two min_two max_three min_three max_four min_four   -- for this text's walks alone
set_option linter.unusedVariables false
set_option linter.unusedSimpArgs false
attribute [local go_sem high] eqA32
def isobathlaw01_Works.f (k : Nat)  : Option (Bool) := (bound_Mul.f k (-3) 5 2 4).bind fun bt101 => ((bound_Div.f k 7 9 (-4) (-2)).bind fun bt105 => ((bound_Cover.f k (([(⟨5, 6⟩ : S32), (⟨1, 2⟩ : S32), (⟨3, 3⟩ : S32)] : List (S32)))).bind fun bt112 => (if (wrap64 ((wrap64 (bt101.2.2 + bt105.2.2)) + bt112.2)) = 0 then (if (bt101.1 == (-12) && (bt101.2.1 == 20)) = true then (if (bt105.1 == (-5) && (bt105.2.1 == (-1))) = true then (if (bt112.1.length : Int) = 2 then (if 0 < (bt112.1.length : Int) then (some (((rd_T32 bt112.1 0).f0) == 1 && (((rd_T32 bt112.1 0).f1) == 3))) else (none)) else (some false)) else (some false)) else (some false)) else (some false))))
theorem isobathlaw01_Works.mono : ∀ k, LeO (isobathlaw01_Works.f k ) (isobathlaw01_Works.f (k + 1) ) := by
 intro  k
 unfold isobathlaw01_Works.f
 repeat' first
   | (with_reducible exact bound_Cover.mono _ _)
   | (with_reducible exact bound_Div.mono _ _ _ _ _)
   | (with_reducible exact bound_Mul.mono _ _ _ _ _)
   | (with_reducible exact LeO.refl _)
   | (with_reducible exact LeO.none _)
   | (with_reducible refine LeO.ite ?_ ?_)
   | (with_reducible refine LeO.bind ?_ (fun _ => ?_))
   | exact bound_Cover.mono _ _
   | exact bound_Div.mono _ _ _ _ _
   | exact bound_Mul.mono _ _ _ _ _
   | exact LeO.none _
   | refine LeO.ite ?_ ?_
   | refine LeO.bind ?_ (fun _ => ?_)
set_option maxHeartbeats 8000000 in
set_option maxRecDepth 100000 in
theorem isobathlaw01_Works.calls (k : Nat)  (r : Bool) (w : World) (h : isobathlaw01_Works.f k  = some r) :
  Calls Try.prog 18 #[] w fun e w' => e = .returned (.bool r) ∧ Below w.heap.size w w' := by
 have hu32 := Try.underlying32
 have HB := zam (Below.refl w.heap.size w)
 have H : ((bound_Mul.f k (-3) 5 2 4).bind fun bt101 => ((bound_Div.f k 7 9 (-4) (-2)).bind fun bt105 => ((bound_Cover.f k (([(⟨5, 6⟩ : S32), (⟨1, 2⟩ : S32), (⟨3, 3⟩ : S32)] : List (S32)))).bind fun bt112 => (if (wrap64 ((wrap64 (bt101.2.2 + bt105.2.2)) + bt112.2)) = 0 then (if (bt101.1 == (-12) && (bt101.2.1 == 20)) = true then (if (bt105.1 == (-5) && (bt105.2.1 == (-1))) = true then (if (bt112.1.length : Int) = 2 then (if 0 < (bt112.1.length : Int) then (some (((rd_T32 bt112.1 0).f0) == 1 && (((rd_T32 bt112.1 0).f1) == 3))) else (none)) else (some false)) else (some false)) else (some false)) else (some false))))) = some r := h
 clear h
 replace H := Option.bind_eq_some_iff.mp H
 obtain ⟨⟨t101, t102, t103⟩, A10, H⟩ := H
 replace H : ((bound_Div.f k 7 9 (-4) (-2)).bind fun bt105 => ((bound_Cover.f k (([(⟨5, 6⟩ : S32), (⟨1, 2⟩ : S32), (⟨3, 3⟩ : S32)] : List (S32)))).bind fun bt112 => (if (wrap64 ((wrap64 (t103 + bt105.2.2)) + bt112.2)) = 0 then (if (t101 == (-12) && (t102 == 20)) = true then (if (bt105.1 == (-5) && (bt105.2.1 == (-1))) = true then (if (bt112.1.length : Int) = 2 then (if 0 < (bt112.1.length : Int) then (some (((rd_T32 bt112.1 0).f0) == 1 && (((rd_T32 bt112.1 0).f1) == 3))) else (none)) else (some false)) else (some false)) else (some false)) else (some false)))) = some r := H
 have A1 := zam A10
 clear A10
 replace H := Option.bind_eq_some_iff.mp H
 obtain ⟨⟨t105, t106, t107⟩, A20, H⟩ := H
 replace H : ((bound_Cover.f k (([(⟨5, 6⟩ : S32), (⟨1, 2⟩ : S32), (⟨3, 3⟩ : S32)] : List (S32)))).bind fun bt112 => (if (wrap64 ((wrap64 (t103 + t107)) + bt112.2)) = 0 then (if (t101 == (-12) && (t102 == 20)) = true then (if (t105 == (-5) && (t106 == (-1))) = true then (if (bt112.1.length : Int) = 2 then (if 0 < (bt112.1.length : Int) then (some (((rd_T32 bt112.1 0).f0) == 1 && (((rd_T32 bt112.1 0).f1) == 3))) else (none)) else (some false)) else (some false)) else (some false)) else (some false))) = some r := H
 have A2 := zam A20
 clear A20
 obtain ⟨y109, hy109⟩ : ∃ y_ : List (S32), y_ = (([(⟨5, 6⟩ : S32), (⟨1, 2⟩ : S32), (⟨3, 3⟩ : S32)] : List (S32))) := ⟨_, rfl⟩
 replace H : ((bound_Cover.f k y109).bind fun bt112 => (if (wrap64 ((wrap64 (t103 + t107)) + bt112.2)) = 0 then (if (t101 == (-12) && (t102 == 20)) = true then (if (t105 == (-5) && (t106 == (-1))) = true then (if (bt112.1.length : Int) = 2 then (if 0 < (bt112.1.length : Int) then (some (((rd_T32 bt112.1 0).f0) == 1 && (((rd_T32 bt112.1 0).f1) == 3))) else (none)) else (some false)) else (some false)) else (some false)) else (some false))) = some r := by first | (rw [hy109]; with_reducible exact H) | (have H2_ := (Option.bind_some _ _).symm.trans H; rw [hy109]; with_reducible exact H2_) | (have H2_ := (Option.bind_some _ _).symm.trans H; with_reducible exact H2_) | with_reducible exact H | (rw [hy109]; exact H) | exact H
 have Ny109 := zam hy109
 clear hy109
 replace H := Option.bind_eq_some_iff.mp H
 obtain ⟨⟨t112, t113⟩, A30, H⟩ := H
 replace H : (if (wrap64 ((wrap64 (t103 + t107)) + t113)) = 0 then (if (t101 == (-12) && (t102 == 20)) = true then (if (t105 == (-5) && (t106 == (-1))) = true then (if (t112.length : Int) = 2 then (if 0 < (t112.length : Int) then (some (((rd_T32 t112 0).f0) == 1 && (((rd_T32 t112 0).f1) == 3))) else (none)) else (some false)) else (some false)) else (some false)) else (some false)) = some r := H
 have A3 := zam A30
 clear A30
 by_cases c4 : (wrap64 ((wrap64 (t103 + t107)) + t113)) = 0
 ·rw [if_pos c4] at H
  have c4b0 : ((wrap64 ((wrap64 (t103 + t107)) + t113)) == 0) = true := beq_iff_eq.mpr c4
  have c4b1 : ((wrap64 ((wrap64 (t103 + t107)) + t113)) != 0) = false := bne_eq_false_iff_eq.mpr c4
  clear c4
  by_cases c5 : (t101 == (-12) && (t102 == 20)) = true
  ·rw [if_pos c5] at H
   have c5b0 : (t101 == (-12) && (t102 == 20)) = true := c5
   (try (have c5b1 : decide (t101 = (-12) && (t102 == 20)) = true := by simpa using c5))
   (try (have c5b2 : (t101 == (-12) && (t102 == 20)) = true := by simpa using c5))
   clear c5
   by_cases c6 : (t105 == (-5) && (t106 == (-1))) = true
   ·rw [if_pos c6] at H
    have c6b0 : (t105 == (-5) && (t106 == (-1))) = true := c6
    (try (have c6b1 : decide (t105 = (-5) && (t106 == (-1))) = true := by simpa using c6))
    (try (have c6b2 : (t105 == (-5) && (t106 == (-1))) = true := by simpa using c6))
    clear c6
    by_cases c7 : (t112.length : Int) = 2
    ·rw [if_pos c7] at H
     have c7b0 : ((t112.length : Int) == 2) = true := beq_iff_eq.mpr c7
     have c7b1 : ((t112.length : Int) != 2) = false := bne_eq_false_iff_eq.mpr c7
     clear c7
     by_cases c8 : 0 < (t112.length : Int)
     ·rw [if_pos c8] at H
      have c8b0 : decide (0 < (t112.length : Int)) = true := zdt c8
      have c8b1 : decide (0 < t112.length) = true := zdt (by omega)
      clear c8
      obtain rfl := zsi H
      go_enter Try.func18, Try.ntmps18
      go_wp2_with (first | ((with_reducible refine zgc (f := 28) rfl ?_); refine goesL_ (some 10) rfl rfl Try.func28 (by kernel_rfl) rfl #[.agg #[.int .i64 (-3), .int .i64 5], .agg #[.int .i64 2, .int .i64 4]] rfl (by (try simp only [zmt, List.map_cons, List.map_nil]); first | done | rfl | (simp only [zld, zlt]; rfl)) ?_; (with_reducible refine (bound_Mul.calls k (-3) 5 2 4 t101 t102 t103 _ A1.out).mono ?_); rintro e w9 ⟨rfl, hb⟩; refine ⟨_, rfl, ?_⟩; have n0_ := zam (zbt (by repeat (first | (with_reducible first | exact HB.out | apply zba | apply zbn | apply zb1) | exact HB.out)) hb); clear HB; have HB := n0_; clear n0_; (try clear hb); (try clear hb2); (try clear hk); (try clear hi)) | ((with_reducible refine zgd (N := 1) rfl ?_); (try (refine gate_guard (by rfl) ?_; dsimp only)); refine box_event ?hg (N := 1) ?hd (cs := #[.int .i64 0, .int .i64 0]) (t := 32) ?hr ?_; (case hd => rfl); (case hg => rfl); (case hr => first | (go_simp; done) | (go_simp; rfl)); intro gb104 hg w10 hbox hb; have n0_ := zam (zbt (by repeat (first | (with_reducible first | exact HB.out | apply zba | apply zbn | apply zb1) | exact HB.out)) hb); have n1_ := zam (hbox); have n2_ := zam ((by rw [hg]; exact (zbz (by repeat (first | (with_reducible first | exact HB.out | apply zba | apply zbn | apply zb1) | exact HB.out))) : w.heap.size ≤ gb104)); have n3_ := zam ((by rw [hg]; exact (zbz (by repeat (first | (with_reducible first | exact HB.out | apply zba | apply zbn | apply zb1) | exact HB.out))) : w.heap.size ≤ gb104)); clear HB; have HB := n0_; have BK104 := n1_; have GW104 := n2_; have GE104 := n3_; clear n0_ n1_ n2_ n3_; clear hb hbox hg; have hcz11_0 : w10.cell? ⟨gb104, 0, none⟩ = some (.int .i64 0) := (zkc BK104.out 0).trans rfl; have hcz11_1 : w10.cell? ⟨gb104, 1, none⟩ = some (.int .i64 0) := (zkc BK104.out 1).trans rfl; have hfz11_0 := zkz BK104.out 0; have hfz11_1 := zkz BK104.out 1) | ((with_reducible refine zgc (f := 61) rfl ?_); refine goesL_ (some 16) rfl rfl Try.func61 (by kernel_rfl) rfl #[.agg #[.int .i64 7, .int .i64 9], .agg #[.int .i64 (-4), .int .i64 (-2)]] rfl (by (try simp only [zmt, List.map_cons, List.map_nil]); first | done | rfl | (simp only [zld, zlt]; rfl)) ?_; (with_reducible refine (bound_Div.calls k 7 9 (-4) (-2) t105 t106 t107 _ A2.out).mono ?_); rintro e w12 ⟨rfl, hb⟩; refine ⟨_, rfl, ?_⟩; have n0_ := zam (zkb (g := gb104) (o := .cells #[.int .i64 t101, .int .i64 t102] 32 (0, 0)) (by (with_reducible repeat (first | refine zkn ?_ _ | refine zkd ?_ | refine zka ?_ _)); refine blk_put (cs := #[.int .i64 t101, .int .i64 0]) ?_ 1 _ rfl; (with_reducible repeat (first | refine zkn ?_ _ | refine zkd ?_ | refine zka ?_ _)); refine blk_put (cs := #[.int .i64 0, .int .i64 0]) ?_ 0 _ rfl; (with_reducible repeat (first | refine zkn ?_ _ | refine zkd ?_ | refine zka ?_ _)); exact BK104.out) hb); have n1_ := zam (zbt (by repeat (first | (with_reducible first | exact HB.out | apply zba | apply zbn | apply zb1 | refine zbs ?_ GE104.out) | exact HB.out)) hb); clear BK104; clear HB; have BK104 := n0_; have HB := n1_; clear n0_ n1_; (try clear hb); (try clear hb2); (try clear hk); (try clear hi)) | ((with_reducible refine zgd (N := 3) rfl ?_); (try (refine gate_guard (by rfl) ?_; dsimp only)); refine box_event ?hg (N := 3) ?hd (cs := #[.int .i64 0, .int .i64 0]) (t := 32) ?hr ?_; (case hd => rfl); (case hg => rfl); (case hr => first | (go_simp; done) | (go_simp; rfl)); intro gb108 hg w13 hbox hb; have n0_ := zam (zkb (g := gb104) (o := .cells #[.int .i64 t101, .int .i64 t102] 32 (0, 0)) (by (with_reducible repeat (first | refine zkn ?_ _ | refine zkd ?_ | refine zka ?_ _)); exact BK104.out) hb); have n1_ := zam (zbt (by repeat (first | (with_reducible first | exact HB.out | apply zba | apply zbn | apply zb1 | refine zbs ?_ GE104.out) | exact HB.out)) hb); have n2_ := zam (hbox); have n3_ := zam ((by rw [hg]; exact (zbz (by repeat (first | (with_reducible first | exact HB.out | apply zba | apply zbn | apply zb1 | refine zbs ?_ GE104.out) | exact HB.out))) : w.heap.size ≤ gb108)); have n4_ := zam ((by rw [hg]; exact (zbz (by repeat (first | (with_reducible first | exact HB.out | apply zba | apply zbn | apply zb1 | refine zbs ?_ GE104.out) | exact HB.out))) : w.heap.size ≤ gb108)); have n5_ := zam ((by rw [hg]; exact Nat.ne_of_lt (blk_lt (g := gb104) (o := .cells #[.int .i64 t101, .int .i64 t102] 32 (0, 0)) (by (with_reducible repeat (first | refine zkn ?_ _ | refine zkd ?_ | refine zka ?_ _)); exact BK104.out)) : gb104 ≠ gb108)); have n6_ := zam ((by rw [hg]; exact Nat.ne_of_gt (blk_lt (g := gb104) (o := .cells #[.int .i64 t101, .int .i64 t102] 32 (0, 0)) (by (with_reducible repeat (first | refine zkn ?_ _ | refine zkd ?_ | refine zka ?_ _)); exact BK104.out)) : gb108 ≠ gb104)); clear BK104; clear HB; have BK104 := n0_; have HB := n1_; have BK108 := n2_; have GW108 := n3_; have GE108 := n4_; have NB104_108 := n5_; have NB108_104 := n6_; clear n0_ n1_ n2_ n3_ n4_ n5_ n6_; clear hb hbox hg; have hnb14 := NB108_104.out; have hnc14 := NB104_108.out; have hcz15_0 : w13.cell? ⟨gb108, 0, none⟩ = some (.int .i64 0) := (zkc BK108.out 0).trans rfl; have hcz15_1 : w13.cell? ⟨gb108, 1, none⟩ = some (.int .i64 0) := (zkc BK108.out 1).trans rfl; have hfz15_0 := zkz BK108.out 0; have hfz15_1 := zkz BK108.out 1) | ((with_reducible refine zgd (N := 23) rfl ?_); (try (refine gate_guard (by rfl) ?_; dsimp only)); refine Kd.R_lit k32 _ 32 ?hg (N := 23) ?hd (xs := ([(⟨5, 6⟩ : S32), (⟨1, 2⟩ : S32), (⟨3, 3⟩ : S32)] : List (S32))) (inner := [.int .i64 5, .int .i64 6, .int .i64 1, .int .i64 2, .int .i64 3, .int .i64 3]) (ok := fun _ => True) (okp := fun _ => True) ?hr ?hp (fun _ hk => hk) trivial (Below.refl _ _) (Nat.le_refl _) (by simp) ?_; (case hd => rfl); (case hg => rfl); (case hr => first | (go_simp; done) | (go_simp; rfl)); (case hp => exact (Reps.c2 (show Kd.M k32 _ _ _ (⟨5, 6⟩ : S32) [.int .i64 5, .int .i64 6] from (k32_mkM _ _ _ (⟨5, 6⟩ : S32) )) (Reps.c2 (show Kd.M k32 _ _ _ (⟨1, 2⟩ : S32) [.int .i64 1, .int .i64 2] from (k32_mkM _ _ _ (⟨1, 2⟩ : S32) )) (Reps.c2 (show Kd.M k32 _ _ _ (⟨3, 3⟩ : S32) [.int .i64 3, .int .i64 3] from (k32_mkM _ _ _ (⟨3, 3⟩ : S32) )) (Reps.none _ _))))); intro v110 w16 ho17 hb hg_ hnew_; clear hg_ hnew_; (first | rw [← Ny109.out] at ho17 | (simp only [Int.reduceToNat] at ho17; rw [← Ny109.out] at ho17)); have n0_ := zam (Kd.R_lower (Kd.R_newB (Kd.R_newB ho17 (g := gb104) (o := .cells #[.int .i64 t101, .int .i64 t102] 32 (0, 0)) (by (with_reducible repeat (first | refine zkn ?_ _ | refine zkd ?_ | refine zka ?_ _)); refine blk_far ?_ NB104_108.out _; (with_reducible repeat (first | refine zkn ?_ _ | refine zkd ?_ | refine zka ?_ _)); refine blk_far ?_ NB104_108.out _; (with_reducible repeat (first | refine zkn ?_ _ | refine zkd ?_ | refine zka ?_ _)); exact BK104.out)) (g := gb108) (o := .cells #[.int .i64 t105, .int .i64 t106] 32 (0, 0)) (by (with_reducible repeat (first | refine zkn ?_ _ | refine zkd ?_ | refine zka ?_ _)); refine blk_put (cs := #[.int .i64 t105, .int .i64 0]) ?_ 1 _ rfl; (with_reducible repeat (first | refine zkn ?_ _ | refine zkd ?_ | refine zka ?_ _)); refine blk_put (cs := #[.int .i64 0, .int .i64 0]) ?_ 0 _ rfl; (with_reducible repeat (first | refine zkn ?_ _ | refine zkd ?_ | refine zka ?_ _)); exact BK108.out)) (zbz (by repeat (first | (with_reducible first | exact HB.out | apply zba | apply zbn | apply zb1 | refine zbs ?_ GE104.out | refine zbs ?_ GE108.out) | exact HB.out)))); have n1_ := zam (zkb (g := gb104) (o := .cells #[.int .i64 t101, .int .i64 t102] 32 (0, 0)) (by (with_reducible repeat (first | refine zkn ?_ _ | refine zkd ?_ | refine zka ?_ _)); refine blk_far ?_ NB104_108.out _; (with_reducible repeat (first | refine zkn ?_ _ | refine zkd ?_ | refine zka ?_ _)); refine blk_far ?_ NB104_108.out _; (with_reducible repeat (first | refine zkn ?_ _ | refine zkd ?_ | refine zka ?_ _)); exact BK104.out) hb); have n2_ := zam (zkb (g := gb108) (o := .cells #[.int .i64 t105, .int .i64 t106] 32 (0, 0)) (by (with_reducible repeat (first | refine zkn ?_ _ | refine zkd ?_ | refine zka ?_ _)); refine blk_put (cs := #[.int .i64 t105, .int .i64 0]) ?_ 1 _ rfl; (with_reducible repeat (first | refine zkn ?_ _ | refine zkd ?_ | refine zka ?_ _)); refine blk_put (cs := #[.int .i64 0, .int .i64 0]) ?_ 0 _ rfl; (with_reducible repeat (first | refine zkn ?_ _ | refine zkd ?_ | refine zka ?_ _)); exact BK108.out) hb); have n3_ := zam (zbt (by repeat (first | (with_reducible first | exact HB.out | apply zba | apply zbn | apply zb1 | refine zbs ?_ GE104.out | refine zbs ?_ GE108.out) | exact HB.out)) hb); clear BK104; clear BK108; clear HB; have HO111 := n0_; have BK104 := n1_; have BK108 := n2_; have HB := n3_; clear n0_ n1_ n2_ n3_; clear hb ho17; obtain ⟨Ao18, co18, eo18⟩ := Kd.R_slice HO111.out; subst eo18) | ((with_reducible refine zgc (f := 46) rfl ?_); refine goesL_ (some 24) rfl rfl Try.func46 (by kernel_rfl) rfl #[.slice Ao18 y109.length co18] rfl (by (try simp only [zmt, List.map_cons, List.map_nil]); first | done | rfl | (simp only [zld, zlt]; rfl)) ?_; (with_reducible refine (bound_Cover.calls k _ _ y109 t112 t113 _ ?side1 ?side2 A3.out).mono ?_); (case side1 => repeat (first | exact (Kd.R_reads' HO111.out).2.2 | (with_reducible refine Kd.C_alloc ?_ _) | (with_reducible refine Kd.C_drewN ?_ _) | (with_reducible refine Kd.C_drew ?_))); (case side2 => exact (Kd.R_reads' HO111.out).2.1); rintro e w19 ⟨v114, rfl, ho0, hb⟩; refine ⟨_, rfl, ?_⟩; have n0_ := zam (Kd.R_elder' (by (with_reducible repeat (first | apply zRa | apply zRn | apply zRd)); exact HO111.out) (Kd.R_base ho0) hb); have n1_ := zam (Kd.R_lower (Kd.R_newB (Kd.R_newB (Kd.R_new' ho0 (Kd.R_lt (by (with_reducible repeat (first | apply zRa | apply zRn | apply zRd)); exact HO111.out))) (g := gb104) (o := .cells #[.int .i64 t101, .int .i64 t102] 32 (0, 0)) (by (with_reducible repeat (first | refine zkn ?_ _ | refine zkd ?_ | refine zka ?_ _)); exact BK104.out)) (g := gb108) (o := .cells #[.int .i64 t105, .int .i64 t106] 32 (0, 0)) (by (with_reducible repeat (first | refine zkn ?_ _ | refine zkd ?_ | refine zka ?_ _)); exact BK108.out)) (zbz (by repeat (first | (with_reducible first | exact HB.out | apply zba | apply zbn | apply zb1 | refine zbs ?_ GE104.out | refine zbs ?_ GE108.out) | exact HB.out)))); have n2_ := zam (zkb (g := gb104) (o := .cells #[.int .i64 t101, .int .i64 t102] 32 (0, 0)) (by (with_reducible repeat (first | refine zkn ?_ _ | refine zkd ?_ | refine zka ?_ _)); exact BK104.out) hb); have n3_ := zam (zkb (g := gb108) (o := .cells #[.int .i64 t105, .int .i64 t106] 32 (0, 0)) (by (with_reducible repeat (first | refine zkn ?_ _ | refine zkd ?_ | refine zka ?_ _)); exact BK108.out) hb); have n4_ := zam (zbt (by repeat (first | (with_reducible first | exact HB.out | apply zba | apply zbn | apply zb1 | refine zbs ?_ GE104.out | refine zbs ?_ GE108.out) | exact HB.out)) hb); clear HO111; clear BK104; clear BK108; clear HB; have HO111 := n0_; have HO115 := n1_; have BK104 := n2_; have BK108 := n3_; have HB := n4_; clear n0_ n1_ n2_ n3_ n4_; (try clear hb); (try clear hb2); (try clear hk); (try clear hi); (try clear ho0); have hcz20_0 : w19.cell? ⟨gb104, 0, none⟩ = some (.int .i64 t101) := (zkc BK104.out 0).trans rfl; have hcz20_1 : w19.cell? ⟨gb104, 1, none⟩ = some (.int .i64 t102) := (zkc BK104.out 1).trans rfl; have hfz20_0 := zkz BK104.out 0; have hfz20_1 := zkz BK104.out 1; have hcz21_0 : w19.cell? ⟨gb108, 0, none⟩ = some (.int .i64 t105) := (zkc BK108.out 0).trans rfl; have hcz21_1 : w19.cell? ⟨gb108, 1, none⟩ = some (.int .i64 t106) := (zkc BK108.out 1).trans rfl; have hfz21_0 := zkz BK108.out 0; have hfz21_1 := zkz BK108.out 1; obtain ⟨Ao22, co22, eo22⟩ := Kd.R_slice HO115.out; subst eo22; have p116 : 0 ≤ (0 : Int) := (by omega); have q116 : 0 < (t112.length : Int) := zod (by first | (with_reducible assumption) | assumption); obtain ⟨ad116, e116, hx116_0, hx116_1⟩ := at_T32 (Kd.R_reads' HO115.out).2.2 0 p116 q116; cases e116; have qi116 : (0 < t112.length) = True := eq_true (by omega); (try rw [show ((0 : Int)).toNat = 0 from rfl] at hx116_0); (try rw [show 0 * 2 = 0 from rfl] at hx116_0); (try rw [Addr.add_zero'] at hx116_0); (try rw [show ((0 : Int)).toNat = 0 from rfl] at hx116_1); (try rw [show 0 * 2 = 0 from rfl] at hx116_1); (try rw [Addr.add_zero'] at hx116_1); replace p116 := eq_true p116; replace q116 := eq_true q116))
      go_ret
      exact ⟨by first | rfl | (simp [errW_none, errW_some] <;> rfl) | (simp [*, errW_none, errW_some] <;> rfl), by repeat (first | (with_reducible first | exact HB.out | apply zba | apply zbn | apply zb1 | refine zbs ?_ GE104.out | refine zbs ?_ GE108.out) | exact HB.out)⟩
     rw [if_neg c8] at H
     exact absurd H (by simp)
    rw [if_neg c7] at H
    have c7b0 : ((t112.length : Int) == 2) = false := beq_eq_false_iff_ne.mpr c7
    have c7b1 : ((t112.length : Int) != 2) = true := bne_iff_ne.mpr c7
    obtain rfl := zsi H
    go_enter Try.func18, Try.ntmps18
    go_wp2_with (first | ((with_reducible refine zgc (f := 28) rfl ?_); refine goesL_ (some 10) rfl rfl Try.func28 (by kernel_rfl) rfl #[.agg #[.int .i64 (-3), .int .i64 5], .agg #[.int .i64 2, .int .i64 4]] rfl (by (try simp only [zmt, List.map_cons, List.map_nil]); first | done | rfl | (simp only [zld, zlt]; rfl)) ?_; (with_reducible refine (bound_Mul.calls k (-3) 5 2 4 t101 t102 t103 _ A1.out).mono ?_); rintro e w23 ⟨rfl, hb⟩; refine ⟨_, rfl, ?_⟩; have n0_ := zam (zbt (by repeat (first | (with_reducible first | exact HB.out | apply zba | apply zbn | apply zb1) | exact HB.out)) hb); clear HB; have HB := n0_; clear n0_; (try clear hb); (try clear hb2); (try clear hk); (try clear hi)) | ((with_reducible refine zgd (N := 1) rfl ?_); (try (refine gate_guard (by rfl) ?_; dsimp only)); refine box_event ?hg (N := 1) ?hd (cs := #[.int .i64 0, .int .i64 0]) (t := 32) ?hr ?_; (case hd => rfl); (case hg => rfl); (case hr => first | (go_simp; done) | (go_simp; rfl)); intro gb104 hg w24 hbox hb; have n0_ := zam (zbt (by repeat (first | (with_reducible first | exact HB.out | apply zba | apply zbn | apply zb1) | exact HB.out)) hb); have n1_ := zam (hbox); have n2_ := zam ((by rw [hg]; exact (zbz (by repeat (first | (with_reducible first | exact HB.out | apply zba | apply zbn | apply zb1) | exact HB.out))) : w.heap.size ≤ gb104)); have n3_ := zam ((by rw [hg]; exact (zbz (by repeat (first | (with_reducible first | exact HB.out | apply zba | apply zbn | apply zb1) | exact HB.out))) : w.heap.size ≤ gb104)); clear HB; have HB := n0_; have BK104 := n1_; have GW104 := n2_; have GE104 := n3_; clear n0_ n1_ n2_ n3_; clear hb hbox hg; have hcz25_0 : w24.cell? ⟨gb104, 0, none⟩ = some (.int .i64 0) := (zkc BK104.out 0).trans rfl; have hcz25_1 : w24.cell? ⟨gb104, 1, none⟩ = some (.int .i64 0) := (zkc BK104.out 1).trans rfl; have hfz25_0 := zkz BK104.out 0; have hfz25_1 := zkz BK104.out 1) | ((with_reducible refine zgc (f := 61) rfl ?_); refine goesL_ (some 16) rfl rfl Try.func61 (by kernel_rfl) rfl #[.agg #[.int .i64 7, .int .i64 9], .agg #[.int .i64 (-4), .int .i64 (-2)]] rfl (by (try simp only [zmt, List.map_cons, List.map_nil]); first | done | rfl | (simp only [zld, zlt]; rfl)) ?_; (with_reducible refine (bound_Div.calls k 7 9 (-4) (-2) t105 t106 t107 _ A2.out).mono ?_); rintro e w26 ⟨rfl, hb⟩; refine ⟨_, rfl, ?_⟩; have n0_ := zam (zkb (g := gb104) (o := .cells #[.int .i64 t101, .int .i64 t102] 32 (0, 0)) (by (with_reducible repeat (first | refine zkn ?_ _ | refine zkd ?_ | refine zka ?_ _)); refine blk_put (cs := #[.int .i64 t101, .int .i64 0]) ?_ 1 _ rfl; (with_reducible repeat (first | refine zkn ?_ _ | refine zkd ?_ | refine zka ?_ _)); refine blk_put (cs := #[.int .i64 0, .int .i64 0]) ?_ 0 _ rfl; (with_reducible repeat (first | refine zkn ?_ _ | refine zkd ?_ | refine zka ?_ _)); exact BK104.out) hb); have n1_ := zam (zbt (by repeat (first | (with_reducible first | exact HB.out | apply zba | apply zbn | apply zb1 | refine zbs ?_ GE104.out) | exact HB.out)) hb); clear BK104; clear HB; have BK104 := n0_; have HB := n1_; clear n0_ n1_; (try clear hb); (try clear hb2); (try clear hk); (try clear hi)) | ((with_reducible refine zgd (N := 3) rfl ?_); (try (refine gate_guard (by rfl) ?_; dsimp only)); refine box_event ?hg (N := 3) ?hd (cs := #[.int .i64 0, .int .i64 0]) (t := 32) ?hr ?_; (case hd => rfl); (case hg => rfl); (case hr => first | (go_simp; done) | (go_simp; rfl)); intro gb108 hg w27 hbox hb; have n0_ := zam (zkb (g := gb104) (o := .cells #[.int .i64 t101, .int .i64 t102] 32 (0, 0)) (by (with_reducible repeat (first | refine zkn ?_ _ | refine zkd ?_ | refine zka ?_ _)); exact BK104.out) hb); have n1_ := zam (zbt (by repeat (first | (with_reducible first | exact HB.out | apply zba | apply zbn | apply zb1 | refine zbs ?_ GE104.out) | exact HB.out)) hb); have n2_ := zam (hbox); have n3_ := zam ((by rw [hg]; exact (zbz (by repeat (first | (with_reducible first | exact HB.out | apply zba | apply zbn | apply zb1 | refine zbs ?_ GE104.out) | exact HB.out))) : w.heap.size ≤ gb108)); have n4_ := zam ((by rw [hg]; exact (zbz (by repeat (first | (with_reducible first | exact HB.out | apply zba | apply zbn | apply zb1 | refine zbs ?_ GE104.out) | exact HB.out))) : w.heap.size ≤ gb108)); have n5_ := zam ((by rw [hg]; exact Nat.ne_of_lt (blk_lt (g := gb104) (o := .cells #[.int .i64 t101, .int .i64 t102] 32 (0, 0)) (by (with_reducible repeat (first | refine zkn ?_ _ | refine zkd ?_ | refine zka ?_ _)); exact BK104.out)) : gb104 ≠ gb108)); have n6_ := zam ((by rw [hg]; exact Nat.ne_of_gt (blk_lt (g := gb104) (o := .cells #[.int .i64 t101, .int .i64 t102] 32 (0, 0)) (by (with_reducible repeat (first | refine zkn ?_ _ | refine zkd ?_ | refine zka ?_ _)); exact BK104.out)) : gb108 ≠ gb104)); clear BK104; clear HB; have BK104 := n0_; have HB := n1_; have BK108 := n2_; have GW108 := n3_; have GE108 := n4_; have NB104_108 := n5_; have NB108_104 := n6_; clear n0_ n1_ n2_ n3_ n4_ n5_ n6_; clear hb hbox hg; have hnb28 := NB108_104.out; have hnc28 := NB104_108.out; have hcz29_0 : w27.cell? ⟨gb108, 0, none⟩ = some (.int .i64 0) := (zkc BK108.out 0).trans rfl; have hcz29_1 : w27.cell? ⟨gb108, 1, none⟩ = some (.int .i64 0) := (zkc BK108.out 1).trans rfl; have hfz29_0 := zkz BK108.out 0; have hfz29_1 := zkz BK108.out 1) | ((with_reducible refine zgd (N := 23) rfl ?_); (try (refine gate_guard (by rfl) ?_; dsimp only)); refine Kd.R_lit k32 _ 32 ?hg (N := 23) ?hd (xs := ([(⟨5, 6⟩ : S32), (⟨1, 2⟩ : S32), (⟨3, 3⟩ : S32)] : List (S32))) (inner := [.int .i64 5, .int .i64 6, .int .i64 1, .int .i64 2, .int .i64 3, .int .i64 3]) (ok := fun _ => True) (okp := fun _ => True) ?hr ?hp (fun _ hk => hk) trivial (Below.refl _ _) (Nat.le_refl _) (by simp) ?_; (case hd => rfl); (case hg => rfl); (case hr => first | (go_simp; done) | (go_simp; rfl)); (case hp => exact (Reps.c2 (show Kd.M k32 _ _ _ (⟨5, 6⟩ : S32) [.int .i64 5, .int .i64 6] from (k32_mkM _ _ _ (⟨5, 6⟩ : S32) )) (Reps.c2 (show Kd.M k32 _ _ _ (⟨1, 2⟩ : S32) [.int .i64 1, .int .i64 2] from (k32_mkM _ _ _ (⟨1, 2⟩ : S32) )) (Reps.c2 (show Kd.M k32 _ _ _ (⟨3, 3⟩ : S32) [.int .i64 3, .int .i64 3] from (k32_mkM _ _ _ (⟨3, 3⟩ : S32) )) (Reps.none _ _))))); intro v110 w30 ho31 hb hg_ hnew_; clear hg_ hnew_; (first | rw [← Ny109.out] at ho31 | (simp only [Int.reduceToNat] at ho31; rw [← Ny109.out] at ho31)); have n0_ := zam (Kd.R_lower (Kd.R_newB (Kd.R_newB ho31 (g := gb104) (o := .cells #[.int .i64 t101, .int .i64 t102] 32 (0, 0)) (by (with_reducible repeat (first | refine zkn ?_ _ | refine zkd ?_ | refine zka ?_ _)); refine blk_far ?_ NB104_108.out _; (with_reducible repeat (first | refine zkn ?_ _ | refine zkd ?_ | refine zka ?_ _)); refine blk_far ?_ NB104_108.out _; (with_reducible repeat (first | refine zkn ?_ _ | refine zkd ?_ | refine zka ?_ _)); exact BK104.out)) (g := gb108) (o := .cells #[.int .i64 t105, .int .i64 t106] 32 (0, 0)) (by (with_reducible repeat (first | refine zkn ?_ _ | refine zkd ?_ | refine zka ?_ _)); refine blk_put (cs := #[.int .i64 t105, .int .i64 0]) ?_ 1 _ rfl; (with_reducible repeat (first | refine zkn ?_ _ | refine zkd ?_ | refine zka ?_ _)); refine blk_put (cs := #[.int .i64 0, .int .i64 0]) ?_ 0 _ rfl; (with_reducible repeat (first | refine zkn ?_ _ | refine zkd ?_ | refine zka ?_ _)); exact BK108.out)) (zbz (by repeat (first | (with_reducible first | exact HB.out | apply zba | apply zbn | apply zb1 | refine zbs ?_ GE104.out | refine zbs ?_ GE108.out) | exact HB.out)))); have n1_ := zam (zkb (g := gb104) (o := .cells #[.int .i64 t101, .int .i64 t102] 32 (0, 0)) (by (with_reducible repeat (first | refine zkn ?_ _ | refine zkd ?_ | refine zka ?_ _)); refine blk_far ?_ NB104_108.out _; (with_reducible repeat (first | refine zkn ?_ _ | refine zkd ?_ | refine zka ?_ _)); refine blk_far ?_ NB104_108.out _; (with_reducible repeat (first | refine zkn ?_ _ | refine zkd ?_ | refine zka ?_ _)); exact BK104.out) hb); have n2_ := zam (zkb (g := gb108) (o := .cells #[.int .i64 t105, .int .i64 t106] 32 (0, 0)) (by (with_reducible repeat (first | refine zkn ?_ _ | refine zkd ?_ | refine zka ?_ _)); refine blk_put (cs := #[.int .i64 t105, .int .i64 0]) ?_ 1 _ rfl; (with_reducible repeat (first | refine zkn ?_ _ | refine zkd ?_ | refine zka ?_ _)); refine blk_put (cs := #[.int .i64 0, .int .i64 0]) ?_ 0 _ rfl; (with_reducible repeat (first | refine zkn ?_ _ | refine zkd ?_ | refine zka ?_ _)); exact BK108.out) hb); have n3_ := zam (zbt (by repeat (first | (with_reducible first | exact HB.out | apply zba | apply zbn | apply zb1 | refine zbs ?_ GE104.out | refine zbs ?_ GE108.out) | exact HB.out)) hb); clear BK104; clear BK108; clear HB; have HO111 := n0_; have BK104 := n1_; have BK108 := n2_; have HB := n3_; clear n0_ n1_ n2_ n3_; clear hb ho31; obtain ⟨Ao32, co32, eo32⟩ := Kd.R_slice HO111.out; subst eo32) | ((with_reducible refine zgc (f := 46) rfl ?_); refine goesL_ (some 24) rfl rfl Try.func46 (by kernel_rfl) rfl #[.slice Ao32 y109.length co32] rfl (by (try simp only [zmt, List.map_cons, List.map_nil]); first | done | rfl | (simp only [zld, zlt]; rfl)) ?_; (with_reducible refine (bound_Cover.calls k _ _ y109 t112 t113 _ ?side1 ?side2 A3.out).mono ?_); (case side1 => repeat (first | exact (Kd.R_reads' HO111.out).2.2 | (with_reducible refine Kd.C_alloc ?_ _) | (with_reducible refine Kd.C_drewN ?_ _) | (with_reducible refine Kd.C_drew ?_))); (case side2 => exact (Kd.R_reads' HO111.out).2.1); rintro e w33 ⟨v114, rfl, ho0, hb⟩; refine ⟨_, rfl, ?_⟩; have n0_ := zam (Kd.R_elder' (by (with_reducible repeat (first | apply zRa | apply zRn | apply zRd)); exact HO111.out) (Kd.R_base ho0) hb); have n1_ := zam (Kd.R_lower (Kd.R_newB (Kd.R_newB (Kd.R_new' ho0 (Kd.R_lt (by (with_reducible repeat (first | apply zRa | apply zRn | apply zRd)); exact HO111.out))) (g := gb104) (o := .cells #[.int .i64 t101, .int .i64 t102] 32 (0, 0)) (by (with_reducible repeat (first | refine zkn ?_ _ | refine zkd ?_ | refine zka ?_ _)); exact BK104.out)) (g := gb108) (o := .cells #[.int .i64 t105, .int .i64 t106] 32 (0, 0)) (by (with_reducible repeat (first | refine zkn ?_ _ | refine zkd ?_ | refine zka ?_ _)); exact BK108.out)) (zbz (by repeat (first | (with_reducible first | exact HB.out | apply zba | apply zbn | apply zb1 | refine zbs ?_ GE104.out | refine zbs ?_ GE108.out) | exact HB.out)))); have n2_ := zam (zkb (g := gb104) (o := .cells #[.int .i64 t101, .int .i64 t102] 32 (0, 0)) (by (with_reducible repeat (first | refine zkn ?_ _ | refine zkd ?_ | refine zka ?_ _)); exact BK104.out) hb); have n3_ := zam (zkb (g := gb108) (o := .cells #[.int .i64 t105, .int .i64 t106] 32 (0, 0)) (by (with_reducible repeat (first | refine zkn ?_ _ | refine zkd ?_ | refine zka ?_ _)); exact BK108.out) hb); have n4_ := zam (zbt (by repeat (first | (with_reducible first | exact HB.out | apply zba | apply zbn | apply zb1 | refine zbs ?_ GE104.out | refine zbs ?_ GE108.out) | exact HB.out)) hb); clear HO111; clear BK104; clear BK108; clear HB; have HO111 := n0_; have HO115 := n1_; have BK104 := n2_; have BK108 := n3_; have HB := n4_; clear n0_ n1_ n2_ n3_ n4_; (try clear hb); (try clear hb2); (try clear hk); (try clear hi); (try clear ho0); have hcz34_0 : w33.cell? ⟨gb104, 0, none⟩ = some (.int .i64 t101) := (zkc BK104.out 0).trans rfl; have hcz34_1 : w33.cell? ⟨gb104, 1, none⟩ = some (.int .i64 t102) := (zkc BK104.out 1).trans rfl; have hfz34_0 := zkz BK104.out 0; have hfz34_1 := zkz BK104.out 1; have hcz35_0 : w33.cell? ⟨gb108, 0, none⟩ = some (.int .i64 t105) := (zkc BK108.out 0).trans rfl; have hcz35_1 : w33.cell? ⟨gb108, 1, none⟩ = some (.int .i64 t106) := (zkc BK108.out 1).trans rfl; have hfz35_0 := zkz BK108.out 0; have hfz35_1 := zkz BK108.out 1; obtain ⟨Ao36, co36, eo36⟩ := Kd.R_slice HO115.out; subst eo36))
    go_ret
    exact ⟨by first | rfl | (simp [errW_none, errW_some] <;> rfl) | (simp [*, errW_none, errW_some] <;> rfl), by repeat (first | (with_reducible first | exact HB.out | apply zba | apply zbn | apply zb1 | refine zbs ?_ GE104.out | refine zbs ?_ GE108.out) | exact HB.out)⟩
   rw [if_neg c6] at H
   have c6b0 : (t105 == (-5) && (t106 == (-1))) = false := by simpa using c6
   (try (have c6b1 : decide (t105 = (-5) && (t106 == (-1))) = false := by simpa using c6))
   (try (have c6b2 : (t105 == (-5) && (t106 == (-1))) = false := by simpa using c6))
   (try (have c6b3 : ¬ (t105 = (-5) && (t106 == (-1))) := by simpa using c6))
   clear c6
   obtain rfl := zsi H
   go_enter Try.func18, Try.ntmps18
   go_wp2_with (first | ((with_reducible refine zgc (f := 28) rfl ?_); refine goesL_ (some 10) rfl rfl Try.func28 (by kernel_rfl) rfl #[.agg #[.int .i64 (-3), .int .i64 5], .agg #[.int .i64 2, .int .i64 4]] rfl (by (try simp only [zmt, List.map_cons, List.map_nil]); first | done | rfl | (simp only [zld, zlt]; rfl)) ?_; (with_reducible refine (bound_Mul.calls k (-3) 5 2 4 t101 t102 t103 _ A1.out).mono ?_); rintro e w37 ⟨rfl, hb⟩; refine ⟨_, rfl, ?_⟩; have n0_ := zam (zbt (by repeat (first | (with_reducible first | exact HB.out | apply zba | apply zbn | apply zb1) | exact HB.out)) hb); clear HB; have HB := n0_; clear n0_; (try clear hb); (try clear hb2); (try clear hk); (try clear hi)) | ((with_reducible refine zgd (N := 1) rfl ?_); (try (refine gate_guard (by rfl) ?_; dsimp only)); refine box_event ?hg (N := 1) ?hd (cs := #[.int .i64 0, .int .i64 0]) (t := 32) ?hr ?_; (case hd => rfl); (case hg => rfl); (case hr => first | (go_simp; done) | (go_simp; rfl)); intro gb104 hg w38 hbox hb; have n0_ := zam (zbt (by repeat (first | (with_reducible first | exact HB.out | apply zba | apply zbn | apply zb1) | exact HB.out)) hb); have n1_ := zam (hbox); have n2_ := zam ((by rw [hg]; exact (zbz (by repeat (first | (with_reducible first | exact HB.out | apply zba | apply zbn | apply zb1) | exact HB.out))) : w.heap.size ≤ gb104)); have n3_ := zam ((by rw [hg]; exact (zbz (by repeat (first | (with_reducible first | exact HB.out | apply zba | apply zbn | apply zb1) | exact HB.out))) : w.heap.size ≤ gb104)); clear HB; have HB := n0_; have BK104 := n1_; have GW104 := n2_; have GE104 := n3_; clear n0_ n1_ n2_ n3_; clear hb hbox hg; have hcz39_0 : w38.cell? ⟨gb104, 0, none⟩ = some (.int .i64 0) := (zkc BK104.out 0).trans rfl; have hcz39_1 : w38.cell? ⟨gb104, 1, none⟩ = some (.int .i64 0) := (zkc BK104.out 1).trans rfl; have hfz39_0 := zkz BK104.out 0; have hfz39_1 := zkz BK104.out 1) | ((with_reducible refine zgc (f := 61) rfl ?_); refine goesL_ (some 16) rfl rfl Try.func61 (by kernel_rfl) rfl #[.agg #[.int .i64 7, .int .i64 9], .agg #[.int .i64 (-4), .int .i64 (-2)]] rfl (by (try simp only [zmt, List.map_cons, List.map_nil]); first | done | rfl | (simp only [zld, zlt]; rfl)) ?_; (with_reducible refine (bound_Div.calls k 7 9 (-4) (-2) t105 t106 t107 _ A2.out).mono ?_); rintro e w40 ⟨rfl, hb⟩; refine ⟨_, rfl, ?_⟩; have n0_ := zam (zkb (g := gb104) (o := .cells #[.int .i64 t101, .int .i64 t102] 32 (0, 0)) (by (with_reducible repeat (first | refine zkn ?_ _ | refine zkd ?_ | refine zka ?_ _)); refine blk_put (cs := #[.int .i64 t101, .int .i64 0]) ?_ 1 _ rfl; (with_reducible repeat (first | refine zkn ?_ _ | refine zkd ?_ | refine zka ?_ _)); refine blk_put (cs := #[.int .i64 0, .int .i64 0]) ?_ 0 _ rfl; (with_reducible repeat (first | refine zkn ?_ _ | refine zkd ?_ | refine zka ?_ _)); exact BK104.out) hb); have n1_ := zam (zbt (by repeat (first | (with_reducible first | exact HB.out | apply zba | apply zbn | apply zb1 | refine zbs ?_ GE104.out) | exact HB.out)) hb); clear BK104; clear HB; have BK104 := n0_; have HB := n1_; clear n0_ n1_; (try clear hb); (try clear hb2); (try clear hk); (try clear hi)) | ((with_reducible refine zgd (N := 3) rfl ?_); (try (refine gate_guard (by rfl) ?_; dsimp only)); refine box_event ?hg (N := 3) ?hd (cs := #[.int .i64 0, .int .i64 0]) (t := 32) ?hr ?_; (case hd => rfl); (case hg => rfl); (case hr => first | (go_simp; done) | (go_simp; rfl)); intro gb108 hg w41 hbox hb; have n0_ := zam (zkb (g := gb104) (o := .cells #[.int .i64 t101, .int .i64 t102] 32 (0, 0)) (by (with_reducible repeat (first | refine zkn ?_ _ | refine zkd ?_ | refine zka ?_ _)); exact BK104.out) hb); have n1_ := zam (zbt (by repeat (first | (with_reducible first | exact HB.out | apply zba | apply zbn | apply zb1 | refine zbs ?_ GE104.out) | exact HB.out)) hb); have n2_ := zam (hbox); have n3_ := zam ((by rw [hg]; exact (zbz (by repeat (first | (with_reducible first | exact HB.out | apply zba | apply zbn | apply zb1 | refine zbs ?_ GE104.out) | exact HB.out))) : w.heap.size ≤ gb108)); have n4_ := zam ((by rw [hg]; exact (zbz (by repeat (first | (with_reducible first | exact HB.out | apply zba | apply zbn | apply zb1 | refine zbs ?_ GE104.out) | exact HB.out))) : w.heap.size ≤ gb108)); have n5_ := zam ((by rw [hg]; exact Nat.ne_of_lt (blk_lt (g := gb104) (o := .cells #[.int .i64 t101, .int .i64 t102] 32 (0, 0)) (by (with_reducible repeat (first | refine zkn ?_ _ | refine zkd ?_ | refine zka ?_ _)); exact BK104.out)) : gb104 ≠ gb108)); have n6_ := zam ((by rw [hg]; exact Nat.ne_of_gt (blk_lt (g := gb104) (o := .cells #[.int .i64 t101, .int .i64 t102] 32 (0, 0)) (by (with_reducible repeat (first | refine zkn ?_ _ | refine zkd ?_ | refine zka ?_ _)); exact BK104.out)) : gb108 ≠ gb104)); clear BK104; clear HB; have BK104 := n0_; have HB := n1_; have BK108 := n2_; have GW108 := n3_; have GE108 := n4_; have NB104_108 := n5_; have NB108_104 := n6_; clear n0_ n1_ n2_ n3_ n4_ n5_ n6_; clear hb hbox hg; have hnb42 := NB108_104.out; have hnc42 := NB104_108.out; have hcz43_0 : w41.cell? ⟨gb108, 0, none⟩ = some (.int .i64 0) := (zkc BK108.out 0).trans rfl; have hcz43_1 : w41.cell? ⟨gb108, 1, none⟩ = some (.int .i64 0) := (zkc BK108.out 1).trans rfl; have hfz43_0 := zkz BK108.out 0; have hfz43_1 := zkz BK108.out 1) | ((with_reducible refine zgd (N := 23) rfl ?_); (try (refine gate_guard (by rfl) ?_; dsimp only)); refine Kd.R_lit k32 _ 32 ?hg (N := 23) ?hd (xs := ([(⟨5, 6⟩ : S32), (⟨1, 2⟩ : S32), (⟨3, 3⟩ : S32)] : List (S32))) (inner := [.int .i64 5, .int .i64 6, .int .i64 1, .int .i64 2, .int .i64 3, .int .i64 3]) (ok := fun _ => True) (okp := fun _ => True) ?hr ?hp (fun _ hk => hk) trivial (Below.refl _ _) (Nat.le_refl _) (by simp) ?_; (case hd => rfl); (case hg => rfl); (case hr => first | (go_simp; done) | (go_simp; rfl)); (case hp => exact (Reps.c2 (show Kd.M k32 _ _ _ (⟨5, 6⟩ : S32) [.int .i64 5, .int .i64 6] from (k32_mkM _ _ _ (⟨5, 6⟩ : S32) )) (Reps.c2 (show Kd.M k32 _ _ _ (⟨1, 2⟩ : S32) [.int .i64 1, .int .i64 2] from (k32_mkM _ _ _ (⟨1, 2⟩ : S32) )) (Reps.c2 (show Kd.M k32 _ _ _ (⟨3, 3⟩ : S32) [.int .i64 3, .int .i64 3] from (k32_mkM _ _ _ (⟨3, 3⟩ : S32) )) (Reps.none _ _))))); intro v110 w44 ho45 hb hg_ hnew_; clear hg_ hnew_; (first | rw [← Ny109.out] at ho45 | (simp only [Int.reduceToNat] at ho45; rw [← Ny109.out] at ho45)); have n0_ := zam (Kd.R_lower (Kd.R_newB (Kd.R_newB ho45 (g := gb104) (o := .cells #[.int .i64 t101, .int .i64 t102] 32 (0, 0)) (by (with_reducible repeat (first | refine zkn ?_ _ | refine zkd ?_ | refine zka ?_ _)); refine blk_far ?_ NB104_108.out _; (with_reducible repeat (first | refine zkn ?_ _ | refine zkd ?_ | refine zka ?_ _)); refine blk_far ?_ NB104_108.out _; (with_reducible repeat (first | refine zkn ?_ _ | refine zkd ?_ | refine zka ?_ _)); exact BK104.out)) (g := gb108) (o := .cells #[.int .i64 t105, .int .i64 t106] 32 (0, 0)) (by (with_reducible repeat (first | refine zkn ?_ _ | refine zkd ?_ | refine zka ?_ _)); refine blk_put (cs := #[.int .i64 t105, .int .i64 0]) ?_ 1 _ rfl; (with_reducible repeat (first | refine zkn ?_ _ | refine zkd ?_ | refine zka ?_ _)); refine blk_put (cs := #[.int .i64 0, .int .i64 0]) ?_ 0 _ rfl; (with_reducible repeat (first | refine zkn ?_ _ | refine zkd ?_ | refine zka ?_ _)); exact BK108.out)) (zbz (by repeat (first | (with_reducible first | exact HB.out | apply zba | apply zbn | apply zb1 | refine zbs ?_ GE104.out | refine zbs ?_ GE108.out) | exact HB.out)))); have n1_ := zam (zkb (g := gb104) (o := .cells #[.int .i64 t101, .int .i64 t102] 32 (0, 0)) (by (with_reducible repeat (first | refine zkn ?_ _ | refine zkd ?_ | refine zka ?_ _)); refine blk_far ?_ NB104_108.out _; (with_reducible repeat (first | refine zkn ?_ _ | refine zkd ?_ | refine zka ?_ _)); refine blk_far ?_ NB104_108.out _; (with_reducible repeat (first | refine zkn ?_ _ | refine zkd ?_ | refine zka ?_ _)); exact BK104.out) hb); have n2_ := zam (zkb (g := gb108) (o := .cells #[.int .i64 t105, .int .i64 t106] 32 (0, 0)) (by (with_reducible repeat (first | refine zkn ?_ _ | refine zkd ?_ | refine zka ?_ _)); refine blk_put (cs := #[.int .i64 t105, .int .i64 0]) ?_ 1 _ rfl; (with_reducible repeat (first | refine zkn ?_ _ | refine zkd ?_ | refine zka ?_ _)); refine blk_put (cs := #[.int .i64 0, .int .i64 0]) ?_ 0 _ rfl; (with_reducible repeat (first | refine zkn ?_ _ | refine zkd ?_ | refine zka ?_ _)); exact BK108.out) hb); have n3_ := zam (zbt (by repeat (first | (with_reducible first | exact HB.out | apply zba | apply zbn | apply zb1 | refine zbs ?_ GE104.out | refine zbs ?_ GE108.out) | exact HB.out)) hb); clear BK104; clear BK108; clear HB; have HO111 := n0_; have BK104 := n1_; have BK108 := n2_; have HB := n3_; clear n0_ n1_ n2_ n3_; clear hb ho45; obtain ⟨Ao46, co46, eo46⟩ := Kd.R_slice HO111.out; subst eo46) | ((with_reducible refine zgc (f := 46) rfl ?_); refine goesL_ (some 24) rfl rfl Try.func46 (by kernel_rfl) rfl #[.slice Ao46 y109.length co46] rfl (by (try simp only [zmt, List.map_cons, List.map_nil]); first | done | rfl | (simp only [zld, zlt]; rfl)) ?_; (with_reducible refine (bound_Cover.calls k _ _ y109 t112 t113 _ ?side1 ?side2 A3.out).mono ?_); (case side1 => repeat (first | exact (Kd.R_reads' HO111.out).2.2 | (with_reducible refine Kd.C_alloc ?_ _) | (with_reducible refine Kd.C_drewN ?_ _) | (with_reducible refine Kd.C_drew ?_))); (case side2 => exact (Kd.R_reads' HO111.out).2.1); rintro e w47 ⟨v114, rfl, ho0, hb⟩; refine ⟨_, rfl, ?_⟩; have n0_ := zam (Kd.R_elder' (by (with_reducible repeat (first | apply zRa | apply zRn | apply zRd)); exact HO111.out) (Kd.R_base ho0) hb); have n1_ := zam (Kd.R_lower (Kd.R_newB (Kd.R_newB (Kd.R_new' ho0 (Kd.R_lt (by (with_reducible repeat (first | apply zRa | apply zRn | apply zRd)); exact HO111.out))) (g := gb104) (o := .cells #[.int .i64 t101, .int .i64 t102] 32 (0, 0)) (by (with_reducible repeat (first | refine zkn ?_ _ | refine zkd ?_ | refine zka ?_ _)); exact BK104.out)) (g := gb108) (o := .cells #[.int .i64 t105, .int .i64 t106] 32 (0, 0)) (by (with_reducible repeat (first | refine zkn ?_ _ | refine zkd ?_ | refine zka ?_ _)); exact BK108.out)) (zbz (by repeat (first | (with_reducible first | exact HB.out | apply zba | apply zbn | apply zb1 | refine zbs ?_ GE104.out | refine zbs ?_ GE108.out) | exact HB.out)))); have n2_ := zam (zkb (g := gb104) (o := .cells #[.int .i64 t101, .int .i64 t102] 32 (0, 0)) (by (with_reducible repeat (first | refine zkn ?_ _ | refine zkd ?_ | refine zka ?_ _)); exact BK104.out) hb); have n3_ := zam (zkb (g := gb108) (o := .cells #[.int .i64 t105, .int .i64 t106] 32 (0, 0)) (by (with_reducible repeat (first | refine zkn ?_ _ | refine zkd ?_ | refine zka ?_ _)); exact BK108.out) hb); have n4_ := zam (zbt (by repeat (first | (with_reducible first | exact HB.out | apply zba | apply zbn | apply zb1 | refine zbs ?_ GE104.out | refine zbs ?_ GE108.out) | exact HB.out)) hb); clear HO111; clear BK104; clear BK108; clear HB; have HO111 := n0_; have HO115 := n1_; have BK104 := n2_; have BK108 := n3_; have HB := n4_; clear n0_ n1_ n2_ n3_ n4_; (try clear hb); (try clear hb2); (try clear hk); (try clear hi); (try clear ho0); have hcz48_0 : w47.cell? ⟨gb104, 0, none⟩ = some (.int .i64 t101) := (zkc BK104.out 0).trans rfl; have hcz48_1 : w47.cell? ⟨gb104, 1, none⟩ = some (.int .i64 t102) := (zkc BK104.out 1).trans rfl; have hfz48_0 := zkz BK104.out 0; have hfz48_1 := zkz BK104.out 1; have hcz49_0 : w47.cell? ⟨gb108, 0, none⟩ = some (.int .i64 t105) := (zkc BK108.out 0).trans rfl; have hcz49_1 : w47.cell? ⟨gb108, 1, none⟩ = some (.int .i64 t106) := (zkc BK108.out 1).trans rfl; have hfz49_0 := zkz BK108.out 0; have hfz49_1 := zkz BK108.out 1))
   go_ret
   exact ⟨by first | rfl | (simp [errW_none, errW_some] <;> rfl) | (simp [*, errW_none, errW_some] <;> rfl), by repeat (first | (with_reducible first | exact HB.out | apply zba | apply zbn | apply zb1 | refine zbs ?_ GE104.out | refine zbs ?_ GE108.out) | exact HB.out)⟩
  rw [if_neg c5] at H
  have c5b0 : (t101 == (-12) && (t102 == 20)) = false := by simpa using c5
  (try (have c5b1 : decide (t101 = (-12) && (t102 == 20)) = false := by simpa using c5))
  (try (have c5b2 : (t101 == (-12) && (t102 == 20)) = false := by simpa using c5))
  (try (have c5b3 : ¬ (t101 = (-12) && (t102 == 20)) := by simpa using c5))
  clear c5
  obtain rfl := zsi H
  go_enter Try.func18, Try.ntmps18
  go_wp2_with (first | ((with_reducible refine zgc (f := 28) rfl ?_); refine goesL_ (some 10) rfl rfl Try.func28 (by kernel_rfl) rfl #[.agg #[.int .i64 (-3), .int .i64 5], .agg #[.int .i64 2, .int .i64 4]] rfl (by (try simp only [zmt, List.map_cons, List.map_nil]); first | done | rfl | (simp only [zld, zlt]; rfl)) ?_; (with_reducible refine (bound_Mul.calls k (-3) 5 2 4 t101 t102 t103 _ A1.out).mono ?_); rintro e w50 ⟨rfl, hb⟩; refine ⟨_, rfl, ?_⟩; have n0_ := zam (zbt (by repeat (first | (with_reducible first | exact HB.out | apply zba | apply zbn | apply zb1) | exact HB.out)) hb); clear HB; have HB := n0_; clear n0_; (try clear hb); (try clear hb2); (try clear hk); (try clear hi)) | ((with_reducible refine zgd (N := 1) rfl ?_); (try (refine gate_guard (by rfl) ?_; dsimp only)); refine box_event ?hg (N := 1) ?hd (cs := #[.int .i64 0, .int .i64 0]) (t := 32) ?hr ?_; (case hd => rfl); (case hg => rfl); (case hr => first | (go_simp; done) | (go_simp; rfl)); intro gb104 hg w51 hbox hb; have n0_ := zam (zbt (by repeat (first | (with_reducible first | exact HB.out | apply zba | apply zbn | apply zb1) | exact HB.out)) hb); have n1_ := zam (hbox); have n2_ := zam ((by rw [hg]; exact (zbz (by repeat (first | (with_reducible first | exact HB.out | apply zba | apply zbn | apply zb1) | exact HB.out))) : w.heap.size ≤ gb104)); have n3_ := zam ((by rw [hg]; exact (zbz (by repeat (first | (with_reducible first | exact HB.out | apply zba | apply zbn | apply zb1) | exact HB.out))) : w.heap.size ≤ gb104)); clear HB; have HB := n0_; have BK104 := n1_; have GW104 := n2_; have GE104 := n3_; clear n0_ n1_ n2_ n3_; clear hb hbox hg; have hcz52_0 : w51.cell? ⟨gb104, 0, none⟩ = some (.int .i64 0) := (zkc BK104.out 0).trans rfl; have hcz52_1 : w51.cell? ⟨gb104, 1, none⟩ = some (.int .i64 0) := (zkc BK104.out 1).trans rfl; have hfz52_0 := zkz BK104.out 0; have hfz52_1 := zkz BK104.out 1) | ((with_reducible refine zgc (f := 61) rfl ?_); refine goesL_ (some 16) rfl rfl Try.func61 (by kernel_rfl) rfl #[.agg #[.int .i64 7, .int .i64 9], .agg #[.int .i64 (-4), .int .i64 (-2)]] rfl (by (try simp only [zmt, List.map_cons, List.map_nil]); first | done | rfl | (simp only [zld, zlt]; rfl)) ?_; (with_reducible refine (bound_Div.calls k 7 9 (-4) (-2) t105 t106 t107 _ A2.out).mono ?_); rintro e w53 ⟨rfl, hb⟩; refine ⟨_, rfl, ?_⟩; have n0_ := zam (zkb (g := gb104) (o := .cells #[.int .i64 t101, .int .i64 t102] 32 (0, 0)) (by (with_reducible repeat (first | refine zkn ?_ _ | refine zkd ?_ | refine zka ?_ _)); refine blk_put (cs := #[.int .i64 t101, .int .i64 0]) ?_ 1 _ rfl; (with_reducible repeat (first | refine zkn ?_ _ | refine zkd ?_ | refine zka ?_ _)); refine blk_put (cs := #[.int .i64 0, .int .i64 0]) ?_ 0 _ rfl; (with_reducible repeat (first | refine zkn ?_ _ | refine zkd ?_ | refine zka ?_ _)); exact BK104.out) hb); have n1_ := zam (zbt (by repeat (first | (with_reducible first | exact HB.out | apply zba | apply zbn | apply zb1 | refine zbs ?_ GE104.out) | exact HB.out)) hb); clear BK104; clear HB; have BK104 := n0_; have HB := n1_; clear n0_ n1_; (try clear hb); (try clear hb2); (try clear hk); (try clear hi)) | ((with_reducible refine zgd (N := 3) rfl ?_); (try (refine gate_guard (by rfl) ?_; dsimp only)); refine box_event ?hg (N := 3) ?hd (cs := #[.int .i64 0, .int .i64 0]) (t := 32) ?hr ?_; (case hd => rfl); (case hg => rfl); (case hr => first | (go_simp; done) | (go_simp; rfl)); intro gb108 hg w54 hbox hb; have n0_ := zam (zkb (g := gb104) (o := .cells #[.int .i64 t101, .int .i64 t102] 32 (0, 0)) (by (with_reducible repeat (first | refine zkn ?_ _ | refine zkd ?_ | refine zka ?_ _)); exact BK104.out) hb); have n1_ := zam (zbt (by repeat (first | (with_reducible first | exact HB.out | apply zba | apply zbn | apply zb1 | refine zbs ?_ GE104.out) | exact HB.out)) hb); have n2_ := zam (hbox); have n3_ := zam ((by rw [hg]; exact (zbz (by repeat (first | (with_reducible first | exact HB.out | apply zba | apply zbn | apply zb1 | refine zbs ?_ GE104.out) | exact HB.out))) : w.heap.size ≤ gb108)); have n4_ := zam ((by rw [hg]; exact (zbz (by repeat (first | (with_reducible first | exact HB.out | apply zba | apply zbn | apply zb1 | refine zbs ?_ GE104.out) | exact HB.out))) : w.heap.size ≤ gb108)); have n5_ := zam ((by rw [hg]; exact Nat.ne_of_lt (blk_lt (g := gb104) (o := .cells #[.int .i64 t101, .int .i64 t102] 32 (0, 0)) (by (with_reducible repeat (first | refine zkn ?_ _ | refine zkd ?_ | refine zka ?_ _)); exact BK104.out)) : gb104 ≠ gb108)); have n6_ := zam ((by rw [hg]; exact Nat.ne_of_gt (blk_lt (g := gb104) (o := .cells #[.int .i64 t101, .int .i64 t102] 32 (0, 0)) (by (with_reducible repeat (first | refine zkn ?_ _ | refine zkd ?_ | refine zka ?_ _)); exact BK104.out)) : gb108 ≠ gb104)); clear BK104; clear HB; have BK104 := n0_; have HB := n1_; have BK108 := n2_; have GW108 := n3_; have GE108 := n4_; have NB104_108 := n5_; have NB108_104 := n6_; clear n0_ n1_ n2_ n3_ n4_ n5_ n6_; clear hb hbox hg; have hnb55 := NB108_104.out; have hnc55 := NB104_108.out; have hcz56_0 : w54.cell? ⟨gb108, 0, none⟩ = some (.int .i64 0) := (zkc BK108.out 0).trans rfl; have hcz56_1 : w54.cell? ⟨gb108, 1, none⟩ = some (.int .i64 0) := (zkc BK108.out 1).trans rfl; have hfz56_0 := zkz BK108.out 0; have hfz56_1 := zkz BK108.out 1) | ((with_reducible refine zgd (N := 23) rfl ?_); (try (refine gate_guard (by rfl) ?_; dsimp only)); refine Kd.R_lit k32 _ 32 ?hg (N := 23) ?hd (xs := ([(⟨5, 6⟩ : S32), (⟨1, 2⟩ : S32), (⟨3, 3⟩ : S32)] : List (S32))) (inner := [.int .i64 5, .int .i64 6, .int .i64 1, .int .i64 2, .int .i64 3, .int .i64 3]) (ok := fun _ => True) (okp := fun _ => True) ?hr ?hp (fun _ hk => hk) trivial (Below.refl _ _) (Nat.le_refl _) (by simp) ?_; (case hd => rfl); (case hg => rfl); (case hr => first | (go_simp; done) | (go_simp; rfl)); (case hp => exact (Reps.c2 (show Kd.M k32 _ _ _ (⟨5, 6⟩ : S32) [.int .i64 5, .int .i64 6] from (k32_mkM _ _ _ (⟨5, 6⟩ : S32) )) (Reps.c2 (show Kd.M k32 _ _ _ (⟨1, 2⟩ : S32) [.int .i64 1, .int .i64 2] from (k32_mkM _ _ _ (⟨1, 2⟩ : S32) )) (Reps.c2 (show Kd.M k32 _ _ _ (⟨3, 3⟩ : S32) [.int .i64 3, .int .i64 3] from (k32_mkM _ _ _ (⟨3, 3⟩ : S32) )) (Reps.none _ _))))); intro v110 w57 ho58 hb hg_ hnew_; clear hg_ hnew_; (first | rw [← Ny109.out] at ho58 | (simp only [Int.reduceToNat] at ho58; rw [← Ny109.out] at ho58)); have n0_ := zam (Kd.R_lower (Kd.R_newB (Kd.R_newB ho58 (g := gb104) (o := .cells #[.int .i64 t101, .int .i64 t102] 32 (0, 0)) (by (with_reducible repeat (first | refine zkn ?_ _ | refine zkd ?_ | refine zka ?_ _)); refine blk_far ?_ NB104_108.out _; (with_reducible repeat (first | refine zkn ?_ _ | refine zkd ?_ | refine zka ?_ _)); refine blk_far ?_ NB104_108.out _; (with_reducible repeat (first | refine zkn ?_ _ | refine zkd ?_ | refine zka ?_ _)); exact BK104.out)) (g := gb108) (o := .cells #[.int .i64 t105, .int .i64 t106] 32 (0, 0)) (by (with_reducible repeat (first | refine zkn ?_ _ | refine zkd ?_ | refine zka ?_ _)); refine blk_put (cs := #[.int .i64 t105, .int .i64 0]) ?_ 1 _ rfl; (with_reducible repeat (first | refine zkn ?_ _ | refine zkd ?_ | refine zka ?_ _)); refine blk_put (cs := #[.int .i64 0, .int .i64 0]) ?_ 0 _ rfl; (with_reducible repeat (first | refine zkn ?_ _ | refine zkd ?_ | refine zka ?_ _)); exact BK108.out)) (zbz (by repeat (first | (with_reducible first | exact HB.out | apply zba | apply zbn | apply zb1 | refine zbs ?_ GE104.out | refine zbs ?_ GE108.out) | exact HB.out)))); have n1_ := zam (zkb (g := gb104) (o := .cells #[.int .i64 t101, .int .i64 t102] 32 (0, 0)) (by (with_reducible repeat (first | refine zkn ?_ _ | refine zkd ?_ | refine zka ?_ _)); refine blk_far ?_ NB104_108.out _; (with_reducible repeat (first | refine zkn ?_ _ | refine zkd ?_ | refine zka ?_ _)); refine blk_far ?_ NB104_108.out _; (with_reducible repeat (first | refine zkn ?_ _ | refine zkd ?_ | refine zka ?_ _)); exact BK104.out) hb); have n2_ := zam (zkb (g := gb108) (o := .cells #[.int .i64 t105, .int .i64 t106] 32 (0, 0)) (by (with_reducible repeat (first | refine zkn ?_ _ | refine zkd ?_ | refine zka ?_ _)); refine blk_put (cs := #[.int .i64 t105, .int .i64 0]) ?_ 1 _ rfl; (with_reducible repeat (first | refine zkn ?_ _ | refine zkd ?_ | refine zka ?_ _)); refine blk_put (cs := #[.int .i64 0, .int .i64 0]) ?_ 0 _ rfl; (with_reducible repeat (first | refine zkn ?_ _ | refine zkd ?_ | refine zka ?_ _)); exact BK108.out) hb); have n3_ := zam (zbt (by repeat (first | (with_reducible first | exact HB.out | apply zba | apply zbn | apply zb1 | refine zbs ?_ GE104.out | refine zbs ?_ GE108.out) | exact HB.out)) hb); clear BK104; clear BK108; clear HB; have HO111 := n0_; have BK104 := n1_; have BK108 := n2_; have HB := n3_; clear n0_ n1_ n2_ n3_; clear hb ho58; obtain ⟨Ao59, co59, eo59⟩ := Kd.R_slice HO111.out; subst eo59) | ((with_reducible refine zgc (f := 46) rfl ?_); refine goesL_ (some 24) rfl rfl Try.func46 (by kernel_rfl) rfl #[.slice Ao59 y109.length co59] rfl (by (try simp only [zmt, List.map_cons, List.map_nil]); first | done | rfl | (simp only [zld, zlt]; rfl)) ?_; (with_reducible refine (bound_Cover.calls k _ _ y109 t112 t113 _ ?side1 ?side2 A3.out).mono ?_); (case side1 => repeat (first | exact (Kd.R_reads' HO111.out).2.2 | (with_reducible refine Kd.C_alloc ?_ _) | (with_reducible refine Kd.C_drewN ?_ _) | (with_reducible refine Kd.C_drew ?_))); (case side2 => exact (Kd.R_reads' HO111.out).2.1); rintro e w60 ⟨v114, rfl, ho0, hb⟩; refine ⟨_, rfl, ?_⟩; have n0_ := zam (Kd.R_elder' (by (with_reducible repeat (first | apply zRa | apply zRn | apply zRd)); exact HO111.out) (Kd.R_base ho0) hb); have n1_ := zam (Kd.R_lower (Kd.R_newB (Kd.R_newB (Kd.R_new' ho0 (Kd.R_lt (by (with_reducible repeat (first | apply zRa | apply zRn | apply zRd)); exact HO111.out))) (g := gb104) (o := .cells #[.int .i64 t101, .int .i64 t102] 32 (0, 0)) (by (with_reducible repeat (first | refine zkn ?_ _ | refine zkd ?_ | refine zka ?_ _)); exact BK104.out)) (g := gb108) (o := .cells #[.int .i64 t105, .int .i64 t106] 32 (0, 0)) (by (with_reducible repeat (first | refine zkn ?_ _ | refine zkd ?_ | refine zka ?_ _)); exact BK108.out)) (zbz (by repeat (first | (with_reducible first | exact HB.out | apply zba | apply zbn | apply zb1 | refine zbs ?_ GE104.out | refine zbs ?_ GE108.out) | exact HB.out)))); have n2_ := zam (zkb (g := gb104) (o := .cells #[.int .i64 t101, .int .i64 t102] 32 (0, 0)) (by (with_reducible repeat (first | refine zkn ?_ _ | refine zkd ?_ | refine zka ?_ _)); exact BK104.out) hb); have n3_ := zam (zkb (g := gb108) (o := .cells #[.int .i64 t105, .int .i64 t106] 32 (0, 0)) (by (with_reducible repeat (first | refine zkn ?_ _ | refine zkd ?_ | refine zka ?_ _)); exact BK108.out) hb); have n4_ := zam (zbt (by repeat (first | (with_reducible first | exact HB.out | apply zba | apply zbn | apply zb1 | refine zbs ?_ GE104.out | refine zbs ?_ GE108.out) | exact HB.out)) hb); clear HO111; clear BK104; clear BK108; clear HB; have HO111 := n0_; have HO115 := n1_; have BK104 := n2_; have BK108 := n3_; have HB := n4_; clear n0_ n1_ n2_ n3_ n4_; (try clear hb); (try clear hb2); (try clear hk); (try clear hi); (try clear ho0); have hcz61_0 : w60.cell? ⟨gb104, 0, none⟩ = some (.int .i64 t101) := (zkc BK104.out 0).trans rfl; have hcz61_1 : w60.cell? ⟨gb104, 1, none⟩ = some (.int .i64 t102) := (zkc BK104.out 1).trans rfl; have hfz61_0 := zkz BK104.out 0; have hfz61_1 := zkz BK104.out 1))
  go_ret
  exact ⟨by first | rfl | (simp [errW_none, errW_some] <;> rfl) | (simp [*, errW_none, errW_some] <;> rfl), by repeat (first | (with_reducible first | exact HB.out | apply zba | apply zbn | apply zb1 | refine zbs ?_ GE104.out | refine zbs ?_ GE108.out) | exact HB.out)⟩
 rw [if_neg c4] at H
 have c4b0 : ((wrap64 ((wrap64 (t103 + t107)) + t113)) == 0) = false := beq_eq_false_iff_ne.mpr c4
 have c4b1 : ((wrap64 ((wrap64 (t103 + t107)) + t113)) != 0) = true := bne_iff_ne.mpr c4
 obtain rfl := zsi H
 go_enter Try.func18, Try.ntmps18
 go_wp2_with (first | ((with_reducible refine zgc (f := 28) rfl ?_); refine goesL_ (some 10) rfl rfl Try.func28 (by kernel_rfl) rfl #[.agg #[.int .i64 (-3), .int .i64 5], .agg #[.int .i64 2, .int .i64 4]] rfl (by (try simp only [zmt, List.map_cons, List.map_nil]); first | done | rfl | (simp only [zld, zlt]; rfl)) ?_; (with_reducible refine (bound_Mul.calls k (-3) 5 2 4 t101 t102 t103 _ A1.out).mono ?_); rintro e w62 ⟨rfl, hb⟩; refine ⟨_, rfl, ?_⟩; have n0_ := zam (zbt (by repeat (first | (with_reducible first | exact HB.out | apply zba | apply zbn | apply zb1) | exact HB.out)) hb); clear HB; have HB := n0_; clear n0_; (try clear hb); (try clear hb2); (try clear hk); (try clear hi)) | ((with_reducible refine zgd (N := 1) rfl ?_); (try (refine gate_guard (by rfl) ?_; dsimp only)); refine box_event ?hg (N := 1) ?hd (cs := #[.int .i64 0, .int .i64 0]) (t := 32) ?hr ?_; (case hd => rfl); (case hg => rfl); (case hr => first | (go_simp; done) | (go_simp; rfl)); intro gb104 hg w63 hbox hb; have n0_ := zam (zbt (by repeat (first | (with_reducible first | exact HB.out | apply zba | apply zbn | apply zb1) | exact HB.out)) hb); have n1_ := zam (hbox); have n2_ := zam ((by rw [hg]; exact (zbz (by repeat (first | (with_reducible first | exact HB.out | apply zba | apply zbn | apply zb1) | exact HB.out))) : w.heap.size ≤ gb104)); have n3_ := zam ((by rw [hg]; exact (zbz (by repeat (first | (with_reducible first | exact HB.out | apply zba | apply zbn | apply zb1) | exact HB.out))) : w.heap.size ≤ gb104)); clear HB; have HB := n0_; have BK104 := n1_; have GW104 := n2_; have GE104 := n3_; clear n0_ n1_ n2_ n3_; clear hb hbox hg; have hcz64_0 : w63.cell? ⟨gb104, 0, none⟩ = some (.int .i64 0) := (zkc BK104.out 0).trans rfl; have hcz64_1 : w63.cell? ⟨gb104, 1, none⟩ = some (.int .i64 0) := (zkc BK104.out 1).trans rfl; have hfz64_0 := zkz BK104.out 0; have hfz64_1 := zkz BK104.out 1) | ((with_reducible refine zgc (f := 61) rfl ?_); refine goesL_ (some 16) rfl rfl Try.func61 (by kernel_rfl) rfl #[.agg #[.int .i64 7, .int .i64 9], .agg #[.int .i64 (-4), .int .i64 (-2)]] rfl (by (try simp only [zmt, List.map_cons, List.map_nil]); first | done | rfl | (simp only [zld, zlt]; rfl)) ?_; (with_reducible refine (bound_Div.calls k 7 9 (-4) (-2) t105 t106 t107 _ A2.out).mono ?_); rintro e w65 ⟨rfl, hb⟩; refine ⟨_, rfl, ?_⟩; have n0_ := zam (zkb (g := gb104) (o := .cells #[.int .i64 t101, .int .i64 t102] 32 (0, 0)) (by (with_reducible repeat (first | refine zkn ?_ _ | refine zkd ?_ | refine zka ?_ _)); refine blk_put (cs := #[.int .i64 t101, .int .i64 0]) ?_ 1 _ rfl; (with_reducible repeat (first | refine zkn ?_ _ | refine zkd ?_ | refine zka ?_ _)); refine blk_put (cs := #[.int .i64 0, .int .i64 0]) ?_ 0 _ rfl; (with_reducible repeat (first | refine zkn ?_ _ | refine zkd ?_ | refine zka ?_ _)); exact BK104.out) hb); have n1_ := zam (zbt (by repeat (first | (with_reducible first | exact HB.out | apply zba | apply zbn | apply zb1 | refine zbs ?_ GE104.out) | exact HB.out)) hb); clear BK104; clear HB; have BK104 := n0_; have HB := n1_; clear n0_ n1_; (try clear hb); (try clear hb2); (try clear hk); (try clear hi)) | ((with_reducible refine zgd (N := 3) rfl ?_); (try (refine gate_guard (by rfl) ?_; dsimp only)); refine box_event ?hg (N := 3) ?hd (cs := #[.int .i64 0, .int .i64 0]) (t := 32) ?hr ?_; (case hd => rfl); (case hg => rfl); (case hr => first | (go_simp; done) | (go_simp; rfl)); intro gb108 hg w66 hbox hb; have n0_ := zam (zkb (g := gb104) (o := .cells #[.int .i64 t101, .int .i64 t102] 32 (0, 0)) (by (with_reducible repeat (first | refine zkn ?_ _ | refine zkd ?_ | refine zka ?_ _)); exact BK104.out) hb); have n1_ := zam (zbt (by repeat (first | (with_reducible first | exact HB.out | apply zba | apply zbn | apply zb1 | refine zbs ?_ GE104.out) | exact HB.out)) hb); have n2_ := zam (hbox); have n3_ := zam ((by rw [hg]; exact (zbz (by repeat (first | (with_reducible first | exact HB.out | apply zba | apply zbn | apply zb1 | refine zbs ?_ GE104.out) | exact HB.out))) : w.heap.size ≤ gb108)); have n4_ := zam ((by rw [hg]; exact (zbz (by repeat (first | (with_reducible first | exact HB.out | apply zba | apply zbn | apply zb1 | refine zbs ?_ GE104.out) | exact HB.out))) : w.heap.size ≤ gb108)); have n5_ := zam ((by rw [hg]; exact Nat.ne_of_lt (blk_lt (g := gb104) (o := .cells #[.int .i64 t101, .int .i64 t102] 32 (0, 0)) (by (with_reducible repeat (first | refine zkn ?_ _ | refine zkd ?_ | refine zka ?_ _)); exact BK104.out)) : gb104 ≠ gb108)); have n6_ := zam ((by rw [hg]; exact Nat.ne_of_gt (blk_lt (g := gb104) (o := .cells #[.int .i64 t101, .int .i64 t102] 32 (0, 0)) (by (with_reducible repeat (first | refine zkn ?_ _ | refine zkd ?_ | refine zka ?_ _)); exact BK104.out)) : gb108 ≠ gb104)); clear BK104; clear HB; have BK104 := n0_; have HB := n1_; have BK108 := n2_; have GW108 := n3_; have GE108 := n4_; have NB104_108 := n5_; have NB108_104 := n6_; clear n0_ n1_ n2_ n3_ n4_ n5_ n6_; clear hb hbox hg; have hnb67 := NB108_104.out; have hnc67 := NB104_108.out; have hcz68_0 : w66.cell? ⟨gb108, 0, none⟩ = some (.int .i64 0) := (zkc BK108.out 0).trans rfl; have hcz68_1 : w66.cell? ⟨gb108, 1, none⟩ = some (.int .i64 0) := (zkc BK108.out 1).trans rfl; have hfz68_0 := zkz BK108.out 0; have hfz68_1 := zkz BK108.out 1) | ((with_reducible refine zgd (N := 23) rfl ?_); (try (refine gate_guard (by rfl) ?_; dsimp only)); refine Kd.R_lit k32 _ 32 ?hg (N := 23) ?hd (xs := ([(⟨5, 6⟩ : S32), (⟨1, 2⟩ : S32), (⟨3, 3⟩ : S32)] : List (S32))) (inner := [.int .i64 5, .int .i64 6, .int .i64 1, .int .i64 2, .int .i64 3, .int .i64 3]) (ok := fun _ => True) (okp := fun _ => True) ?hr ?hp (fun _ hk => hk) trivial (Below.refl _ _) (Nat.le_refl _) (by simp) ?_; (case hd => rfl); (case hg => rfl); (case hr => first | (go_simp; done) | (go_simp; rfl)); (case hp => exact (Reps.c2 (show Kd.M k32 _ _ _ (⟨5, 6⟩ : S32) [.int .i64 5, .int .i64 6] from (k32_mkM _ _ _ (⟨5, 6⟩ : S32) )) (Reps.c2 (show Kd.M k32 _ _ _ (⟨1, 2⟩ : S32) [.int .i64 1, .int .i64 2] from (k32_mkM _ _ _ (⟨1, 2⟩ : S32) )) (Reps.c2 (show Kd.M k32 _ _ _ (⟨3, 3⟩ : S32) [.int .i64 3, .int .i64 3] from (k32_mkM _ _ _ (⟨3, 3⟩ : S32) )) (Reps.none _ _))))); intro v110 w69 ho70 hb hg_ hnew_; clear hg_ hnew_; (first | rw [← Ny109.out] at ho70 | (simp only [Int.reduceToNat] at ho70; rw [← Ny109.out] at ho70)); have n0_ := zam (Kd.R_lower (Kd.R_newB (Kd.R_newB ho70 (g := gb104) (o := .cells #[.int .i64 t101, .int .i64 t102] 32 (0, 0)) (by (with_reducible repeat (first | refine zkn ?_ _ | refine zkd ?_ | refine zka ?_ _)); refine blk_far ?_ NB104_108.out _; (with_reducible repeat (first | refine zkn ?_ _ | refine zkd ?_ | refine zka ?_ _)); refine blk_far ?_ NB104_108.out _; (with_reducible repeat (first | refine zkn ?_ _ | refine zkd ?_ | refine zka ?_ _)); exact BK104.out)) (g := gb108) (o := .cells #[.int .i64 t105, .int .i64 t106] 32 (0, 0)) (by (with_reducible repeat (first | refine zkn ?_ _ | refine zkd ?_ | refine zka ?_ _)); refine blk_put (cs := #[.int .i64 t105, .int .i64 0]) ?_ 1 _ rfl; (with_reducible repeat (first | refine zkn ?_ _ | refine zkd ?_ | refine zka ?_ _)); refine blk_put (cs := #[.int .i64 0, .int .i64 0]) ?_ 0 _ rfl; (with_reducible repeat (first | refine zkn ?_ _ | refine zkd ?_ | refine zka ?_ _)); exact BK108.out)) (zbz (by repeat (first | (with_reducible first | exact HB.out | apply zba | apply zbn | apply zb1 | refine zbs ?_ GE104.out | refine zbs ?_ GE108.out) | exact HB.out)))); have n1_ := zam (zkb (g := gb104) (o := .cells #[.int .i64 t101, .int .i64 t102] 32 (0, 0)) (by (with_reducible repeat (first | refine zkn ?_ _ | refine zkd ?_ | refine zka ?_ _)); refine blk_far ?_ NB104_108.out _; (with_reducible repeat (first | refine zkn ?_ _ | refine zkd ?_ | refine zka ?_ _)); refine blk_far ?_ NB104_108.out _; (with_reducible repeat (first | refine zkn ?_ _ | refine zkd ?_ | refine zka ?_ _)); exact BK104.out) hb); have n2_ := zam (zkb (g := gb108) (o := .cells #[.int .i64 t105, .int .i64 t106] 32 (0, 0)) (by (with_reducible repeat (first | refine zkn ?_ _ | refine zkd ?_ | refine zka ?_ _)); refine blk_put (cs := #[.int .i64 t105, .int .i64 0]) ?_ 1 _ rfl; (with_reducible repeat (first | refine zkn ?_ _ | refine zkd ?_ | refine zka ?_ _)); refine blk_put (cs := #[.int .i64 0, .int .i64 0]) ?_ 0 _ rfl; (with_reducible repeat (first | refine zkn ?_ _ | refine zkd ?_ | refine zka ?_ _)); exact BK108.out) hb); have n3_ := zam (zbt (by repeat (first | (with_reducible first | exact HB.out | apply zba | apply zbn | apply zb1 | refine zbs ?_ GE104.out | refine zbs ?_ GE108.out) | exact HB.out)) hb); clear BK104; clear BK108; clear HB; have HO111 := n0_; have BK104 := n1_; have BK108 := n2_; have HB := n3_; clear n0_ n1_ n2_ n3_; clear hb ho70; obtain ⟨Ao71, co71, eo71⟩ := Kd.R_slice HO111.out; subst eo71) | ((with_reducible refine zgc (f := 46) rfl ?_); refine goesL_ (some 24) rfl rfl Try.func46 (by kernel_rfl) rfl #[.slice Ao71 y109.length co71] rfl (by (try simp only [zmt, List.map_cons, List.map_nil]); first | done | rfl | (simp only [zld, zlt]; rfl)) ?_; (with_reducible refine (bound_Cover.calls k _ _ y109 t112 t113 _ ?side1 ?side2 A3.out).mono ?_); (case side1 => repeat (first | exact (Kd.R_reads' HO111.out).2.2 | (with_reducible refine Kd.C_alloc ?_ _) | (with_reducible refine Kd.C_drewN ?_ _) | (with_reducible refine Kd.C_drew ?_))); (case side2 => exact (Kd.R_reads' HO111.out).2.1); rintro e w72 ⟨v114, rfl, ho0, hb⟩; refine ⟨_, rfl, ?_⟩; have n0_ := zam (Kd.R_elder' (by (with_reducible repeat (first | apply zRa | apply zRn | apply zRd)); exact HO111.out) (Kd.R_base ho0) hb); have n1_ := zam (Kd.R_lower (Kd.R_newB (Kd.R_newB (Kd.R_new' ho0 (Kd.R_lt (by (with_reducible repeat (first | apply zRa | apply zRn | apply zRd)); exact HO111.out))) (g := gb104) (o := .cells #[.int .i64 t101, .int .i64 t102] 32 (0, 0)) (by (with_reducible repeat (first | refine zkn ?_ _ | refine zkd ?_ | refine zka ?_ _)); exact BK104.out)) (g := gb108) (o := .cells #[.int .i64 t105, .int .i64 t106] 32 (0, 0)) (by (with_reducible repeat (first | refine zkn ?_ _ | refine zkd ?_ | refine zka ?_ _)); exact BK108.out)) (zbz (by repeat (first | (with_reducible first | exact HB.out | apply zba | apply zbn | apply zb1 | refine zbs ?_ GE104.out | refine zbs ?_ GE108.out) | exact HB.out)))); have n2_ := zam (zkb (g := gb104) (o := .cells #[.int .i64 t101, .int .i64 t102] 32 (0, 0)) (by (with_reducible repeat (first | refine zkn ?_ _ | refine zkd ?_ | refine zka ?_ _)); exact BK104.out) hb); have n3_ := zam (zkb (g := gb108) (o := .cells #[.int .i64 t105, .int .i64 t106] 32 (0, 0)) (by (with_reducible repeat (first | refine zkn ?_ _ | refine zkd ?_ | refine zka ?_ _)); exact BK108.out) hb); have n4_ := zam (zbt (by repeat (first | (with_reducible first | exact HB.out | apply zba | apply zbn | apply zb1 | refine zbs ?_ GE104.out | refine zbs ?_ GE108.out) | exact HB.out)) hb); clear HO111; clear BK104; clear BK108; clear HB; have HO111 := n0_; have HO115 := n1_; have BK104 := n2_; have BK108 := n3_; have HB := n4_; clear n0_ n1_ n2_ n3_ n4_; (try clear hb); (try clear hb2); (try clear hk); (try clear hi); (try clear ho0)))
 go_ret
 exact ⟨by first | rfl | (simp [errW_none, errW_some] <;> rfl) | (simp [*, errW_none, errW_some] <;> rfl), by repeat (first | (with_reducible first | exact HB.out | apply zba | apply zbn | apply zb1 | refine zbs ?_ GE104.out | refine zbs ?_ GE108.out) | exact HB.out)⟩
end Go.Proofs.Ytlkafgibgipodaa.P
namespace Go.Proofs.Ytlkafgibgipodaa.P
open Go.RowKit Go.Proofs.YtlkafgibgipodaaW.PrintWords Go.Proofs.YtlkafgibgipodaaW.PrintLast Go.Proofs.YtlkafgibgipodaaW.PrintMore
attribute [local go_sem] max2_int min2_int max_two min_two max_three min_three max_four min_four   -- for this text's walks alone
set_option linter.unusedVariables false
set_option linter.unusedSimpArgs false
def isobathref01_answers.l0 : Nat → List Int → Int → Option (Int)
 | 0, _, _ => none
 | k + 1, x0, x3 => if x3 < (x0.length : Int) then (if 0 ≤ x3 then (if (rd x0 x3) < 0 then (some 2) else (if (rd x0 x3) > 2 then (some 2) else (isobathref01_answers.l0 k x0 (wrap64 (x3 + 1))))) else (none)) else (some 0)
def isobathref01_answers.f (k : Nat) (l0 : List Int) : Option (Int) := if (l0.length : Int) > 256 then (some 6) else (isobathref01_answers.l0 k l0 0)
def isobathref01_All.l0 : Nat → List Int → Int → Int → Option (Int × Int)
 | 0, _, _, _ => none
 | k + 1, x0, x4, x5 => if x5 < (x0.length : Int) then (if 0 ≤ x5 then (isobathref01_All.l0 k x0 (mn x4 (rd x0 x5)) (wrap64 (x5 + 1))) else (none)) else (some (x4, 0))
def isobathref01_All.f (k : Nat) (l0 : List Int) : Option (Int × Int) := (isobathref01_answers.f k l0).bind fun t101 => (if t101 = 0 then (isobathref01_All.l0 k l0 2 0) else ((isobathref01_answers.f k l0).bind fun t102 => (some (0, t102))))
def isobathref01_Any.l0 : Nat → List Int → Int → Int → Option (Int × Int)
 | 0, _, _, _ => none
 | k + 1, x0, x4, x5 => if x5 < (x0.length : Int) then (if 0 ≤ x5 then (isobathref01_Any.l0 k x0 (mx x4 (rd x0 x5)) (wrap64 (x5 + 1))) else (none)) else (some (x4, 0))
def isobathref01_Any.f (k : Nat) (l0 : List Int) : Option (Int × Int) := (isobathref01_answers.f k l0).bind fun t101 => (if t101 = 0 then (isobathref01_Any.l0 k l0 0 0) else ((isobathref01_answers.f k l0).bind fun t102 => (some (0, t102))))
def isobathref01_ValidBox.f (a0_0 : Int) (a0_1 : Int) (a0_2 : Int) (a0_3 : Int) : Option (Bool) := (isobathref01_Valid.f a0_0 a0_1).bind fun t102 => (if t102 = true then ((isobathref01_Valid.f a0_2 a0_3).bind fun t103 => (if t103 = true then ((isobathref01_Within.f a0_0 (-268435456) 268435456).bind fun t104 => (if t104 = true then ((isobathref01_Within.f a0_1 (-268435456) 268435456).bind fun t105 => (if t105 = true then ((isobathref01_Within.f a0_2 (-268435456) 268435456).bind fun t106 => (if t106 = true then ((isobathref01_Within.f a0_3 (-268435456) 268435456).bind fun t107 => (some t107)) else (some false))) else (some false))) else (some false))) else (some false))) else (some false))
def isobathref01_CheckBox.f (a0_0 : Int) (a0_1 : Int) (a0_2 : Int) (a0_3 : Int) : Option (Int) := (isobathref01_ValidBox.f a0_0 a0_1 a0_2 a0_3).bind fun t102 => (if t102 = true then (some 0) else (some 2))
def isobathref01_gap.f (a0_0 : Int) (a0_1 : Int) (a1_0 : Int) (a1_1 : Int) : Option (Int × Int) := some (mx (mx 0 (wrap64 (a0_0 - a1_1))) (wrap64 (a1_0 - a0_1)), mx (wrap64 (a0_1 - a1_0)) (wrap64 (a1_1 - a0_0)))
def isobathref01_Square.j0 : Nat → Bool → Int → Int → Int → Int → Int → Int → Int → Int → Option (Int × Int × Int)
 | 0, _, _, _, _, _, _, _, _, _ => none
 | k + 1, x18, x102000, x102001, x102002, x102003, x103000, x103001, x103002, x103003 => if x18 = true then (some (0, 0, 2)) else ((isobathref01_gap.f x102000 x102001 x103000 x103001).bind fun bt105 => ((isobathref01_gap.f x102002 x102003 x103002 x103003).bind fun bt107 => (some (wrap64 ((wrap64 (bt105.1 * bt105.1)) + (wrap64 (bt107.1 * bt107.1))), wrap64 ((wrap64 (bt105.2 * bt105.2)) + (wrap64 (bt107.2 * bt107.2))), 0))))
def isobathref01_Square.f (k : Nat) (a0_0 : Int) (a0_1 : Int) (a0_2 : Int) (a0_3 : Int) (a1_0 : Int) (a1_1 : Int) (a1_2 : Int) (a1_3 : Int) : Option (Int × Int × Int) := (isobathref01_ValidBox.f a0_0 a0_1 a0_2 a0_3).bind fun t103 => (if t103 = true then ((isobathref01_ValidBox.f a1_0 a1_1 a1_2 a1_3).bind fun t104 => (isobathref01_Square.j0 k (!t104) a0_0 a0_1 a0_2 a0_3 a1_0 a1_1 a1_2 a1_3)) else (isobathref01_Square.j0 k true a0_0 a0_1 a0_2 a0_3 a1_0 a1_1 a1_2 a1_3))
def isobathref01_Distance.f (k : Nat) (a0_0 : Int) (a0_1 : Int) (a0_2 : Int) (a0_3 : Int) (a1_0 : Int) (a1_1 : Int) (a1_2 : Int) (a1_3 : Int) : Option (Int × Int × Int) := (isobathref01_Square.f k a0_0 a0_1 a0_2 a0_3 a1_0 a1_1 a1_2 a1_3).bind fun bt104 => (if bt104.2.2 = 0 then ((isobathref01_Sqrt.f k bt104.1).bind fun t107 => ((isobathref01_SqrtUp.f k bt104.2.1).bind fun t108 => (some (t107, t108, 0)))) else (some (0, 0, bt104.2.2)))
mutual
def isobathref01_In.j0 : Nat → Bool → Int → Int → Int → Int → Option (Int × Int)
 | 0, _, _, _, _, _ => none
 | k + 1, x13, x102000, x102001, x103000, x103001 => if x13 = true then (some (0, 2)) else (if x102000 ≥ x103000 then (isobathref01_In.j1 k (decide (x102001 ≤ x103001)) x102000 x102001 x103000 x103001) else (isobathref01_In.j1 k false x102000 x102001 x103000 x103001))
def isobathref01_In.j1 : Nat → Bool → Int → Int → Int → Int → Option (Int × Int)
 | 0, _, _, _, _, _ => none
 | k + 1, x25, x102000, x102001, x103000, x103001 => if x25 = true then (some (2, 0)) else (if x102001 < x103000 then (some (0, 0)) else (if x102000 > x103001 then (some (0, 0)) else (some (1, 0))))
end
def isobathref01_In.f (k : Nat) (a0_0 : Int) (a0_1 : Int) (a1_0 : Int) (a1_1 : Int) : Option (Int × Int) := (isobathref01_Valid.f a0_0 a0_1).bind fun t103 => (if t103 = true then ((isobathref01_Valid.f a1_0 a1_1).bind fun t104 => (isobathref01_In.j0 k (!t104) a0_0 a0_1 a1_0 a1_1)) else (isobathref01_In.j0 k true a0_0 a0_1 a1_0 a1_1))
def isobathref01_Less.j0 : Nat → Bool → Int → Int → Int → Int → Option (Int × Int)
 | 0, _, _, _, _, _ => none
 | k + 1, x13, x102000, x102001, x103000, x103001 => if x13 = true then (some (0, 2)) else (if x102001 < x103000 then (some (2, 0)) else (if x102000 ≥ x103001 then (some (0, 0)) else (some (1, 0))))
def isobathref01_Less.f (k : Nat) (a0_0 : Int) (a0_1 : Int) (a1_0 : Int) (a1_1 : Int) : Option (Int × Int) := (isobathref01_Valid.f a0_0 a0_1).bind fun t103 => (if t103 = true then ((isobathref01_Valid.f a1_0 a1_1).bind fun t104 => (isobathref01_Less.j0 k (!t104) a0_0 a0_1 a1_0 a1_1)) else (isobathref01_Less.j0 k true a0_0 a0_1 a1_0 a1_1))
def isobathref01_Not.f (a0 : Int) : Option (Int × Int) := if a0 < 0 then (some (0, 2)) else (if a0 > 2 then (some (0, 2)) else (some (wrap64 (2 - a0), 0)))
def Bo.less (a0 a1 b0 b1 : Int) : Int × Int := if Bo.v a0 a1 ∧ Bo.v b0 b1 then (if a1 < b0 then (2, 0) else if b1 ≤ a0 then (0, 0) else (1, 0)) else (0, 2)
theorem Bo.less_b (a0 a1 b0 b1 : Int) {k : Nat} (hk : 20 ≤ k) : bound_Less.f k a0 a1 b0 b1 = some (Bo.less a0 a1 b0 b1) := by
 unfold bound_Less.f Bo.less
 rw [Bo.check2 _ _ _ _ hk, Option.bind_some]
 by_cases h : Bo.v a0 a1 ∧ Bo.v b0 b1
 ·rw [if_pos h, if_pos rfl, if_pos h]
  by_cases q : a1 < b0
  ·rw [if_pos q, if_pos q]
  rw [if_neg q, if_neg q]
  by_cases q2 : b1 ≤ a0
  ·rw [if_pos q2, if_pos q2]
  rw [if_neg q2, if_neg (by omega)]
 rw [if_neg h, if_neg h]
 rfl
theorem Bo.less_r (a0 a1 b0 b1 : Int) {k : Nat} (hk : 20 ≤ k) : isobathref01_Less.f k a0 a1 b0 b1 = some (Bo.less a0 a1 b0 b1) := by
 obtain ⟨k, rfl⟩ : ∃ m, k = m + 1 := ⟨k - 1, by omega⟩
 unfold isobathref01_Less.f Bo.less
 rw [Bo.both1 a0 a1 b0 b1 fun z => isobathref01_Less.j0 (k + 1) z a0 a1 b0 b1]
 simp only [isobathref01_Less.j0]
 by_cases h : Bo.v a0 a1 ∧ Bo.v b0 b1
 ·rw [if_pos h, if_neg (by simp), if_pos h]
  by_cases q : a1 < b0
  ·rw [if_pos q, if_pos q]
  rw [if_neg q, if_neg q]
  by_cases q2 : b1 ≤ a0
  ·rw [if_pos q2, if_pos q2]
  rw [if_neg q2, if_neg (by omega)]
 rw [if_neg h, if_neg h, if_pos trivial]
def Bo.inn (a0 a1 b0 b1 : Int) : Int × Int := if Bo.v a0 a1 ∧ Bo.v b0 b1 then (if b0 ≤ a0 ∧ a1 ≤ b1 then (2, 0) else if a1 < b0 ∨ b1 < a0 then (0, 0) else (1, 0)) else (0, 2)
theorem Bo.inn_b (a0 a1 b0 b1 : Int) {k : Nat} (hk : 20 ≤ k) : bound_In.f k a0 a1 b0 b1 = some (Bo.inn a0 a1 b0 b1) := by
 unfold bound_In.f Bo.inn bound_meet.f
 rw [Bo.check2 _ _ _ _ hk, Option.bind_some]
 by_cases h : Bo.v a0 a1 ∧ Bo.v b0 b1
 ·obtain ⟨⟨h1, h2, h3⟩, h4, h5, h6⟩ := id h
  rw [if_pos h, if_pos rfl, if_pos h, Option.bind_some]
  simp only [Bo.mxE, Bo.mnE, decide_eq_true_eq, Bool.and_eq_true, beq_iff_eq]
  by_cases q : b0 ≤ a0 ∧ a1 ≤ b1
  ·rw [if_pos (by omega), if_pos (by omega), if_pos q]
  rw [if_neg q]
  by_cases q2 : a1 < b0 ∨ b1 < a0
  ·rw [if_neg (by omega), if_pos q2]
  rw [if_pos (by omega), if_neg (by omega), if_neg q2]
 rw [if_neg h, if_neg h]
 rfl
theorem Bo.inn_r (a0 a1 b0 b1 : Int) {k : Nat} (hk : 20 ≤ k) : isobathref01_In.f k a0 a1 b0 b1 = some (Bo.inn a0 a1 b0 b1) := by
 obtain ⟨k, rfl⟩ : ∃ m, k = m + 2 := ⟨k - 2, by omega⟩
 unfold isobathref01_In.f Bo.inn
 rw [Bo.both1 a0 a1 b0 b1 fun z => isobathref01_In.j0 (k + 2) z a0 a1 b0 b1]
 simp only [isobathref01_In.j0, isobathref01_In.j1, decide_eq_true_eq]
 by_cases h : Bo.v a0 a1 ∧ Bo.v b0 b1
 ·rw [if_pos h, if_neg (by simp), if_pos h]
  by_cases q1 : a0 ≥ b0
  ·rw [if_pos q1]
   by_cases q : a1 ≤ b1
   ·rw [if_pos q, if_pos ⟨q1, q⟩]
   rw [if_neg q, if_neg (show ¬ (b0 ≤ a0 ∧ a1 ≤ b1) from fun h => q h.2)]
   by_cases q2 : a1 < b0
   ·rw [if_pos q2, if_pos (.inl q2)]
   rw [if_neg q2]
   by_cases q3 : a0 > b1
   ·rw [if_pos q3, if_pos (.inr q3)]
   rw [if_neg q3, if_neg (by omega)]
  rw [if_neg q1, if_neg (by simp), if_neg (show ¬ (b0 ≤ a0 ∧ a1 ≤ b1) from fun h => q1 h.1)]
  by_cases q2 : a1 < b0
  ·rw [if_pos q2, if_pos (.inl q2)]
  rw [if_neg q2]
  by_cases q3 : a0 > b1
  ·rw [if_pos q3, if_pos (.inr q3)]
  rw [if_neg q3, if_neg (by omega)]
 rw [if_neg h, if_neg h, if_pos trivial]
def Bo.ansB (x : Int) : Bool := decide (0 ≤ x) && decide (x ≤ 2)
def Bo.ans (l : List Int) : Int := if (l.length : Int) > 256 then 6 else if l.all Bo.ansB = true then 0 else 2
theorem Bo.isAnswer (x : Int) : bound_isAnswer.f x = some (Bo.ansB x) := by
 unfold bound_isAnswer.f Bo.ansB
 by_cases h : x ≥ 0
 ·rw [if_pos h, zdt (show 0 ≤ x from h), Bool.true_and]
 rw [if_neg h, zdf (show ¬ 0 ≤ x from h), Bool.false_and]
theorem Bo.ans_l0 (xs : List Int) (hl : xs.length ≤ 9223372036854775807) : ∀ (n k i : Nat), i + n = xs.length → n < k → isobathref01_answers.l0 k xs (i : Int) = some (if (xs.drop i).all Bo.ansB = true then 0 else 2) := by
 intro n
 induction n with
 | zero =>
  intro k i hi hk
  obtain ⟨k, rfl⟩ : ∃ m, k = m + 1 := ⟨k - 1, by omega⟩
  simp only [isobathref01_answers.l0]
  rw [if_neg (by omega), List.drop_of_length_le (by omega)]
  rfl
 | succ n ih =>
  intro k i hi hk
  obtain ⟨k, rfl⟩ : ∃ m, k = m + 1 := ⟨k - 1, by omega⟩
  have hlt : i < xs.length := by omega
  simp only [isobathref01_answers.l0]
  rw [if_pos (by omega), if_pos (by omega), wrap_succ hlt hl, ih k (i + 1) (by omega) (by omega), rd_nat hlt, drop_cons hlt, List.all_cons]
  generalize xs[i] = x
  unfold Bo.ansB
  by_cases h1 : x < 0
  ·rw [if_pos h1, if_neg (by simp; omega)]
  rw [if_neg h1]
  by_cases h2 : x > 2
  ·rw [if_pos h2, if_neg (by simp; omega)]
  rw [if_neg h2, zdt (by omega), zdt (by omega)]
  rfl
theorem Bo.ans_r (xs : List Int) (hl : xs.length ≤ 9223372036854775807) {k : Nat} (hk : 300 ≤ k) : isobathref01_answers.f k xs = some (Bo.ans xs) := by
 unfold isobathref01_answers.f Bo.ans
 by_cases h : (xs.length : Int) > 256
 ·rw [if_pos h, if_pos h]
 rw [if_neg h, if_neg h]
 have := Bo.ans_l0 xs hl xs.length k 0 (by omega) (by omega)
 rw [List.drop_zero] at this
 exact this
def Bo.all (l : List Int) : Int × Int := if Bo.ans l = 0 then (l.foldl min 2, 0) else (0, Bo.ans l)
def Bo.any (l : List Int) : Int × Int := if Bo.ans l = 0 then (l.foldl max 0, 0) else (0, Bo.ans l)
theorem Bo.all_rl (xs : List Int) (hl : xs.length ≤ 9223372036854775807) : ∀ (n k i : Nat) (m : Int), i + n = xs.length → n < k → isobathref01_All.l0 k xs m (i : Int) = some ((xs.drop i).foldl min m, 0) := by
 intro n
 induction n with
 | zero =>
  intro k i m hi hk
  obtain ⟨k, rfl⟩ : ∃ m, k = m + 1 := ⟨k - 1, by omega⟩
  simp only [isobathref01_All.l0]
  rw [if_neg (by omega), List.drop_of_length_le (by omega)]
  rfl
 | succ n ih =>
  intro k i m hi hk
  obtain ⟨k, rfl⟩ : ∃ m, k = m + 1 := ⟨k - 1, by omega⟩
  have hlt : i < xs.length := by omega
  simp only [isobathref01_All.l0]
  rw [if_pos (by omega), if_pos (by omega), wrap_succ hlt hl, ih k (i + 1) _ (by omega) (by omega), rd_nat hlt, drop_cons hlt, List.foldl_cons, Bo.mnE]
theorem Bo.any_rl (xs : List Int) (hl : xs.length ≤ 9223372036854775807) : ∀ (n k i : Nat) (m : Int), i + n = xs.length → n < k → isobathref01_Any.l0 k xs m (i : Int) = some ((xs.drop i).foldl max m, 0) := by
 intro n
 induction n with
 | zero =>
  intro k i m hi hk
  obtain ⟨k, rfl⟩ : ∃ m, k = m + 1 := ⟨k - 1, by omega⟩
  simp only [isobathref01_Any.l0]
  rw [if_neg (by omega), List.drop_of_length_le (by omega)]
  rfl
 | succ n ih =>
  intro k i m hi hk
  obtain ⟨k, rfl⟩ : ∃ m, k = m + 1 := ⟨k - 1, by omega⟩
  have hlt : i < xs.length := by omega
  simp only [isobathref01_Any.l0]
  rw [if_pos (by omega), if_pos (by omega), wrap_succ hlt hl, ih k (i + 1) _ (by omega) (by omega), rd_nat hlt, drop_cons hlt, List.foldl_cons, Bo.mxE]
theorem Bo.ans_small {xs : List Int} (h : Bo.ans xs = 0) : xs.length ≤ 256 := by
 unfold Bo.ans at h
 split at h <;> omega
theorem Bo.all_r (xs : List Int) (hl : xs.length ≤ 9223372036854775807) {k : Nat} (hk : 300 ≤ k) : isobathref01_All.f k xs = some (Bo.all xs) := by
 unfold isobathref01_All.f Bo.all
 rw [Bo.ans_r xs hl hk, Option.bind_some]
 by_cases h : Bo.ans xs = 0
 ·have := Bo.ans_small h
  rw [if_pos h, if_pos h]
  exact Bo.all_rl xs hl xs.length k 0 2 (by omega) (by omega)
 rw [if_neg h, if_neg h, Option.bind_some]
theorem Bo.any_r (xs : List Int) (hl : xs.length ≤ 9223372036854775807) {k : Nat} (hk : 300 ≤ k) : isobathref01_Any.f k xs = some (Bo.any xs) := by
 unfold isobathref01_Any.f Bo.any
 rw [Bo.ans_r xs hl hk, Option.bind_some]
 by_cases h : Bo.ans xs = 0
 ·have := Bo.ans_small h
  rw [if_pos h, if_pos h]
  exact Bo.any_rl xs hl xs.length k 0 0 (by omega) (by omega)
 rw [if_neg h, if_neg h, Option.bind_some]
theorem Bo.all_bl (xs : List Int) (hl : xs.length ≤ 9223372036854775807) : ∀ (n k i : Nat) (m : Int), i + n = xs.length → n < k → bound_fold_bound_All_1.l0 k m xs (xs.length : Int) (i : Int) = some (if (xs.drop i).all Bo.ansB = true then ((xs.drop i).foldl min m, 0) else (0, 2)) := by
 intro n
 induction n with
 | zero =>
  intro k i m hi hk
  obtain ⟨k, rfl⟩ : ∃ m, k = m + 1 := ⟨k - 1, by omega⟩
  simp only [bound_fold_bound_All_1.l0]
  rw [if_neg (by omega), List.drop_of_length_le (by omega)]
  rfl
 | succ n ih =>
  intro k i m hi hk
  obtain ⟨k, rfl⟩ : ∃ m, k = m + 1 := ⟨k - 1, by omega⟩
  have hlt : i < xs.length := by omega
  simp only [bound_fold_bound_All_1.l0, bound_All_1.f]
  rw [if_pos (by omega), if_pos (by omega), if_pos (by omega), rd_nat hlt, Bo.isAnswer, Option.bind_some, Option.bind_some, wrap_succ hlt hl, ih k (i + 1) _ (by omega) (by omega), drop_cons hlt, List.all_cons, List.foldl_cons, Bo.mnE]
  cases Bo.ansB xs[i]
  ·rw [if_neg (by simp), if_neg (by simp)]
  rw [if_pos rfl, Bool.true_and]
theorem Bo.any_bl (xs : List Int) (hl : xs.length ≤ 9223372036854775807) : ∀ (n k i : Nat) (m : Int), i + n = xs.length → n < k → bound_fold_bound_Any_1.l0 k m xs (xs.length : Int) (i : Int) = some (if (xs.drop i).all Bo.ansB = true then ((xs.drop i).foldl max m, 0) else (0, 2)) := by
 intro n
 induction n with
 | zero =>
  intro k i m hi hk
  obtain ⟨k, rfl⟩ : ∃ m, k = m + 1 := ⟨k - 1, by omega⟩
  simp only [bound_fold_bound_Any_1.l0]
  rw [if_neg (by omega), List.drop_of_length_le (by omega)]
  rfl
 | succ n ih =>
  intro k i m hi hk
  obtain ⟨k, rfl⟩ : ∃ m, k = m + 1 := ⟨k - 1, by omega⟩
  have hlt : i < xs.length := by omega
  simp only [bound_fold_bound_Any_1.l0, bound_Any_1.f]
  rw [if_pos (by omega), if_pos (by omega), if_pos (by omega), rd_nat hlt, Bo.isAnswer, Option.bind_some, Option.bind_some, wrap_succ hlt hl, ih k (i + 1) _ (by omega) (by omega), drop_cons hlt, List.all_cons, List.foldl_cons, Bo.mxE]
  cases Bo.ansB xs[i]
  ·rw [if_neg (by simp), if_neg (by simp)]
  rw [if_pos rfl, Bool.true_and]
theorem Bo.all_b (xs : List Int) (hl : xs.length ≤ 9223372036854775807) {k : Nat} (hk : 300 ≤ k) : bound_All.f k xs = some (Bo.all xs) := by
 unfold bound_All.f bound_fold_bound_All_1.f Bo.all Bo.ans
 by_cases h : (xs.length : Int) > 256
 ·rw [if_pos h, if_pos h, if_neg (by decide)]
  rfl
 rw [if_neg h, if_neg h]
 have := Bo.all_bl xs hl xs.length k 0 2 (by omega) (by omega)
 rw [List.drop_zero] at this
 have e : ((0 : Nat) : Int) = 0 := rfl
 rw [e] at this
 rw [this]
 cases xs.all Bo.ansB <;> rfl
theorem Bo.any_b (xs : List Int) (hl : xs.length ≤ 9223372036854775807) {k : Nat} (hk : 300 ≤ k) : bound_Any.f k xs = some (Bo.any xs) := by
 unfold bound_Any.f bound_fold_bound_Any_1.f Bo.any Bo.ans
 by_cases h : (xs.length : Int) > 256
 ·rw [if_pos h, if_pos h, if_neg (by decide)]
  rfl
 rw [if_neg h, if_neg h]
 have := Bo.any_bl xs hl xs.length k 0 0 (by omega) (by omega)
 rw [List.drop_zero] at this
 have e : ((0 : Nat) : Int) = 0 := rfl
 rw [e] at this
 rw [this]
 cases xs.all Bo.ansB <;> rfl
theorem Bo.not_r (x : Int) (h1 : -9223372036854775808 ≤ x) (h2 : x ≤ 9223372036854775807) : isobathref01_Not.f x = bound_Not.f x := by
 unfold isobathref01_Not.f bound_Not.f
 rw [Bo.isAnswer, Option.bind_some]
 unfold Bo.ansB
 by_cases q : x < 0
 ·rw [if_pos q, if_neg (by simp; omega)]
 rw [if_neg q]
 by_cases q2 : x > 2
 ·rw [if_pos q2, if_neg (by simp; omega)]
 rw [if_neg q2, if_pos (by simp; omega)]
def Bo.vb (a0 a1 a2 a3 : Int) : Prop := Bo.v a0 a1 ∧ Bo.v a2 a3 ∧ -268435456 ≤ a0 ∧ a1 ≤ 268435456 ∧ -268435456 ≤ a2 ∧ a3 ≤ 268435456
instance Bo.vbDec (a0 a1 a2 a3 : Int) : Decidable (Bo.vb a0 a1 a2 a3) := inferInstanceAs (Decidable (_ ∧ _))
theorem Bo.vb_r (a0 a1 a2 a3 : Int) : isobathref01_ValidBox.f a0 a1 a2 a3 = some (decide (Bo.vb a0 a1 a2 a3)) := by
 unfold isobathref01_ValidBox.f
 rw [Bo.valid, Bo.valid]
 simp only [Bo.within, Option.bind_some, decide_eq_true_eq]
 by_cases h1 : Bo.v a0 a1
 ·by_cases h2 : Bo.v a2 a3
  ·rw [if_pos h1, if_pos h2]
   obtain ⟨p1, p2, p3⟩ := id h1
   obtain ⟨p4, p5, p6⟩ := id h2
   by_cases q1 : -268435456 ≤ a0 ∧ a0 ≤ 268435456
   ·rw [if_pos q1]
    by_cases q2 : -268435456 ≤ a1 ∧ a1 ≤ 268435456
    ·rw [if_pos q2]
     by_cases q3 : -268435456 ≤ a2 ∧ a2 ≤ 268435456
     ·rw [if_pos q3]
      congr 1
      refine decide_eq_decide.2 ⟨fun h => ⟨h1, h2, by omega, by omega, by omega, by omega⟩, fun h => ?_⟩
      have := h.2.2
      omega
     rw [if_neg q3, zdf]
     intro h
     have := h.2.2
     omega
    rw [if_neg q2, zdf]
    intro h
    have := h.2.2
    omega
   rw [if_neg q1, zdf]
   intro h
   have := h.2.2
   omega
  rw [if_pos h1, if_neg h2, zdf (fun h => h2 h.2.1)]
 rw [if_neg h1, zdf (fun h => h1 h.1)]
theorem Bo.vb_b (a0 a1 a2 a3 : Int) {k : Nat} (hk : 20 ≤ k) : bound_CheckBox.f k a0 a1 a2 a3 = some (if Bo.vb a0 a1 a2 a3 then 0 else 2) := by
 unfold bound_CheckBox.f bound_amount.f
 rw [Bo.check2 _ _ _ _ hk, Option.bind_some]
 simp only [Option.bind_some, Bo.mxE]
 by_cases h : Bo.v a0 a1 ∧ Bo.v a2 a3
 ·obtain ⟨⟨h1, h2, h3⟩, h4, h5, h6⟩ := id h
  rw [if_pos h, if_pos rfl, wrap_id (by omega) (by omega), wrap_id (by omega) (by omega), wrap_id (by omega) (by omega), wrap_id (by omega) (by omega)]
  by_cases q : max (max (max (max a0 (-a0)) (max a1 (-a1))) (max a2 (-a2))) (max a3 (-a3)) > 268435456
  ·rw [if_pos q, if_neg]
   intro h
   have := h.2.2
   omega
  rw [if_neg q, if_pos]
  exact ⟨h.1, h.2, by omega, by omega, by omega, by omega⟩
 rw [if_neg h, if_neg (by decide), if_neg (fun e => h ⟨e.1, e.2.1⟩)]
theorem Bo.checkBox_r (a0 a1 a2 a3 : Int) : isobathref01_CheckBox.f a0 a1 a2 a3 = some (if Bo.vb a0 a1 a2 a3 then 0 else 2) := by
 unfold isobathref01_CheckBox.f
 rw [Bo.vb_r, Option.bind_some]
 by_cases h : Bo.vb a0 a1 a2 a3
 ·rw [if_pos h, if_pos (zdt h)]
 rw [if_neg h, if_neg (by simpa using h)]
def Bo.near (a0 a1 b0 b1 : Int) : Int := max (max 0 (a0 - b1)) (b0 - a1)
def Bo.far (a0 a1 b0 b1 : Int) : Int := max (a1 - b0) (b1 - a0)
def Bo.sqLo (a0 a1 a2 a3 b0 b1 b2 b3 : Int) : Int := Bo.near a0 a1 b0 b1 * Bo.near a0 a1 b0 b1 + Bo.near a2 a3 b2 b3 * Bo.near a2 a3 b2 b3
def Bo.sqHi (a0 a1 a2 a3 b0 b1 b2 b3 : Int) : Int := Bo.far a0 a1 b0 b1 * Bo.far a0 a1 b0 b1 + Bo.far a2 a3 b2 b3 * Bo.far a2 a3 b2 b3
def Bo.square (a0 a1 a2 a3 b0 b1 b2 b3 : Int) : Int × Int × Int := if Bo.vb a0 a1 a2 a3 ∧ Bo.vb b0 b1 b2 b3 then (Bo.sqLo a0 a1 a2 a3 b0 b1 b2 b3, Bo.sqHi a0 a1 a2 a3 b0 b1 b2 b3, 0) else (0, 0, 2)
theorem Bo.sq_range {x : Int} (h0 : 0 ≤ x) (h1 : x ≤ 536870912) : 0 ≤ x * x ∧ x * x ≤ 288230376151711744 := by
 refine ⟨Int.mul_nonneg h0 h0, ?_⟩
 have := Int.mul_le_mul h1 h1 h0 (by omega)
 omega
theorem Bo.near_range {a0 a1 b0 b1 : Int} (h1 : a0 ≤ a1) (h2 : b0 ≤ b1) (h3 : -268435456 ≤ a0) (h4 : a1 ≤ 268435456) (h5 : -268435456 ≤ b0) (h6 : b1 ≤ 268435456) : 0 ≤ Bo.near a0 a1 b0 b1 ∧ Bo.near a0 a1 b0 b1 ≤ 536870912 := by
 unfold Bo.near
 omega
theorem Bo.far_range {a0 a1 b0 b1 : Int} (h1 : a0 ≤ a1) (h2 : b0 ≤ b1) (h3 : -268435456 ≤ a0) (h4 : a1 ≤ 268435456) (h5 : -268435456 ≤ b0) (h6 : b1 ≤ 268435456) : 0 ≤ Bo.far a0 a1 b0 b1 ∧ Bo.far a0 a1 b0 b1 ≤ 536870912 := by
 unfold Bo.far
 omega
theorem Bo.near_far {a0 a1 b0 b1 : Int} (h1 : a0 ≤ a1) (h2 : b0 ≤ b1) : Bo.near a0 a1 b0 b1 ≤ Bo.far a0 a1 b0 b1 := by
 unfold Bo.near Bo.far
 omega
theorem Bo.square_core {a0 a1 a2 a3 b0 b1 b2 b3 : Int} (ha : Bo.vb a0 a1 a2 a3) (hb : Bo.vb b0 b1 b2 b3) :
  (some (mx (mx 0 (wrap64 (a0 - b1))) (wrap64 (b0 - a1)), mx (wrap64 (a1 - b0)) (wrap64 (b1 - a0))) : Option (Int × Int)) = some (Bo.near a0 a1 b0 b1, Bo.far a0 a1 b0 b1) := by
 obtain ⟨⟨h1, -, -⟩, -, h3, h4, -, -⟩ := ha
 obtain ⟨⟨g1, -, -⟩, -, g3, g4, -, -⟩ := hb
 rw [Bo.mxE, Bo.mxE, Bo.mxE, wrap_id (by omega) (by omega), wrap_id (by omega) (by omega), wrap_id (by omega) (by omega), wrap_id (by omega) (by omega)]
 rfl
theorem Bo.vb_swap {a0 a1 a2 a3 : Int} (h : Bo.vb a0 a1 a2 a3) : Bo.vb a2 a3 a0 a1 := ⟨h.2.1, h.1, h.2.2.2.2.1, h.2.2.2.2.2, h.2.2.1, h.2.2.2.1⟩
theorem Bo.square_w {a0 a1 a2 a3 b0 b1 b2 b3 : Int} (ha : Bo.vb a0 a1 a2 a3) (hb : Bo.vb b0 b1 b2 b3) :
  wrap64 (wrap64 (Bo.near a0 a1 b0 b1 * Bo.near a0 a1 b0 b1) + wrap64 (Bo.near a2 a3 b2 b3 * Bo.near a2 a3 b2 b3)) = Bo.sqLo a0 a1 a2 a3 b0 b1 b2 b3 ∧ wrap64 (wrap64 (Bo.far a0 a1 b0 b1 * Bo.far a0 a1 b0 b1) + wrap64 (Bo.far a2 a3 b2 b3 * Bo.far a2 a3 b2 b3)) = Bo.sqHi a0 a1 a2 a3 b0 b1 b2 b3 ∧
  0 ≤ Bo.sqLo a0 a1 a2 a3 b0 b1 b2 b3 ∧ Bo.sqLo a0 a1 a2 a3 b0 b1 b2 b3 ≤ Bo.sqHi a0 a1 a2 a3 b0 b1 b2 b3 ∧ Bo.sqHi a0 a1 a2 a3 b0 b1 b2 b3 ≤ 576460752303423488 := by
 obtain ⟨⟨h1, -, -⟩, ⟨h2, -, -⟩, h3, h4, h5, h6⟩ := ha
 obtain ⟨⟨g1, -, -⟩, ⟨g2, -, -⟩, g3, g4, g5, g6⟩ := hb
 have n1 := Bo.near_range h1 g1 h3 h4 g3 g4
 have n2 := Bo.near_range h2 g2 h5 h6 g5 g6
 have f1 := Bo.far_range h1 g1 h3 h4 g3 g4
 have f2 := Bo.far_range h2 g2 h5 h6 g5 g6
 have m1 := Bo.near_far h1 g1
 have m2 := Bo.near_far h2 g2
 have q1 := Bo.sq_range n1.1 n1.2
 have q2 := Bo.sq_range n2.1 n2.2
 have q3 := Bo.sq_range f1.1 f1.2
 have q4 := Bo.sq_range f2.1 f2.2
 have q5 := Rt.sq_le n1.1 m1
 have q6 := Rt.sq_le n2.1 m2
 unfold Bo.sqLo Bo.sqHi
 refine ⟨?_, ?_, by omega, by omega, by omega⟩
 ·rw [wrap_id (n := Bo.near a0 a1 b0 b1 * Bo.near a0 a1 b0 b1) (by omega) (by omega), wrap_id (n := Bo.near a2 a3 b2 b3 * Bo.near a2 a3 b2 b3) (by omega) (by omega), wrap_id (by omega) (by omega)]
 rw [wrap_id (n := Bo.far a0 a1 b0 b1 * Bo.far a0 a1 b0 b1) (by omega) (by omega), wrap_id (n := Bo.far a2 a3 b2 b3 * Bo.far a2 a3 b2 b3) (by omega) (by omega), wrap_id (by omega) (by omega)]
theorem Bo.square_r (a0 a1 a2 a3 b0 b1 b2 b3 : Int) {k : Nat} (hk : 20 ≤ k) : isobathref01_Square.f k a0 a1 a2 a3 b0 b1 b2 b3 = some (Bo.square a0 a1 a2 a3 b0 b1 b2 b3) := by
 obtain ⟨k, rfl⟩ : ∃ m, k = m + 1 := ⟨k - 1, by omega⟩
 unfold isobathref01_Square.f Bo.square
 simp only [isobathref01_Square.j0, isobathref01_gap.f]
 rw [Bo.vb_r, Bo.vb_r, Option.bind_some, Option.bind_some]
 simp only [decide_eq_true_eq]
 by_cases ha : Bo.vb a0 a1 a2 a3
 ·by_cases hb : Bo.vb b0 b1 b2 b3
  ·have w := Bo.square_w ha hb
   rw [if_pos ha, zdt hb, if_neg (by simp), if_pos ⟨ha, hb⟩, Bo.square_core ha hb, Bo.square_core (Bo.vb_swap ha) (Bo.vb_swap hb)]
   simp only [Option.bind_some]
   rw [w.1, w.2.1]
  rw [if_pos ha, zdf hb, if_pos (by rfl), if_neg (fun h => hb h.2)]
 rw [if_neg ha, if_pos trivial, if_neg (fun h => ha h.1)]
theorem Bo.square_b (a0 a1 a2 a3 b0 b1 b2 b3 : Int) {k : Nat} (hk : 20 ≤ k) : bound_Square.f k a0 a1 a2 a3 b0 b1 b2 b3 = some (Bo.square a0 a1 a2 a3 b0 b1 b2 b3) := by
 unfold bound_Square.f Bo.square
 rw [Bo.vb_b _ _ _ _ hk, Bo.vb_b _ _ _ _ hk, Option.bind_some, Option.bind_some]
 obtain ⟨k, rfl⟩ : ∃ m, k = m + 1 := ⟨k - 1, by omega⟩
 simp only [bound_Square.j0, bound_apart.f]
 by_cases ha : Bo.vb a0 a1 a2 a3
 ·by_cases hb : Bo.vb b0 b1 b2 b3
  ·have w := Bo.square_w ha hb
   rw [if_pos ha, if_pos hb, if_pos rfl, if_neg (by simp), if_pos ⟨ha, hb⟩, Bo.square_core ha hb, Bo.square_core (Bo.vb_swap ha) (Bo.vb_swap hb)]
   simp only [Option.bind_some]
   rw [w.1, w.2.1]
  rw [if_pos ha, if_neg hb, if_pos rfl, if_pos (by rfl), if_neg (fun h => hb h.2)]
 rw [if_neg ha, if_neg (by decide), if_pos trivial, if_neg (fun h => ha h.1)]
def Bo.distance (a0 a1 a2 a3 b0 b1 b2 b3 : Int) : Int × Int × Int := if Bo.vb a0 a1 a2 a3 ∧ Bo.vb b0 b1 b2 b3 then (Rt.root (Bo.sqLo a0 a1 a2 a3 b0 b1 b2 b3), Rt.rootUp (Bo.sqHi a0 a1 a2 a3 b0 b1 b2 b3), 0) else (0, 0, 2)
theorem Bo.distance_b (a0 a1 a2 a3 b0 b1 b2 b3 : Int) {k : Nat} (hk : 20 ≤ k) : bound_Distance.f k a0 a1 a2 a3 b0 b1 b2 b3 = some (Bo.distance a0 a1 a2 a3 b0 b1 b2 b3) := by
 unfold bound_Distance.f Bo.distance
 rw [Bo.square_b _ _ _ _ _ _ _ _ hk, Option.bind_some]
 unfold Bo.square
 by_cases h : Bo.vb a0 a1 a2 a3 ∧ Bo.vb b0 b1 b2 b3
 ·have w := Bo.square_w h.1 h.2
  rw [if_pos h, if_pos h]
  simp only [if_true]
  rw [Bo.root_b (by omega) (by omega), Option.bind_some, Bo.rootUp_b (by omega) (by omega)]
  rfl
 rw [if_neg h, if_neg h]
 rfl
theorem Bo.distance_r (a0 a1 a2 a3 b0 b1 b2 b3 : Int) {k : Nat} (hk : 40 ≤ k) : isobathref01_Distance.f k a0 a1 a2 a3 b0 b1 b2 b3 = some (Bo.distance a0 a1 a2 a3 b0 b1 b2 b3) := by
 unfold isobathref01_Distance.f Bo.distance
 rw [Bo.square_r _ _ _ _ _ _ _ _ (by omega), Option.bind_some]
 unfold Bo.square
 by_cases h : Bo.vb a0 a1 a2 a3 ∧ Bo.vb b0 b1 b2 b3
 ·have w := Bo.square_w h.1 h.2
  rw [if_pos h, if_pos h]
  simp only [if_true]
  rw [Bo.sqrt_f (by omega) (by omega) hk, Option.bind_some, Bo.sqrtUp_f (by omega) (by omega) hk]
  rfl
 rw [if_neg h, if_neg h]
 rfl
theorem Bo.works {k : Nat} (hk : 20 ≤ k) : isobathlaw01_Works.f k = some true := by
 unfold isobathlaw01_Works.f bound_Cover.f
 rw [Bo.mul_b _ _ _ _ hk, Bo.div_b _ _ _ _ hk]
 rw [Bnd.check_f (by simp) (by simp; omega)]
 decide +kernel
structure Opens {α : Type} (P : Program) (t : TypeId) (d : Kd α) (B : α → Prop) : Prop where
 run : ∀ {H : Type} {enc : TypeId × Value → H} {W : World} {fuel : Nat} {cs : List Value} {x : DataW H × List MemPlace}, DataW.trod enc P W 0 (fun _ => true) true fuel t cs = some x → ∃ a : α, d.K W a cs ∧ B a
theorem Opens.int {P : Program} {t : TypeId} {k : IntKind} (ht : P.underlying t = some (.int k)) : Opens P t (Kd.int k) (fun n => (Lit.int k n).wf = true) :=
 ⟨fun h => by
  obtain ⟨n, rfl, _, hw⟩ := DataW.trod_int ht h
  exact ⟨n, rfl, hw⟩⟩
theorem Opens.bool {P : Program} {t : TypeId} (ht : P.underlying t = some .bool) : Opens P t Kd.bool (fun _ => True) :=
 ⟨fun h => by
  obtain ⟨n, rfl, _⟩ := DataW.trod_bool ht h
  exact ⟨n, rfl, trivial⟩⟩
theorem Opens.slice {α : Type} {P : Program} {t e : TypeId} {d : Kd α} {B : α → Prop} (ht : P.underlying t = some (.slice e)) (hc : P.cellsOf e = d.sz) (he : Opens P e d B) :
  Opens P t (Kd.slice e d) (fun xs => xs.length ≤ 9223372036854775807 ∧ ∀ x ∈ xs, B x) := by
 refine ⟨fun {H enc W fuel cs x} h => ?_⟩
 rcases Deep.open_slice ht h with ⟨rfl, _⟩ | ⟨a, len, cap, m, n, D, Pl, rfl, _, hl, hm, hmm, _, hx⟩
 ·exact ⟨[], ⟨none, 0, rfl, Nat.le_refl _, Kd.C_nil _ _⟩, by simp, by simp⟩
 have hm' : cap ≤ 9223372036854775807 := by unfold maxLen at hm; exact hm
 have hme : m = cap := by simpa using hmm
 have hel : ∀ i, i < len → ∃ y : α, (∃ cs', W.cells? 0 (a.add (i * P.cellsOf e)) (P.cellsOf e) = some cs' ∧ d.K W y cs') ∧ B y := by
  intro i hi
  obtain ⟨cs', h1, h2⟩ := hx i (by omega)
  obtain ⟨y, hy, hB⟩ := he.run h2
  exact ⟨y, ⟨cs', h1, hy⟩, hB⟩
 rcases Nat.eq_zero_or_pos len with h0 | h0
 ·subst h0
  exact ⟨[], ⟨some a, cap, rfl, Nat.zero_le _, rfl, Nat.zero_le _, fun hp => absurd hp (Nat.lt_irrefl 0)⟩, by simp, by simp⟩
 have : Inhabited α := ⟨Classical.choose (hel 0 h0)⟩
 obtain ⟨f, hf⟩ := Deep.choose_lt (p := fun i y => (∃ cs', W.cells? 0 (a.add (i * P.cellsOf e)) (P.cellsOf e) = some cs' ∧ d.K W y cs') ∧ B y) hel
 have hlen : ((List.range len).map f).length = len := by simp
 refine ⟨(List.range len).map f, ⟨some a, cap, by rw [hlen], by rw [hlen]; exact hl, hlen ▸ rfl, by rw [hlen]; omega, fun _ => ⟨a, rfl, ?_⟩⟩, by rw [hlen]; omega, ?_⟩
 ·intro j p hj
  have hjl : j < len := by
   have := (List.getElem?_eq_some_iff.1 hj).1
   rwa [hlen] at this
  have hp : p = f j := by
   rw [List.getElem?_map, List.getElem?_range hjl] at hj
   exact (zsi hj).symm
  subst hp
  obtain ⟨⟨cs', h1, h2⟩, _⟩ := hf j hjl
  obtain ⟨_, h3, h4⟩ := World.cells?_some h1
  rw [hc] at h3 h4
  refine ⟨cs', h3, h2, fun i u hu => ?_⟩
  have hi : i < d.sz := by
   have := (List.getElem?_eq_some_iff.1 hu).1
   omega
  rw [← Deep.add_add]
  exact (h4 i hi).trans hu
 intro y hy
 obtain ⟨i, hi, rfl⟩ := List.mem_map.1 hy
 exact (hf i (List.mem_range.1 hi)).2
structure OpensF {α : Type} (P : Program) (fs : List Field) (off tot : Nat) (d : Kd α) (B : α → Prop) : Prop where
 run : ∀ {H : Type} {enc : TypeId × Value → H} {W : World} {n : Nat} {cs : List Value}, cs.length = tot → (∀ (i : Nat) (f : Field), fs[i]? = some f → ∃ y, DataW.trod enc P W 0 (fun _ => true) true n f.type ((cs.drop f.offset).take (P.cellsOf f.type)) = some y) → ∃ a : α, d.K W a (cs.drop off) ∧ B a
theorem OpensF.last {α : Type} {P : Program} {f : Field} {off tot : Nat} {d : Kd α} {B : α → Prop} (ho : f.offset = off) (ht : off + P.cellsOf f.type = tot) (h : Opens P f.type d B) : OpensF P [f] off tot d B := by
 refine ⟨fun {H enc W n cs} hl hy => ?_⟩
 obtain ⟨y, hy⟩ := hy 0 f rfl
 obtain ⟨a, ha, hB⟩ := h.run hy
 rw [ho, List.take_of_length_le (by rw [zld]; omega)] at ha
 exact ⟨a, ha, hB⟩
theorem OpensF.cons {α β : Type} {P : Program} {f : Field} {fs : List Field} {off tot : Nat} {d1 : Kd α} {d2 : Kd β} {B1 : α → Prop} {B2 : β → Prop} (ho : f.offset = off) (hs : P.cellsOf f.type = d1.sz) (h : Opens P f.type d1 B1) (hr : OpensF P fs (off + d1.sz) tot d2 B2) :
  OpensF P (f :: fs) off tot (Kd.pair d1 d2) (fun x => B1 x.1 ∧ B2 x.2) := by
 refine ⟨fun {H enc W n cs} hl hy => ?_⟩
 obtain ⟨y, hy0⟩ := hy 0 f rfl
 obtain ⟨a, ha, hB⟩ := h.run hy0
 obtain ⟨b, hb, hB2⟩ := hr.run hl (fun i g hg => hy (i + 1) g hg)
 rw [ho, hs] at ha
 refine ⟨(a, b), ⟨(cs.drop off).take d1.sz, cs.drop (off + d1.sz), ?_, ha, hb⟩, hB, hB2⟩
 rw [← List.drop_drop, List.take_append_drop]
theorem Opens.struct {α β : Type} {P : Program} {t : TypeId} {fs : Array Field} {d : Kd α} {B : α → Prop} (ht : P.underlying t = some (.struct fs)) (f : β → α) (g : α → β) (hg : ∀ a, f (g a) = a) (hF : OpensF P fs.toList 0 (P.cellsOf t) d B) : Opens P t (Kd.iso d f) (fun x => B (f x)) := by
 refine ⟨fun {H enc W fuel cs x} h => ?_⟩
 obtain ⟨xs, n, _, _, hl, hlen, hf⟩ := DataW.trod_struct ht h
 obtain ⟨a, ha, hB⟩ := hF.run (n := n) hl (fun i fl hfl => by
  have hfl' : fs[i]? = some fl := by simpa using hfl
  have hi : i < fs.size := (Array.getElem?_eq_some_iff.1 hfl').1
  exact ⟨xs[i]'(by omega), (hf i fl hfl').trans (List.getElem?_eq_getElem (by omega))⟩)
 refine ⟨g a, ?_, ?_⟩
 ·show d.K W (f (g a)) cs
  rw [hg]
  simpa using ha
 show B (f (g a))
 rw [hg]
 exact hB
theorem cells_agg {v : Value} {l : List Value} (h : v.cells.toList = l) (hl : 2 ≤ l.length) : v = .agg l.toArray := by
 subst h
 cases v <;> simp [Value.cells] at hl ⊢
theorem Opens.array {α β : Type} {P : Program} {t n e : Nat} {fs : List Field} {d : Kd α} {B : α → Prop} (ht : P.underlying t = some (.array n e)) (hfs : ∀ (i : Nat) (f : Field), fs[i]? = some f → i < n ∧ f.type = e ∧ f.offset = i * P.cellsOf e) (f : β → α) (g : α → β) (hg : ∀ a, f (g a) = a) (hF : OpensF P fs 0 (P.cellsOf t) d B) : Opens P t (Kd.iso d f) (fun x => B (f x)) := by
 refine ⟨fun {H enc W fuel cs x} h => ?_⟩
 obtain ⟨xs, m, _, _, hl, hlen, hf⟩ := DataW.trod_array ht h
 obtain ⟨a, ha, hB⟩ := hF.run (n := m) hl (fun i fl hfl => by
  obtain ⟨h1, h2, h3⟩ := hfs i fl hfl
  rw [h2, h3]
  exact ⟨xs[i]'(by omega), (hf i h1).trans (List.getElem?_eq_getElem (by omega))⟩)
 refine ⟨g a, ?_, ?_⟩
 ·show d.K W (f (g a)) cs
  rw [hg]
  simpa using ha
 show B (f (g a))
 rw [hg]
 exact hB
def isobathlaw01_operate.f (k : Nat) (a0 : Int) (a1_0 : Int) (a1_1 : Int) (a2_0 : Int) (a2_1 : Int) (a3 : Int) (a4 : Int) (a5 : Int) (a6 : Int) (a7 : Int) : Option (Int × Int × Int) := if a0 = 0 then ((bound_Add.f k a1_0 a1_1 a2_0 a2_1).bind fun bt104 => (some (bt104.1, bt104.2.1, bt104.2.2))) else (if a0 = 1 then ((bound_Sub.f k a1_0 a1_1 a2_0 a2_1).bind fun bt107 => (some (bt107.1, bt107.2.1, bt107.2.2))) else (if a0 = 2 then ((bound_Mul.f k a1_0 a1_1 a2_0 a2_1).bind fun bt110 => (some (bt110.1, bt110.2.1, bt110.2.2))) else (if a0 = 3 then ((bound_Div.f k a1_0 a1_1 a2_0 a2_1).bind fun bt113 => (some (bt113.1, bt113.2.1, bt113.2.2))) else (if a0 = 4 then ((bound_Hull.f k a1_0 a1_1 a2_0 a2_1).bind fun bt116 => (some (bt116.1, bt116.2.1, bt116.2.2))) else (if a0 = 5 then ((bound_Meet.f k a1_0 a1_1 a2_0 a2_1).bind fun bt119 => (some (bt119.1, bt119.2.1, bt119.2.2))) else (if a0 = 6 then ((bound_Scale.f k a1_0 a1_1 a3 a4).bind fun bt122 => (some (bt122.1, bt122.2.1, bt122.2.2))) else (if a0 = 7 then ((bound_Root.f k a1_0 a1_1).bind fun bt125 => (some (bt125.1, bt125.2.1, bt125.2.2))) else ((bound_Line.f k a5 a1_0 a1_1 a6 a2_0 a2_1 a7).bind fun bt128 => (some (bt128.1, bt128.2.1, bt128.2.2))))))))))
theorem isobathlaw01_operate.mono : ∀ a0 a1 a2 a3 a4 a5 a6 a7 a8 a9 k, LeO (isobathlaw01_operate.f k a0 a1 a2 a3 a4 a5 a6 a7 a8 a9) (isobathlaw01_operate.f (k + 1) a0 a1 a2 a3 a4 a5 a6 a7 a8 a9) := by
 intro a0 a1 a2 a3 a4 a5 a6 a7 a8 a9 k
 unfold isobathlaw01_operate.f
 repeat' first
   | (with_reducible exact bound_Add.mono _ _ _ _ _)
   | (with_reducible exact bound_Div.mono _ _ _ _ _)
   | (with_reducible exact bound_Hull.mono _ _ _ _ _)
   | (with_reducible exact bound_Line.mono _ _ _ _ _ _ _ _)
   | (with_reducible exact bound_Meet.mono _ _ _ _ _)
   | (with_reducible exact bound_Mul.mono _ _ _ _ _)
   | (with_reducible exact bound_Root.mono _ _ _)
   | (with_reducible exact bound_Scale.mono _ _ _ _ _)
   | (with_reducible exact bound_Sub.mono _ _ _ _ _)
   | (with_reducible exact LeO.refl _)
   | (with_reducible exact LeO.none _)
   | (with_reducible refine LeO.ite ?_ ?_)
   | (with_reducible refine LeO.bind ?_ (fun _ => ?_))
   | exact bound_Add.mono _ _ _ _ _
   | exact bound_Div.mono _ _ _ _ _
   | exact bound_Hull.mono _ _ _ _ _
   | exact bound_Line.mono _ _ _ _ _ _ _ _
   | exact bound_Meet.mono _ _ _ _ _
   | exact bound_Mul.mono _ _ _ _ _
   | exact bound_Root.mono _ _ _
   | exact bound_Scale.mono _ _ _ _ _
   | exact bound_Sub.mono _ _ _ _ _
   | exact LeO.none _
   | refine LeO.ite ?_ ?_
   | refine LeO.bind ?_ (fun _ => ?_)
set_option maxHeartbeats 8000000 in
set_option maxRecDepth 100000 in
theorem isobathlaw01_operate.calls (k : Nat) (a0 : Int) (a1_0 : Int) (a1_1 : Int) (a2_0 : Int) (a2_1 : Int) (a3 : Int) (a4 : Int) (a5 : Int) (a6 : Int) (a7 : Int) (r1 : Int) (r2 : Int) (r3 : Int) (w : World) (h : isobathlaw01_operate.f k a0 a1_0 a1_1 a2_0 a2_1 a3 a4 a5 a6 a7 = some (r1, r2, r3)) :
  Calls Try.prog 70 #[.int .i64 a0, .agg #[.int .i64 a1_0, .int .i64 a1_1], .agg #[.int .i64 a2_0, .int .i64 a2_1], .int .i64 a3, .int .i64 a4, .int .i64 a5, .int .i64 a6, .int .i64 a7] w fun e w' => e = .returned (.tuple #[.agg #[.int .i64 r1, .int .i64 r2], .int .i64 r3]) ∧ Below w.heap.size w w' := by
 have hu32 := Try.underlying32
 have HB := zam (Below.refl w.heap.size w)
 have H : (if a0 = 0 then ((bound_Add.f k a1_0 a1_1 a2_0 a2_1).bind fun bt104 => (some (bt104.1, bt104.2.1, bt104.2.2))) else (if a0 = 1 then ((bound_Sub.f k a1_0 a1_1 a2_0 a2_1).bind fun bt107 => (some (bt107.1, bt107.2.1, bt107.2.2))) else (if a0 = 2 then ((bound_Mul.f k a1_0 a1_1 a2_0 a2_1).bind fun bt110 => (some (bt110.1, bt110.2.1, bt110.2.2))) else (if a0 = 3 then ((bound_Div.f k a1_0 a1_1 a2_0 a2_1).bind fun bt113 => (some (bt113.1, bt113.2.1, bt113.2.2))) else (if a0 = 4 then ((bound_Hull.f k a1_0 a1_1 a2_0 a2_1).bind fun bt116 => (some (bt116.1, bt116.2.1, bt116.2.2))) else (if a0 = 5 then ((bound_Meet.f k a1_0 a1_1 a2_0 a2_1).bind fun bt119 => (some (bt119.1, bt119.2.1, bt119.2.2))) else (if a0 = 6 then ((bound_Scale.f k a1_0 a1_1 a3 a4).bind fun bt122 => (some (bt122.1, bt122.2.1, bt122.2.2))) else (if a0 = 7 then ((bound_Root.f k a1_0 a1_1).bind fun bt125 => (some (bt125.1, bt125.2.1, bt125.2.2))) else ((bound_Line.f k a5 a1_0 a1_1 a6 a2_0 a2_1 a7).bind fun bt128 => (some (bt128.1, bt128.2.1, bt128.2.2))))))))))) = some (r1, r2, r3) := h
 clear h
 by_cases c9 : a0 = 0
 ·rw [if_pos c9] at H
  have c9b0 : (a0 == 0) = true := beq_iff_eq.mpr c9
  have c9b1 : (a0 != 0) = false := bne_eq_false_iff_eq.mpr c9
  clear c9
  replace H := Option.bind_eq_some_iff.mp H
  obtain ⟨⟨t104, t105, t106⟩, A100, H⟩ := H
  replace H : (some (t104, t105, t106)) = some (r1, r2, r3) := H
  have A10 := zam A100
  clear A100
  simp only [Option.some.injEq, Prod.mk.injEq] at H
  obtain ⟨rfl, rfl, rfl⟩ := H
  go_enter Try.func70, Try.ntmps70
  go_wp2_with (first | ((with_reducible refine zgd (N := 9) rfl ?_); refine box_event ?hg (N := 9) ?hd (cs := #[.int .i64 a1_0, .int .i64 a1_1]) (t := 32) ?hr ?_; (case hd => rfl); (case hg => rfl); (case hr => first | (go_simp; done) | (go_simp; rfl)); intro gb101 hg w11 hbox hb; have n0_ := zam (zbt (by repeat (first | (with_reducible first | exact HB.out | apply zba | apply zbn | apply zb1) | exact HB.out)) hb); have n1_ := zam (hbox); have n2_ := zam ((by rw [hg]; exact (zbz (by repeat (first | (with_reducible first | exact HB.out | apply zba | apply zbn | apply zb1) | exact HB.out))) : w.heap.size ≤ gb101)); have n3_ := zam ((by rw [hg]; exact (zbz (by repeat (first | (with_reducible first | exact HB.out | apply zba | apply zbn | apply zb1) | exact HB.out))) : w.heap.size ≤ gb101)); clear HB; have HB := n0_; have BK101 := n1_; have GW101 := n2_; have GE101 := n3_; clear n0_ n1_ n2_ n3_; clear hb hbox hg) | ((with_reducible refine zgd (N := 10) rfl ?_); refine box_event ?hg (N := 10) ?hd (cs := #[.int .i64 a2_0, .int .i64 a2_1]) (t := 32) ?hr ?_; (case hd => rfl); (case hg => rfl); (case hr => first | (go_simp; done) | (go_simp; rfl)); intro gb102 hg w12 hbox hb; have n0_ := zam (zkb (g := gb101) (o := .cells #[.int .i64 a1_0, .int .i64 a1_1] 32 (0, 0)) (by (with_reducible repeat (first | refine zkn ?_ _ | refine zkd ?_ | refine zka ?_ _)); exact BK101.out) hb); have n1_ := zam (zbt (by repeat (first | (with_reducible first | exact HB.out | apply zba | apply zbn | apply zb1 | refine zbs ?_ GE101.out) | exact HB.out)) hb); have n2_ := zam (hbox); have n3_ := zam ((by rw [hg]; exact (zbz (by repeat (first | (with_reducible first | exact HB.out | apply zba | apply zbn | apply zb1 | refine zbs ?_ GE101.out) | exact HB.out))) : w.heap.size ≤ gb102)); have n4_ := zam ((by rw [hg]; exact (zbz (by repeat (first | (with_reducible first | exact HB.out | apply zba | apply zbn | apply zb1 | refine zbs ?_ GE101.out) | exact HB.out))) : w.heap.size ≤ gb102)); have n5_ := zam ((by rw [hg]; exact Nat.ne_of_lt (blk_lt (g := gb101) (o := .cells #[.int .i64 a1_0, .int .i64 a1_1] 32 (0, 0)) (by (with_reducible repeat (first | refine zkn ?_ _ | refine zkd ?_ | refine zka ?_ _)); exact BK101.out)) : gb101 ≠ gb102)); have n6_ := zam ((by rw [hg]; exact Nat.ne_of_gt (blk_lt (g := gb101) (o := .cells #[.int .i64 a1_0, .int .i64 a1_1] 32 (0, 0)) (by (with_reducible repeat (first | refine zkn ?_ _ | refine zkd ?_ | refine zka ?_ _)); exact BK101.out)) : gb102 ≠ gb101)); clear BK101; clear HB; have BK101 := n0_; have HB := n1_; have BK102 := n2_; have GW102 := n3_; have GE102 := n4_; have NB101_102 := n5_; have NB102_101 := n6_; clear n0_ n1_ n2_ n3_ n4_ n5_ n6_; clear hb hbox hg) | ((with_reducible refine zgd (N := 16) rfl ?_); refine box_event ?hg (N := 16) ?hd (cs := #[.int .i64 0, .int .i64 0]) (t := 32) ?hr ?_; (case hd => rfl); (case hg => rfl); (case hr => first | (go_simp; done) | (go_simp; rfl)); intro gb103 hg w13 hbox hb; have n0_ := zam (zkb (g := gb101) (o := .cells #[.int .i64 a1_0, .int .i64 a1_1] 32 (0, 0)) (by (with_reducible repeat (first | refine zkn ?_ _ | refine zkd ?_ | refine zka ?_ _)); exact BK101.out) hb); have n1_ := zam (zkb (g := gb102) (o := .cells #[.int .i64 a2_0, .int .i64 a2_1] 32 (0, 0)) (by (with_reducible repeat (first | refine zkn ?_ _ | refine zkd ?_ | refine zka ?_ _)); exact BK102.out) hb); have n2_ := zam (zbt (by repeat (first | (with_reducible first | exact HB.out | apply zba | apply zbn | apply zb1 | refine zbs ?_ GE101.out | refine zbs ?_ GE102.out) | exact HB.out)) hb); have n3_ := zam (hbox); have n4_ := zam ((by rw [hg]; exact (zbz (by repeat (first | (with_reducible first | exact HB.out | apply zba | apply zbn | apply zb1 | refine zbs ?_ GE101.out | refine zbs ?_ GE102.out) | exact HB.out))) : w.heap.size ≤ gb103)); have n5_ := zam ((by rw [hg]; exact (zbz (by repeat (first | (with_reducible first | exact HB.out | apply zba | apply zbn | apply zb1 | refine zbs ?_ GE101.out | refine zbs ?_ GE102.out) | exact HB.out))) : w.heap.size ≤ gb103)); have n6_ := zam ((by rw [hg]; exact Nat.ne_of_lt (blk_lt (g := gb101) (o := .cells #[.int .i64 a1_0, .int .i64 a1_1] 32 (0, 0)) (by (with_reducible repeat (first | refine zkn ?_ _ | refine zkd ?_ | refine zka ?_ _)); exact BK101.out)) : gb101 ≠ gb103)); have n7_ := zam ((by rw [hg]; exact Nat.ne_of_gt (blk_lt (g := gb101) (o := .cells #[.int .i64 a1_0, .int .i64 a1_1] 32 (0, 0)) (by (with_reducible repeat (first | refine zkn ?_ _ | refine zkd ?_ | refine zka ?_ _)); exact BK101.out)) : gb103 ≠ gb101)); have n8_ := zam ((by rw [hg]; exact Nat.ne_of_lt (blk_lt (g := gb102) (o := .cells #[.int .i64 a2_0, .int .i64 a2_1] 32 (0, 0)) (by (with_reducible repeat (first | refine zkn ?_ _ | refine zkd ?_ | refine zka ?_ _)); exact BK102.out)) : gb102 ≠ gb103)); have n9_ := zam ((by rw [hg]; exact Nat.ne_of_gt (blk_lt (g := gb102) (o := .cells #[.int .i64 a2_0, .int .i64 a2_1] 32 (0, 0)) (by (with_reducible repeat (first | refine zkn ?_ _ | refine zkd ?_ | refine zka ?_ _)); exact BK102.out)) : gb103 ≠ gb102)); clear BK101; clear BK102; clear HB; have BK101 := n0_; have BK102 := n1_; have HB := n2_; have BK103 := n3_; have GW103 := n4_; have GE103 := n5_; have NB101_103 := n6_; have NB103_101 := n7_; have NB102_103 := n8_; have NB103_102 := n9_; clear n0_ n1_ n2_ n3_ n4_ n5_ n6_ n7_ n8_ n9_; clear hb hbox hg; have hnb14 := NB101_102.out; have hnc14 := NB102_101.out; have hnb15 := NB101_103.out; have hnc15 := NB103_101.out; have hcz16_0 : w13.cell? ⟨gb101, 0, none⟩ = some (.int .i64 a1_0) := (zkc BK101.out 0).trans rfl; have hcz16_1 : w13.cell? ⟨gb101, 1, none⟩ = some (.int .i64 a1_1) := (zkc BK101.out 1).trans rfl; have hfz16_0 := zkz BK101.out 0; have hfz16_1 := zkz BK101.out 1; have hnb17 := NB102_103.out; have hnc17 := NB103_102.out; have hcz18_0 : w13.cell? ⟨gb102, 0, none⟩ = some (.int .i64 a2_0) := (zkc BK102.out 0).trans rfl; have hcz18_1 : w13.cell? ⟨gb102, 1, none⟩ = some (.int .i64 a2_1) := (zkc BK102.out 1).trans rfl; have hfz18_0 := zkz BK102.out 0; have hfz18_1 := zkz BK102.out 1) | ((with_reducible refine zgc (f := 27) rfl ?_); refine goesL_ (some 23) rfl rfl Try.func27 (by kernel_rfl) rfl #[.agg #[.int .i64 a1_0, .int .i64 a1_1], .agg #[.int .i64 a2_0, .int .i64 a2_1]] rfl (by (try simp only [zmt, List.map_cons, List.map_nil]); first | done | rfl | (simp only [zld, zlt]; rfl)) ?_; (with_reducible refine (bound_Add.calls k a1_0 a1_1 a2_0 a2_1 t104 t105 t106 _ A10.out).mono ?_); rintro e w19 ⟨rfl, hb⟩; refine ⟨_, rfl, ?_⟩; have n0_ := zam (zkb (g := gb101) (o := .cells #[.int .i64 a1_0, .int .i64 a1_1] 32 (0, 0)) (by (with_reducible repeat (first | refine zkn ?_ _ | refine zkd ?_ | refine zka ?_ _)); exact BK101.out) hb); have n1_ := zam (zkb (g := gb102) (o := .cells #[.int .i64 a2_0, .int .i64 a2_1] 32 (0, 0)) (by (with_reducible repeat (first | refine zkn ?_ _ | refine zkd ?_ | refine zka ?_ _)); exact BK102.out) hb); have n2_ := zam (zkb (g := gb103) (o := .cells #[.int .i64 0, .int .i64 0] 32 (0, 0)) (by (with_reducible repeat (first | refine zkn ?_ _ | refine zkd ?_ | refine zka ?_ _)); exact BK103.out) hb); have n3_ := zam (zbt (by repeat (first | (with_reducible first | exact HB.out | apply zba | apply zbn | apply zb1 | refine zbs ?_ GE101.out | refine zbs ?_ GE102.out | refine zbs ?_ GE103.out) | exact HB.out)) hb); clear BK101; clear BK102; clear BK103; clear HB; have BK101 := n0_; have BK102 := n1_; have BK103 := n2_; have HB := n3_; clear n0_ n1_ n2_ n3_; (try clear hb); (try clear hb2); (try clear hk); (try clear hi); have hcz20_0 : w19.cell? ⟨gb103, 0, none⟩ = some (.int .i64 0) := (zkc BK103.out 0).trans rfl; have hcz20_1 : w19.cell? ⟨gb103, 1, none⟩ = some (.int .i64 0) := (zkc BK103.out 1).trans rfl; have hfz20_0 := zkz BK103.out 0; have hfz20_1 := zkz BK103.out 1))
  refine zbr (results_ct rfl _ _ gb103 32 #[.int .i64 t104, .int .i64 t105] (0, 0) _ rfl (by (with_reducible repeat (first | refine zkn ?_ _ | refine zkd ?_ | refine zka ?_ _)); refine blk_put (cs := #[.int .i64 t104, .int .i64 0]) ?_ 1 _ rfl; (with_reducible repeat (first | refine zkn ?_ _ | refine zkd ?_ | refine zka ?_ _)); refine blk_put (cs := #[.int .i64 0, .int .i64 0]) ?_ 0 _ rfl; (with_reducible repeat (first | refine zkn ?_ _ | refine zkd ?_ | refine zka ?_ _)); exact BK103.out) Try.underlying32 rfl (by kernel_rfl)) rfl ?_
  exact ⟨by first | rfl | (simp [errW_none, errW_some] <;> rfl) | (simp [*, errW_none, errW_some] <;> rfl), by repeat (first | (with_reducible first | exact HB.out | apply zba | apply zbn | apply zb1 | refine zbs ?_ GE101.out | refine zbs ?_ GE102.out | refine zbs ?_ GE103.out) | exact HB.out)⟩
 rw [if_neg c9] at H
 have c9b0 : (a0 == 0) = false := beq_eq_false_iff_ne.mpr c9
 have c9b1 : (a0 != 0) = true := bne_iff_ne.mpr c9
 by_cases c21 : a0 = 1
 ·rw [if_pos c21] at H
  have c21b0 : (a0 == 1) = true := beq_iff_eq.mpr c21
  have c21b1 : (a0 != 1) = false := bne_eq_false_iff_eq.mpr c21
  clear c21
  replace H := Option.bind_eq_some_iff.mp H
  obtain ⟨⟨t107, t108, t109⟩, A220, H⟩ := H
  replace H : (some (t107, t108, t109)) = some (r1, r2, r3) := H
  have A22 := zam A220
  clear A220
  simp only [Option.some.injEq, Prod.mk.injEq] at H
  obtain ⟨rfl, rfl, rfl⟩ := H
  go_enter Try.func70, Try.ntmps70
  go_wp2_with (first | ((with_reducible refine zgd (N := 9) rfl ?_); refine box_event ?hg (N := 9) ?hd (cs := #[.int .i64 a1_0, .int .i64 a1_1]) (t := 32) ?hr ?_; (case hd => rfl); (case hg => rfl); (case hr => first | (go_simp; done) | (go_simp; rfl)); intro gb101 hg w23 hbox hb; have n0_ := zam (zbt (by repeat (first | (with_reducible first | exact HB.out | apply zba | apply zbn | apply zb1) | exact HB.out)) hb); have n1_ := zam (hbox); have n2_ := zam ((by rw [hg]; exact (zbz (by repeat (first | (with_reducible first | exact HB.out | apply zba | apply zbn | apply zb1) | exact HB.out))) : w.heap.size ≤ gb101)); have n3_ := zam ((by rw [hg]; exact (zbz (by repeat (first | (with_reducible first | exact HB.out | apply zba | apply zbn | apply zb1) | exact HB.out))) : w.heap.size ≤ gb101)); clear HB; have HB := n0_; have BK101 := n1_; have GW101 := n2_; have GE101 := n3_; clear n0_ n1_ n2_ n3_; clear hb hbox hg) | ((with_reducible refine zgd (N := 10) rfl ?_); refine box_event ?hg (N := 10) ?hd (cs := #[.int .i64 a2_0, .int .i64 a2_1]) (t := 32) ?hr ?_; (case hd => rfl); (case hg => rfl); (case hr => first | (go_simp; done) | (go_simp; rfl)); intro gb102 hg w24 hbox hb; have n0_ := zam (zkb (g := gb101) (o := .cells #[.int .i64 a1_0, .int .i64 a1_1] 32 (0, 0)) (by (with_reducible repeat (first | refine zkn ?_ _ | refine zkd ?_ | refine zka ?_ _)); exact BK101.out) hb); have n1_ := zam (zbt (by repeat (first | (with_reducible first | exact HB.out | apply zba | apply zbn | apply zb1 | refine zbs ?_ GE101.out) | exact HB.out)) hb); have n2_ := zam (hbox); have n3_ := zam ((by rw [hg]; exact (zbz (by repeat (first | (with_reducible first | exact HB.out | apply zba | apply zbn | apply zb1 | refine zbs ?_ GE101.out) | exact HB.out))) : w.heap.size ≤ gb102)); have n4_ := zam ((by rw [hg]; exact (zbz (by repeat (first | (with_reducible first | exact HB.out | apply zba | apply zbn | apply zb1 | refine zbs ?_ GE101.out) | exact HB.out))) : w.heap.size ≤ gb102)); have n5_ := zam ((by rw [hg]; exact Nat.ne_of_lt (blk_lt (g := gb101) (o := .cells #[.int .i64 a1_0, .int .i64 a1_1] 32 (0, 0)) (by (with_reducible repeat (first | refine zkn ?_ _ | refine zkd ?_ | refine zka ?_ _)); exact BK101.out)) : gb101 ≠ gb102)); have n6_ := zam ((by rw [hg]; exact Nat.ne_of_gt (blk_lt (g := gb101) (o := .cells #[.int .i64 a1_0, .int .i64 a1_1] 32 (0, 0)) (by (with_reducible repeat (first | refine zkn ?_ _ | refine zkd ?_ | refine zka ?_ _)); exact BK101.out)) : gb102 ≠ gb101)); clear BK101; clear HB; have BK101 := n0_; have HB := n1_; have BK102 := n2_; have GW102 := n3_; have GE102 := n4_; have NB101_102 := n5_; have NB102_101 := n6_; clear n0_ n1_ n2_ n3_ n4_ n5_ n6_; clear hb hbox hg) | ((with_reducible refine zgd (N := 16) rfl ?_); refine box_event ?hg (N := 16) ?hd (cs := #[.int .i64 0, .int .i64 0]) (t := 32) ?hr ?_; (case hd => rfl); (case hg => rfl); (case hr => first | (go_simp; done) | (go_simp; rfl)); intro gb103 hg w25 hbox hb; have n0_ := zam (zkb (g := gb101) (o := .cells #[.int .i64 a1_0, .int .i64 a1_1] 32 (0, 0)) (by (with_reducible repeat (first | refine zkn ?_ _ | refine zkd ?_ | refine zka ?_ _)); exact BK101.out) hb); have n1_ := zam (zkb (g := gb102) (o := .cells #[.int .i64 a2_0, .int .i64 a2_1] 32 (0, 0)) (by (with_reducible repeat (first | refine zkn ?_ _ | refine zkd ?_ | refine zka ?_ _)); exact BK102.out) hb); have n2_ := zam (zbt (by repeat (first | (with_reducible first | exact HB.out | apply zba | apply zbn | apply zb1 | refine zbs ?_ GE101.out | refine zbs ?_ GE102.out) | exact HB.out)) hb); have n3_ := zam (hbox); have n4_ := zam ((by rw [hg]; exact (zbz (by repeat (first | (with_reducible first | exact HB.out | apply zba | apply zbn | apply zb1 | refine zbs ?_ GE101.out | refine zbs ?_ GE102.out) | exact HB.out))) : w.heap.size ≤ gb103)); have n5_ := zam ((by rw [hg]; exact (zbz (by repeat (first | (with_reducible first | exact HB.out | apply zba | apply zbn | apply zb1 | refine zbs ?_ GE101.out | refine zbs ?_ GE102.out) | exact HB.out))) : w.heap.size ≤ gb103)); have n6_ := zam ((by rw [hg]; exact Nat.ne_of_lt (blk_lt (g := gb101) (o := .cells #[.int .i64 a1_0, .int .i64 a1_1] 32 (0, 0)) (by (with_reducible repeat (first | refine zkn ?_ _ | refine zkd ?_ | refine zka ?_ _)); exact BK101.out)) : gb101 ≠ gb103)); have n7_ := zam ((by rw [hg]; exact Nat.ne_of_gt (blk_lt (g := gb101) (o := .cells #[.int .i64 a1_0, .int .i64 a1_1] 32 (0, 0)) (by (with_reducible repeat (first | refine zkn ?_ _ | refine zkd ?_ | refine zka ?_ _)); exact BK101.out)) : gb103 ≠ gb101)); have n8_ := zam ((by rw [hg]; exact Nat.ne_of_lt (blk_lt (g := gb102) (o := .cells #[.int .i64 a2_0, .int .i64 a2_1] 32 (0, 0)) (by (with_reducible repeat (first | refine zkn ?_ _ | refine zkd ?_ | refine zka ?_ _)); exact BK102.out)) : gb102 ≠ gb103)); have n9_ := zam ((by rw [hg]; exact Nat.ne_of_gt (blk_lt (g := gb102) (o := .cells #[.int .i64 a2_0, .int .i64 a2_1] 32 (0, 0)) (by (with_reducible repeat (first | refine zkn ?_ _ | refine zkd ?_ | refine zka ?_ _)); exact BK102.out)) : gb103 ≠ gb102)); clear BK101; clear BK102; clear HB; have BK101 := n0_; have BK102 := n1_; have HB := n2_; have BK103 := n3_; have GW103 := n4_; have GE103 := n5_; have NB101_103 := n6_; have NB103_101 := n7_; have NB102_103 := n8_; have NB103_102 := n9_; clear n0_ n1_ n2_ n3_ n4_ n5_ n6_ n7_ n8_ n9_; clear hb hbox hg; have hnb26 := NB101_102.out; have hnc26 := NB102_101.out; have hnb27 := NB101_103.out; have hnc27 := NB103_101.out; have hcz28_0 : w25.cell? ⟨gb101, 0, none⟩ = some (.int .i64 a1_0) := (zkc BK101.out 0).trans rfl; have hcz28_1 : w25.cell? ⟨gb101, 1, none⟩ = some (.int .i64 a1_1) := (zkc BK101.out 1).trans rfl; have hfz28_0 := zkz BK101.out 0; have hfz28_1 := zkz BK101.out 1; have hnb29 := NB102_103.out; have hnc29 := NB103_102.out; have hcz30_0 : w25.cell? ⟨gb102, 0, none⟩ = some (.int .i64 a2_0) := (zkc BK102.out 0).trans rfl; have hcz30_1 : w25.cell? ⟨gb102, 1, none⟩ = some (.int .i64 a2_1) := (zkc BK102.out 1).trans rfl; have hfz30_0 := zkz BK102.out 0; have hfz30_1 := zkz BK102.out 1) | ((with_reducible refine zgc (f := 30) rfl ?_); refine goesL_ (some 30) rfl rfl Try.func30 (by kernel_rfl) rfl #[.agg #[.int .i64 a1_0, .int .i64 a1_1], .agg #[.int .i64 a2_0, .int .i64 a2_1]] rfl (by (try simp only [zmt, List.map_cons, List.map_nil]); first | done | rfl | (simp only [zld, zlt]; rfl)) ?_; (with_reducible refine (bound_Sub.calls k a1_0 a1_1 a2_0 a2_1 t107 t108 t109 _ A22.out).mono ?_); rintro e w31 ⟨rfl, hb⟩; refine ⟨_, rfl, ?_⟩; have n0_ := zam (zkb (g := gb101) (o := .cells #[.int .i64 a1_0, .int .i64 a1_1] 32 (0, 0)) (by (with_reducible repeat (first | refine zkn ?_ _ | refine zkd ?_ | refine zka ?_ _)); exact BK101.out) hb); have n1_ := zam (zkb (g := gb102) (o := .cells #[.int .i64 a2_0, .int .i64 a2_1] 32 (0, 0)) (by (with_reducible repeat (first | refine zkn ?_ _ | refine zkd ?_ | refine zka ?_ _)); exact BK102.out) hb); have n2_ := zam (zkb (g := gb103) (o := .cells #[.int .i64 0, .int .i64 0] 32 (0, 0)) (by (with_reducible repeat (first | refine zkn ?_ _ | refine zkd ?_ | refine zka ?_ _)); exact BK103.out) hb); have n3_ := zam (zbt (by repeat (first | (with_reducible first | exact HB.out | apply zba | apply zbn | apply zb1 | refine zbs ?_ GE101.out | refine zbs ?_ GE102.out | refine zbs ?_ GE103.out) | exact HB.out)) hb); clear BK101; clear BK102; clear BK103; clear HB; have BK101 := n0_; have BK102 := n1_; have BK103 := n2_; have HB := n3_; clear n0_ n1_ n2_ n3_; (try clear hb); (try clear hb2); (try clear hk); (try clear hi); have hcz32_0 : w31.cell? ⟨gb103, 0, none⟩ = some (.int .i64 0) := (zkc BK103.out 0).trans rfl; have hcz32_1 : w31.cell? ⟨gb103, 1, none⟩ = some (.int .i64 0) := (zkc BK103.out 1).trans rfl; have hfz32_0 := zkz BK103.out 0; have hfz32_1 := zkz BK103.out 1))
  refine zbr (results_ct rfl _ _ gb103 32 #[.int .i64 t107, .int .i64 t108] (0, 0) _ rfl (by (with_reducible repeat (first | refine zkn ?_ _ | refine zkd ?_ | refine zka ?_ _)); refine blk_put (cs := #[.int .i64 t107, .int .i64 0]) ?_ 1 _ rfl; (with_reducible repeat (first | refine zkn ?_ _ | refine zkd ?_ | refine zka ?_ _)); refine blk_put (cs := #[.int .i64 0, .int .i64 0]) ?_ 0 _ rfl; (with_reducible repeat (first | refine zkn ?_ _ | refine zkd ?_ | refine zka ?_ _)); exact BK103.out) Try.underlying32 rfl (by kernel_rfl)) rfl ?_
  exact ⟨by first | rfl | (simp [errW_none, errW_some] <;> rfl) | (simp [*, errW_none, errW_some] <;> rfl), by repeat (first | (with_reducible first | exact HB.out | apply zba | apply zbn | apply zb1 | refine zbs ?_ GE101.out | refine zbs ?_ GE102.out | refine zbs ?_ GE103.out) | exact HB.out)⟩
 rw [if_neg c21] at H
 have c21b0 : (a0 == 1) = false := beq_eq_false_iff_ne.mpr c21
 have c21b1 : (a0 != 1) = true := bne_iff_ne.mpr c21
 by_cases c33 : a0 = 2
 ·rw [if_pos c33] at H
  have c33b0 : (a0 == 2) = true := beq_iff_eq.mpr c33
  have c33b1 : (a0 != 2) = false := bne_eq_false_iff_eq.mpr c33
  clear c33
  replace H := Option.bind_eq_some_iff.mp H
  obtain ⟨⟨t110, t111, t112⟩, A340, H⟩ := H
  replace H : (some (t110, t111, t112)) = some (r1, r2, r3) := H
  have A34 := zam A340
  clear A340
  simp only [Option.some.injEq, Prod.mk.injEq] at H
  obtain ⟨rfl, rfl, rfl⟩ := H
  go_enter Try.func70, Try.ntmps70
  go_wp2_with (first | ((with_reducible refine zgd (N := 9) rfl ?_); refine box_event ?hg (N := 9) ?hd (cs := #[.int .i64 a1_0, .int .i64 a1_1]) (t := 32) ?hr ?_; (case hd => rfl); (case hg => rfl); (case hr => first | (go_simp; done) | (go_simp; rfl)); intro gb101 hg w35 hbox hb; have n0_ := zam (zbt (by repeat (first | (with_reducible first | exact HB.out | apply zba | apply zbn | apply zb1) | exact HB.out)) hb); have n1_ := zam (hbox); have n2_ := zam ((by rw [hg]; exact (zbz (by repeat (first | (with_reducible first | exact HB.out | apply zba | apply zbn | apply zb1) | exact HB.out))) : w.heap.size ≤ gb101)); have n3_ := zam ((by rw [hg]; exact (zbz (by repeat (first | (with_reducible first | exact HB.out | apply zba | apply zbn | apply zb1) | exact HB.out))) : w.heap.size ≤ gb101)); clear HB; have HB := n0_; have BK101 := n1_; have GW101 := n2_; have GE101 := n3_; clear n0_ n1_ n2_ n3_; clear hb hbox hg) | ((with_reducible refine zgd (N := 10) rfl ?_); refine box_event ?hg (N := 10) ?hd (cs := #[.int .i64 a2_0, .int .i64 a2_1]) (t := 32) ?hr ?_; (case hd => rfl); (case hg => rfl); (case hr => first | (go_simp; done) | (go_simp; rfl)); intro gb102 hg w36 hbox hb; have n0_ := zam (zkb (g := gb101) (o := .cells #[.int .i64 a1_0, .int .i64 a1_1] 32 (0, 0)) (by (with_reducible repeat (first | refine zkn ?_ _ | refine zkd ?_ | refine zka ?_ _)); exact BK101.out) hb); have n1_ := zam (zbt (by repeat (first | (with_reducible first | exact HB.out | apply zba | apply zbn | apply zb1 | refine zbs ?_ GE101.out) | exact HB.out)) hb); have n2_ := zam (hbox); have n3_ := zam ((by rw [hg]; exact (zbz (by repeat (first | (with_reducible first | exact HB.out | apply zba | apply zbn | apply zb1 | refine zbs ?_ GE101.out) | exact HB.out))) : w.heap.size ≤ gb102)); have n4_ := zam ((by rw [hg]; exact (zbz (by repeat (first | (with_reducible first | exact HB.out | apply zba | apply zbn | apply zb1 | refine zbs ?_ GE101.out) | exact HB.out))) : w.heap.size ≤ gb102)); have n5_ := zam ((by rw [hg]; exact Nat.ne_of_lt (blk_lt (g := gb101) (o := .cells #[.int .i64 a1_0, .int .i64 a1_1] 32 (0, 0)) (by (with_reducible repeat (first | refine zkn ?_ _ | refine zkd ?_ | refine zka ?_ _)); exact BK101.out)) : gb101 ≠ gb102)); have n6_ := zam ((by rw [hg]; exact Nat.ne_of_gt (blk_lt (g := gb101) (o := .cells #[.int .i64 a1_0, .int .i64 a1_1] 32 (0, 0)) (by (with_reducible repeat (first | refine zkn ?_ _ | refine zkd ?_ | refine zka ?_ _)); exact BK101.out)) : gb102 ≠ gb101)); clear BK101; clear HB; have BK101 := n0_; have HB := n1_; have BK102 := n2_; have GW102 := n3_; have GE102 := n4_; have NB101_102 := n5_; have NB102_101 := n6_; clear n0_ n1_ n2_ n3_ n4_ n5_ n6_; clear hb hbox hg) | ((with_reducible refine zgd (N := 16) rfl ?_); refine box_event ?hg (N := 16) ?hd (cs := #[.int .i64 0, .int .i64 0]) (t := 32) ?hr ?_; (case hd => rfl); (case hg => rfl); (case hr => first | (go_simp; done) | (go_simp; rfl)); intro gb103 hg w37 hbox hb; have n0_ := zam (zkb (g := gb101) (o := .cells #[.int .i64 a1_0, .int .i64 a1_1] 32 (0, 0)) (by (with_reducible repeat (first | refine zkn ?_ _ | refine zkd ?_ | refine zka ?_ _)); exact BK101.out) hb); have n1_ := zam (zkb (g := gb102) (o := .cells #[.int .i64 a2_0, .int .i64 a2_1] 32 (0, 0)) (by (with_reducible repeat (first | refine zkn ?_ _ | refine zkd ?_ | refine zka ?_ _)); exact BK102.out) hb); have n2_ := zam (zbt (by repeat (first | (with_reducible first | exact HB.out | apply zba | apply zbn | apply zb1 | refine zbs ?_ GE101.out | refine zbs ?_ GE102.out) | exact HB.out)) hb); have n3_ := zam (hbox); have n4_ := zam ((by rw [hg]; exact (zbz (by repeat (first | (with_reducible first | exact HB.out | apply zba | apply zbn | apply zb1 | refine zbs ?_ GE101.out | refine zbs ?_ GE102.out) | exact HB.out))) : w.heap.size ≤ gb103)); have n5_ := zam ((by rw [hg]; exact (zbz (by repeat (first | (with_reducible first | exact HB.out | apply zba | apply zbn | apply zb1 | refine zbs ?_ GE101.out | refine zbs ?_ GE102.out) | exact HB.out))) : w.heap.size ≤ gb103)); have n6_ := zam ((by rw [hg]; exact Nat.ne_of_lt (blk_lt (g := gb101) (o := .cells #[.int .i64 a1_0, .int .i64 a1_1] 32 (0, 0)) (by (with_reducible repeat (first | refine zkn ?_ _ | refine zkd ?_ | refine zka ?_ _)); exact BK101.out)) : gb101 ≠ gb103)); have n7_ := zam ((by rw [hg]; exact Nat.ne_of_gt (blk_lt (g := gb101) (o := .cells #[.int .i64 a1_0, .int .i64 a1_1] 32 (0, 0)) (by (with_reducible repeat (first | refine zkn ?_ _ | refine zkd ?_ | refine zka ?_ _)); exact BK101.out)) : gb103 ≠ gb101)); have n8_ := zam ((by rw [hg]; exact Nat.ne_of_lt (blk_lt (g := gb102) (o := .cells #[.int .i64 a2_0, .int .i64 a2_1] 32 (0, 0)) (by (with_reducible repeat (first | refine zkn ?_ _ | refine zkd ?_ | refine zka ?_ _)); exact BK102.out)) : gb102 ≠ gb103)); have n9_ := zam ((by rw [hg]; exact Nat.ne_of_gt (blk_lt (g := gb102) (o := .cells #[.int .i64 a2_0, .int .i64 a2_1] 32 (0, 0)) (by (with_reducible repeat (first | refine zkn ?_ _ | refine zkd ?_ | refine zka ?_ _)); exact BK102.out)) : gb103 ≠ gb102)); clear BK101; clear BK102; clear HB; have BK101 := n0_; have BK102 := n1_; have HB := n2_; have BK103 := n3_; have GW103 := n4_; have GE103 := n5_; have NB101_103 := n6_; have NB103_101 := n7_; have NB102_103 := n8_; have NB103_102 := n9_; clear n0_ n1_ n2_ n3_ n4_ n5_ n6_ n7_ n8_ n9_; clear hb hbox hg; have hnb38 := NB101_102.out; have hnc38 := NB102_101.out; have hnb39 := NB101_103.out; have hnc39 := NB103_101.out; have hcz40_0 : w37.cell? ⟨gb101, 0, none⟩ = some (.int .i64 a1_0) := (zkc BK101.out 0).trans rfl; have hcz40_1 : w37.cell? ⟨gb101, 1, none⟩ = some (.int .i64 a1_1) := (zkc BK101.out 1).trans rfl; have hfz40_0 := zkz BK101.out 0; have hfz40_1 := zkz BK101.out 1; have hnb41 := NB102_103.out; have hnc41 := NB103_102.out; have hcz42_0 : w37.cell? ⟨gb102, 0, none⟩ = some (.int .i64 a2_0) := (zkc BK102.out 0).trans rfl; have hcz42_1 : w37.cell? ⟨gb102, 1, none⟩ = some (.int .i64 a2_1) := (zkc BK102.out 1).trans rfl; have hfz42_0 := zkz BK102.out 0; have hfz42_1 := zkz BK102.out 1) | ((with_reducible refine zgc (f := 28) rfl ?_); refine goesL_ (some 37) rfl rfl Try.func28 (by kernel_rfl) rfl #[.agg #[.int .i64 a1_0, .int .i64 a1_1], .agg #[.int .i64 a2_0, .int .i64 a2_1]] rfl (by (try simp only [zmt, List.map_cons, List.map_nil]); first | done | rfl | (simp only [zld, zlt]; rfl)) ?_; (with_reducible refine (bound_Mul.calls k a1_0 a1_1 a2_0 a2_1 t110 t111 t112 _ A34.out).mono ?_); rintro e w43 ⟨rfl, hb⟩; refine ⟨_, rfl, ?_⟩; have n0_ := zam (zkb (g := gb101) (o := .cells #[.int .i64 a1_0, .int .i64 a1_1] 32 (0, 0)) (by (with_reducible repeat (first | refine zkn ?_ _ | refine zkd ?_ | refine zka ?_ _)); exact BK101.out) hb); have n1_ := zam (zkb (g := gb102) (o := .cells #[.int .i64 a2_0, .int .i64 a2_1] 32 (0, 0)) (by (with_reducible repeat (first | refine zkn ?_ _ | refine zkd ?_ | refine zka ?_ _)); exact BK102.out) hb); have n2_ := zam (zkb (g := gb103) (o := .cells #[.int .i64 0, .int .i64 0] 32 (0, 0)) (by (with_reducible repeat (first | refine zkn ?_ _ | refine zkd ?_ | refine zka ?_ _)); exact BK103.out) hb); have n3_ := zam (zbt (by repeat (first | (with_reducible first | exact HB.out | apply zba | apply zbn | apply zb1 | refine zbs ?_ GE101.out | refine zbs ?_ GE102.out | refine zbs ?_ GE103.out) | exact HB.out)) hb); clear BK101; clear BK102; clear BK103; clear HB; have BK101 := n0_; have BK102 := n1_; have BK103 := n2_; have HB := n3_; clear n0_ n1_ n2_ n3_; (try clear hb); (try clear hb2); (try clear hk); (try clear hi); have hcz44_0 : w43.cell? ⟨gb103, 0, none⟩ = some (.int .i64 0) := (zkc BK103.out 0).trans rfl; have hcz44_1 : w43.cell? ⟨gb103, 1, none⟩ = some (.int .i64 0) := (zkc BK103.out 1).trans rfl; have hfz44_0 := zkz BK103.out 0; have hfz44_1 := zkz BK103.out 1))
  refine zbr (results_ct rfl _ _ gb103 32 #[.int .i64 t110, .int .i64 t111] (0, 0) _ rfl (by (with_reducible repeat (first | refine zkn ?_ _ | refine zkd ?_ | refine zka ?_ _)); refine blk_put (cs := #[.int .i64 t110, .int .i64 0]) ?_ 1 _ rfl; (with_reducible repeat (first | refine zkn ?_ _ | refine zkd ?_ | refine zka ?_ _)); refine blk_put (cs := #[.int .i64 0, .int .i64 0]) ?_ 0 _ rfl; (with_reducible repeat (first | refine zkn ?_ _ | refine zkd ?_ | refine zka ?_ _)); exact BK103.out) Try.underlying32 rfl (by kernel_rfl)) rfl ?_
  exact ⟨by first | rfl | (simp [errW_none, errW_some] <;> rfl) | (simp [*, errW_none, errW_some] <;> rfl), by repeat (first | (with_reducible first | exact HB.out | apply zba | apply zbn | apply zb1 | refine zbs ?_ GE101.out | refine zbs ?_ GE102.out | refine zbs ?_ GE103.out) | exact HB.out)⟩
 rw [if_neg c33] at H
 have c33b0 : (a0 == 2) = false := beq_eq_false_iff_ne.mpr c33
 have c33b1 : (a0 != 2) = true := bne_iff_ne.mpr c33
 by_cases c45 : a0 = 3
 ·rw [if_pos c45] at H
  have c45b0 : (a0 == 3) = true := beq_iff_eq.mpr c45
  have c45b1 : (a0 != 3) = false := bne_eq_false_iff_eq.mpr c45
  clear c45
  replace H := Option.bind_eq_some_iff.mp H
  obtain ⟨⟨t113, t114, t115⟩, A460, H⟩ := H
  replace H : (some (t113, t114, t115)) = some (r1, r2, r3) := H
  have A46 := zam A460
  clear A460
  simp only [Option.some.injEq, Prod.mk.injEq] at H
  obtain ⟨rfl, rfl, rfl⟩ := H
  go_enter Try.func70, Try.ntmps70
  go_wp2_with (first | ((with_reducible refine zgd (N := 9) rfl ?_); refine box_event ?hg (N := 9) ?hd (cs := #[.int .i64 a1_0, .int .i64 a1_1]) (t := 32) ?hr ?_; (case hd => rfl); (case hg => rfl); (case hr => first | (go_simp; done) | (go_simp; rfl)); intro gb101 hg w47 hbox hb; have n0_ := zam (zbt (by repeat (first | (with_reducible first | exact HB.out | apply zba | apply zbn | apply zb1) | exact HB.out)) hb); have n1_ := zam (hbox); have n2_ := zam ((by rw [hg]; exact (zbz (by repeat (first | (with_reducible first | exact HB.out | apply zba | apply zbn | apply zb1) | exact HB.out))) : w.heap.size ≤ gb101)); have n3_ := zam ((by rw [hg]; exact (zbz (by repeat (first | (with_reducible first | exact HB.out | apply zba | apply zbn | apply zb1) | exact HB.out))) : w.heap.size ≤ gb101)); clear HB; have HB := n0_; have BK101 := n1_; have GW101 := n2_; have GE101 := n3_; clear n0_ n1_ n2_ n3_; clear hb hbox hg) | ((with_reducible refine zgd (N := 10) rfl ?_); refine box_event ?hg (N := 10) ?hd (cs := #[.int .i64 a2_0, .int .i64 a2_1]) (t := 32) ?hr ?_; (case hd => rfl); (case hg => rfl); (case hr => first | (go_simp; done) | (go_simp; rfl)); intro gb102 hg w48 hbox hb; have n0_ := zam (zkb (g := gb101) (o := .cells #[.int .i64 a1_0, .int .i64 a1_1] 32 (0, 0)) (by (with_reducible repeat (first | refine zkn ?_ _ | refine zkd ?_ | refine zka ?_ _)); exact BK101.out) hb); have n1_ := zam (zbt (by repeat (first | (with_reducible first | exact HB.out | apply zba | apply zbn | apply zb1 | refine zbs ?_ GE101.out) | exact HB.out)) hb); have n2_ := zam (hbox); have n3_ := zam ((by rw [hg]; exact (zbz (by repeat (first | (with_reducible first | exact HB.out | apply zba | apply zbn | apply zb1 | refine zbs ?_ GE101.out) | exact HB.out))) : w.heap.size ≤ gb102)); have n4_ := zam ((by rw [hg]; exact (zbz (by repeat (first | (with_reducible first | exact HB.out | apply zba | apply zbn | apply zb1 | refine zbs ?_ GE101.out) | exact HB.out))) : w.heap.size ≤ gb102)); have n5_ := zam ((by rw [hg]; exact Nat.ne_of_lt (blk_lt (g := gb101) (o := .cells #[.int .i64 a1_0, .int .i64 a1_1] 32 (0, 0)) (by (with_reducible repeat (first | refine zkn ?_ _ | refine zkd ?_ | refine zka ?_ _)); exact BK101.out)) : gb101 ≠ gb102)); have n6_ := zam ((by rw [hg]; exact Nat.ne_of_gt (blk_lt (g := gb101) (o := .cells #[.int .i64 a1_0, .int .i64 a1_1] 32 (0, 0)) (by (with_reducible repeat (first | refine zkn ?_ _ | refine zkd ?_ | refine zka ?_ _)); exact BK101.out)) : gb102 ≠ gb101)); clear BK101; clear HB; have BK101 := n0_; have HB := n1_; have BK102 := n2_; have GW102 := n3_; have GE102 := n4_; have NB101_102 := n5_; have NB102_101 := n6_; clear n0_ n1_ n2_ n3_ n4_ n5_ n6_; clear hb hbox hg) | ((with_reducible refine zgd (N := 16) rfl ?_); refine box_event ?hg (N := 16) ?hd (cs := #[.int .i64 0, .int .i64 0]) (t := 32) ?hr ?_; (case hd => rfl); (case hg => rfl); (case hr => first | (go_simp; done) | (go_simp; rfl)); intro gb103 hg w49 hbox hb; have n0_ := zam (zkb (g := gb101) (o := .cells #[.int .i64 a1_0, .int .i64 a1_1] 32 (0, 0)) (by (with_reducible repeat (first | refine zkn ?_ _ | refine zkd ?_ | refine zka ?_ _)); exact BK101.out) hb); have n1_ := zam (zkb (g := gb102) (o := .cells #[.int .i64 a2_0, .int .i64 a2_1] 32 (0, 0)) (by (with_reducible repeat (first | refine zkn ?_ _ | refine zkd ?_ | refine zka ?_ _)); exact BK102.out) hb); have n2_ := zam (zbt (by repeat (first | (with_reducible first | exact HB.out | apply zba | apply zbn | apply zb1 | refine zbs ?_ GE101.out | refine zbs ?_ GE102.out) | exact HB.out)) hb); have n3_ := zam (hbox); have n4_ := zam ((by rw [hg]; exact (zbz (by repeat (first | (with_reducible first | exact HB.out | apply zba | apply zbn | apply zb1 | refine zbs ?_ GE101.out | refine zbs ?_ GE102.out) | exact HB.out))) : w.heap.size ≤ gb103)); have n5_ := zam ((by rw [hg]; exact (zbz (by repeat (first | (with_reducible first | exact HB.out | apply zba | apply zbn | apply zb1 | refine zbs ?_ GE101.out | refine zbs ?_ GE102.out) | exact HB.out))) : w.heap.size ≤ gb103)); have n6_ := zam ((by rw [hg]; exact Nat.ne_of_lt (blk_lt (g := gb101) (o := .cells #[.int .i64 a1_0, .int .i64 a1_1] 32 (0, 0)) (by (with_reducible repeat (first | refine zkn ?_ _ | refine zkd ?_ | refine zka ?_ _)); exact BK101.out)) : gb101 ≠ gb103)); have n7_ := zam ((by rw [hg]; exact Nat.ne_of_gt (blk_lt (g := gb101) (o := .cells #[.int .i64 a1_0, .int .i64 a1_1] 32 (0, 0)) (by (with_reducible repeat (first | refine zkn ?_ _ | refine zkd ?_ | refine zka ?_ _)); exact BK101.out)) : gb103 ≠ gb101)); have n8_ := zam ((by rw [hg]; exact Nat.ne_of_lt (blk_lt (g := gb102) (o := .cells #[.int .i64 a2_0, .int .i64 a2_1] 32 (0, 0)) (by (with_reducible repeat (first | refine zkn ?_ _ | refine zkd ?_ | refine zka ?_ _)); exact BK102.out)) : gb102 ≠ gb103)); have n9_ := zam ((by rw [hg]; exact Nat.ne_of_gt (blk_lt (g := gb102) (o := .cells #[.int .i64 a2_0, .int .i64 a2_1] 32 (0, 0)) (by (with_reducible repeat (first | refine zkn ?_ _ | refine zkd ?_ | refine zka ?_ _)); exact BK102.out)) : gb103 ≠ gb102)); clear BK101; clear BK102; clear HB; have BK101 := n0_; have BK102 := n1_; have HB := n2_; have BK103 := n3_; have GW103 := n4_; have GE103 := n5_; have NB101_103 := n6_; have NB103_101 := n7_; have NB102_103 := n8_; have NB103_102 := n9_; clear n0_ n1_ n2_ n3_ n4_ n5_ n6_ n7_ n8_ n9_; clear hb hbox hg; have hnb50 := NB101_102.out; have hnc50 := NB102_101.out; have hnb51 := NB101_103.out; have hnc51 := NB103_101.out; have hcz52_0 : w49.cell? ⟨gb101, 0, none⟩ = some (.int .i64 a1_0) := (zkc BK101.out 0).trans rfl; have hcz52_1 : w49.cell? ⟨gb101, 1, none⟩ = some (.int .i64 a1_1) := (zkc BK101.out 1).trans rfl; have hfz52_0 := zkz BK101.out 0; have hfz52_1 := zkz BK101.out 1; have hnb53 := NB102_103.out; have hnc53 := NB103_102.out; have hcz54_0 : w49.cell? ⟨gb102, 0, none⟩ = some (.int .i64 a2_0) := (zkc BK102.out 0).trans rfl; have hcz54_1 : w49.cell? ⟨gb102, 1, none⟩ = some (.int .i64 a2_1) := (zkc BK102.out 1).trans rfl; have hfz54_0 := zkz BK102.out 0; have hfz54_1 := zkz BK102.out 1) | ((with_reducible refine zgc (f := 61) rfl ?_); refine goesL_ (some 44) rfl rfl Try.func61 (by kernel_rfl) rfl #[.agg #[.int .i64 a1_0, .int .i64 a1_1], .agg #[.int .i64 a2_0, .int .i64 a2_1]] rfl (by (try simp only [zmt, List.map_cons, List.map_nil]); first | done | rfl | (simp only [zld, zlt]; rfl)) ?_; (with_reducible refine (bound_Div.calls k a1_0 a1_1 a2_0 a2_1 t113 t114 t115 _ A46.out).mono ?_); rintro e w55 ⟨rfl, hb⟩; refine ⟨_, rfl, ?_⟩; have n0_ := zam (zkb (g := gb101) (o := .cells #[.int .i64 a1_0, .int .i64 a1_1] 32 (0, 0)) (by (with_reducible repeat (first | refine zkn ?_ _ | refine zkd ?_ | refine zka ?_ _)); exact BK101.out) hb); have n1_ := zam (zkb (g := gb102) (o := .cells #[.int .i64 a2_0, .int .i64 a2_1] 32 (0, 0)) (by (with_reducible repeat (first | refine zkn ?_ _ | refine zkd ?_ | refine zka ?_ _)); exact BK102.out) hb); have n2_ := zam (zkb (g := gb103) (o := .cells #[.int .i64 0, .int .i64 0] 32 (0, 0)) (by (with_reducible repeat (first | refine zkn ?_ _ | refine zkd ?_ | refine zka ?_ _)); exact BK103.out) hb); have n3_ := zam (zbt (by repeat (first | (with_reducible first | exact HB.out | apply zba | apply zbn | apply zb1 | refine zbs ?_ GE101.out | refine zbs ?_ GE102.out | refine zbs ?_ GE103.out) | exact HB.out)) hb); clear BK101; clear BK102; clear BK103; clear HB; have BK101 := n0_; have BK102 := n1_; have BK103 := n2_; have HB := n3_; clear n0_ n1_ n2_ n3_; (try clear hb); (try clear hb2); (try clear hk); (try clear hi); have hcz56_0 : w55.cell? ⟨gb103, 0, none⟩ = some (.int .i64 0) := (zkc BK103.out 0).trans rfl; have hcz56_1 : w55.cell? ⟨gb103, 1, none⟩ = some (.int .i64 0) := (zkc BK103.out 1).trans rfl; have hfz56_0 := zkz BK103.out 0; have hfz56_1 := zkz BK103.out 1))
  refine zbr (results_ct rfl _ _ gb103 32 #[.int .i64 t113, .int .i64 t114] (0, 0) _ rfl (by (with_reducible repeat (first | refine zkn ?_ _ | refine zkd ?_ | refine zka ?_ _)); refine blk_put (cs := #[.int .i64 t113, .int .i64 0]) ?_ 1 _ rfl; (with_reducible repeat (first | refine zkn ?_ _ | refine zkd ?_ | refine zka ?_ _)); refine blk_put (cs := #[.int .i64 0, .int .i64 0]) ?_ 0 _ rfl; (with_reducible repeat (first | refine zkn ?_ _ | refine zkd ?_ | refine zka ?_ _)); exact BK103.out) Try.underlying32 rfl (by kernel_rfl)) rfl ?_
  exact ⟨by first | rfl | (simp [errW_none, errW_some] <;> rfl) | (simp [*, errW_none, errW_some] <;> rfl), by repeat (first | (with_reducible first | exact HB.out | apply zba | apply zbn | apply zb1 | refine zbs ?_ GE101.out | refine zbs ?_ GE102.out | refine zbs ?_ GE103.out) | exact HB.out)⟩
 rw [if_neg c45] at H
 have c45b0 : (a0 == 3) = false := beq_eq_false_iff_ne.mpr c45
 have c45b1 : (a0 != 3) = true := bne_iff_ne.mpr c45
 by_cases c57 : a0 = 4
 ·rw [if_pos c57] at H
  have c57b0 : (a0 == 4) = true := beq_iff_eq.mpr c57
  have c57b1 : (a0 != 4) = false := bne_eq_false_iff_eq.mpr c57
  clear c57
  replace H := Option.bind_eq_some_iff.mp H
  obtain ⟨⟨t116, t117, t118⟩, A580, H⟩ := H
  replace H : (some (t116, t117, t118)) = some (r1, r2, r3) := H
  have A58 := zam A580
  clear A580
  simp only [Option.some.injEq, Prod.mk.injEq] at H
  obtain ⟨rfl, rfl, rfl⟩ := H
  go_enter Try.func70, Try.ntmps70
  go_wp2_with (first | ((with_reducible refine zgd (N := 9) rfl ?_); refine box_event ?hg (N := 9) ?hd (cs := #[.int .i64 a1_0, .int .i64 a1_1]) (t := 32) ?hr ?_; (case hd => rfl); (case hg => rfl); (case hr => first | (go_simp; done) | (go_simp; rfl)); intro gb101 hg w59 hbox hb; have n0_ := zam (zbt (by repeat (first | (with_reducible first | exact HB.out | apply zba | apply zbn | apply zb1) | exact HB.out)) hb); have n1_ := zam (hbox); have n2_ := zam ((by rw [hg]; exact (zbz (by repeat (first | (with_reducible first | exact HB.out | apply zba | apply zbn | apply zb1) | exact HB.out))) : w.heap.size ≤ gb101)); have n3_ := zam ((by rw [hg]; exact (zbz (by repeat (first | (with_reducible first | exact HB.out | apply zba | apply zbn | apply zb1) | exact HB.out))) : w.heap.size ≤ gb101)); clear HB; have HB := n0_; have BK101 := n1_; have GW101 := n2_; have GE101 := n3_; clear n0_ n1_ n2_ n3_; clear hb hbox hg) | ((with_reducible refine zgd (N := 10) rfl ?_); refine box_event ?hg (N := 10) ?hd (cs := #[.int .i64 a2_0, .int .i64 a2_1]) (t := 32) ?hr ?_; (case hd => rfl); (case hg => rfl); (case hr => first | (go_simp; done) | (go_simp; rfl)); intro gb102 hg w60 hbox hb; have n0_ := zam (zkb (g := gb101) (o := .cells #[.int .i64 a1_0, .int .i64 a1_1] 32 (0, 0)) (by (with_reducible repeat (first | refine zkn ?_ _ | refine zkd ?_ | refine zka ?_ _)); exact BK101.out) hb); have n1_ := zam (zbt (by repeat (first | (with_reducible first | exact HB.out | apply zba | apply zbn | apply zb1 | refine zbs ?_ GE101.out) | exact HB.out)) hb); have n2_ := zam (hbox); have n3_ := zam ((by rw [hg]; exact (zbz (by repeat (first | (with_reducible first | exact HB.out | apply zba | apply zbn | apply zb1 | refine zbs ?_ GE101.out) | exact HB.out))) : w.heap.size ≤ gb102)); have n4_ := zam ((by rw [hg]; exact (zbz (by repeat (first | (with_reducible first | exact HB.out | apply zba | apply zbn | apply zb1 | refine zbs ?_ GE101.out) | exact HB.out))) : w.heap.size ≤ gb102)); have n5_ := zam ((by rw [hg]; exact Nat.ne_of_lt (blk_lt (g := gb101) (o := .cells #[.int .i64 a1_0, .int .i64 a1_1] 32 (0, 0)) (by (with_reducible repeat (first | refine zkn ?_ _ | refine zkd ?_ | refine zka ?_ _)); exact BK101.out)) : gb101 ≠ gb102)); have n6_ := zam ((by rw [hg]; exact Nat.ne_of_gt (blk_lt (g := gb101) (o := .cells #[.int .i64 a1_0, .int .i64 a1_1] 32 (0, 0)) (by (with_reducible repeat (first | refine zkn ?_ _ | refine zkd ?_ | refine zka ?_ _)); exact BK101.out)) : gb102 ≠ gb101)); clear BK101; clear HB; have BK101 := n0_; have HB := n1_; have BK102 := n2_; have GW102 := n3_; have GE102 := n4_; have NB101_102 := n5_; have NB102_101 := n6_; clear n0_ n1_ n2_ n3_ n4_ n5_ n6_; clear hb hbox hg) | ((with_reducible refine zgd (N := 16) rfl ?_); refine box_event ?hg (N := 16) ?hd (cs := #[.int .i64 0, .int .i64 0]) (t := 32) ?hr ?_; (case hd => rfl); (case hg => rfl); (case hr => first | (go_simp; done) | (go_simp; rfl)); intro gb103 hg w61 hbox hb; have n0_ := zam (zkb (g := gb101) (o := .cells #[.int .i64 a1_0, .int .i64 a1_1] 32 (0, 0)) (by (with_reducible repeat (first | refine zkn ?_ _ | refine zkd ?_ | refine zka ?_ _)); exact BK101.out) hb); have n1_ := zam (zkb (g := gb102) (o := .cells #[.int .i64 a2_0, .int .i64 a2_1] 32 (0, 0)) (by (with_reducible repeat (first | refine zkn ?_ _ | refine zkd ?_ | refine zka ?_ _)); exact BK102.out) hb); have n2_ := zam (zbt (by repeat (first | (with_reducible first | exact HB.out | apply zba | apply zbn | apply zb1 | refine zbs ?_ GE101.out | refine zbs ?_ GE102.out) | exact HB.out)) hb); have n3_ := zam (hbox); have n4_ := zam ((by rw [hg]; exact (zbz (by repeat (first | (with_reducible first | exact HB.out | apply zba | apply zbn | apply zb1 | refine zbs ?_ GE101.out | refine zbs ?_ GE102.out) | exact HB.out))) : w.heap.size ≤ gb103)); have n5_ := zam ((by rw [hg]; exact (zbz (by repeat (first | (with_reducible first | exact HB.out | apply zba | apply zbn | apply zb1 | refine zbs ?_ GE101.out | refine zbs ?_ GE102.out) | exact HB.out))) : w.heap.size ≤ gb103)); have n6_ := zam ((by rw [hg]; exact Nat.ne_of_lt (blk_lt (g := gb101) (o := .cells #[.int .i64 a1_0, .int .i64 a1_1] 32 (0, 0)) (by (with_reducible repeat (first | refine zkn ?_ _ | refine zkd ?_ | refine zka ?_ _)); exact BK101.out)) : gb101 ≠ gb103)); have n7_ := zam ((by rw [hg]; exact Nat.ne_of_gt (blk_lt (g := gb101) (o := .cells #[.int .i64 a1_0, .int .i64 a1_1] 32 (0, 0)) (by (with_reducible repeat (first | refine zkn ?_ _ | refine zkd ?_ | refine zka ?_ _)); exact BK101.out)) : gb103 ≠ gb101)); have n8_ := zam ((by rw [hg]; exact Nat.ne_of_lt (blk_lt (g := gb102) (o := .cells #[.int .i64 a2_0, .int .i64 a2_1] 32 (0, 0)) (by (with_reducible repeat (first | refine zkn ?_ _ | refine zkd ?_ | refine zka ?_ _)); exact BK102.out)) : gb102 ≠ gb103)); have n9_ := zam ((by rw [hg]; exact Nat.ne_of_gt (blk_lt (g := gb102) (o := .cells #[.int .i64 a2_0, .int .i64 a2_1] 32 (0, 0)) (by (with_reducible repeat (first | refine zkn ?_ _ | refine zkd ?_ | refine zka ?_ _)); exact BK102.out)) : gb103 ≠ gb102)); clear BK101; clear BK102; clear HB; have BK101 := n0_; have BK102 := n1_; have HB := n2_; have BK103 := n3_; have GW103 := n4_; have GE103 := n5_; have NB101_103 := n6_; have NB103_101 := n7_; have NB102_103 := n8_; have NB103_102 := n9_; clear n0_ n1_ n2_ n3_ n4_ n5_ n6_ n7_ n8_ n9_; clear hb hbox hg; have hnb62 := NB101_102.out; have hnc62 := NB102_101.out; have hnb63 := NB101_103.out; have hnc63 := NB103_101.out; have hcz64_0 : w61.cell? ⟨gb101, 0, none⟩ = some (.int .i64 a1_0) := (zkc BK101.out 0).trans rfl; have hcz64_1 : w61.cell? ⟨gb101, 1, none⟩ = some (.int .i64 a1_1) := (zkc BK101.out 1).trans rfl; have hfz64_0 := zkz BK101.out 0; have hfz64_1 := zkz BK101.out 1; have hnb65 := NB102_103.out; have hnc65 := NB103_102.out; have hcz66_0 : w61.cell? ⟨gb102, 0, none⟩ = some (.int .i64 a2_0) := (zkc BK102.out 0).trans rfl; have hcz66_1 : w61.cell? ⟨gb102, 1, none⟩ = some (.int .i64 a2_1) := (zkc BK102.out 1).trans rfl; have hfz66_0 := zkz BK102.out 0; have hfz66_1 := zkz BK102.out 1) | ((with_reducible refine zgc (f := 31) rfl ?_); refine goesL_ (some 51) rfl rfl Try.func31 (by kernel_rfl) rfl #[.agg #[.int .i64 a1_0, .int .i64 a1_1], .agg #[.int .i64 a2_0, .int .i64 a2_1]] rfl (by (try simp only [zmt, List.map_cons, List.map_nil]); first | done | rfl | (simp only [zld, zlt]; rfl)) ?_; (with_reducible refine (bound_Hull.calls k a1_0 a1_1 a2_0 a2_1 t116 t117 t118 _ A58.out).mono ?_); rintro e w67 ⟨rfl, hb⟩; refine ⟨_, rfl, ?_⟩; have n0_ := zam (zkb (g := gb101) (o := .cells #[.int .i64 a1_0, .int .i64 a1_1] 32 (0, 0)) (by (with_reducible repeat (first | refine zkn ?_ _ | refine zkd ?_ | refine zka ?_ _)); exact BK101.out) hb); have n1_ := zam (zkb (g := gb102) (o := .cells #[.int .i64 a2_0, .int .i64 a2_1] 32 (0, 0)) (by (with_reducible repeat (first | refine zkn ?_ _ | refine zkd ?_ | refine zka ?_ _)); exact BK102.out) hb); have n2_ := zam (zkb (g := gb103) (o := .cells #[.int .i64 0, .int .i64 0] 32 (0, 0)) (by (with_reducible repeat (first | refine zkn ?_ _ | refine zkd ?_ | refine zka ?_ _)); exact BK103.out) hb); have n3_ := zam (zbt (by repeat (first | (with_reducible first | exact HB.out | apply zba | apply zbn | apply zb1 | refine zbs ?_ GE101.out | refine zbs ?_ GE102.out | refine zbs ?_ GE103.out) | exact HB.out)) hb); clear BK101; clear BK102; clear BK103; clear HB; have BK101 := n0_; have BK102 := n1_; have BK103 := n2_; have HB := n3_; clear n0_ n1_ n2_ n3_; (try clear hb); (try clear hb2); (try clear hk); (try clear hi); have hcz68_0 : w67.cell? ⟨gb103, 0, none⟩ = some (.int .i64 0) := (zkc BK103.out 0).trans rfl; have hcz68_1 : w67.cell? ⟨gb103, 1, none⟩ = some (.int .i64 0) := (zkc BK103.out 1).trans rfl; have hfz68_0 := zkz BK103.out 0; have hfz68_1 := zkz BK103.out 1))
  refine zbr (results_ct rfl _ _ gb103 32 #[.int .i64 t116, .int .i64 t117] (0, 0) _ rfl (by (with_reducible repeat (first | refine zkn ?_ _ | refine zkd ?_ | refine zka ?_ _)); refine blk_put (cs := #[.int .i64 t116, .int .i64 0]) ?_ 1 _ rfl; (with_reducible repeat (first | refine zkn ?_ _ | refine zkd ?_ | refine zka ?_ _)); refine blk_put (cs := #[.int .i64 0, .int .i64 0]) ?_ 0 _ rfl; (with_reducible repeat (first | refine zkn ?_ _ | refine zkd ?_ | refine zka ?_ _)); exact BK103.out) Try.underlying32 rfl (by kernel_rfl)) rfl ?_
  exact ⟨by first | rfl | (simp [errW_none, errW_some] <;> rfl) | (simp [*, errW_none, errW_some] <;> rfl), by repeat (first | (with_reducible first | exact HB.out | apply zba | apply zbn | apply zb1 | refine zbs ?_ GE101.out | refine zbs ?_ GE102.out | refine zbs ?_ GE103.out) | exact HB.out)⟩
 rw [if_neg c57] at H
 have c57b0 : (a0 == 4) = false := beq_eq_false_iff_ne.mpr c57
 have c57b1 : (a0 != 4) = true := bne_iff_ne.mpr c57
 by_cases c69 : a0 = 5
 ·rw [if_pos c69] at H
  have c69b0 : (a0 == 5) = true := beq_iff_eq.mpr c69
  have c69b1 : (a0 != 5) = false := bne_eq_false_iff_eq.mpr c69
  clear c69
  replace H := Option.bind_eq_some_iff.mp H
  obtain ⟨⟨t119, t120, t121⟩, A700, H⟩ := H
  replace H : (some (t119, t120, t121)) = some (r1, r2, r3) := H
  have A70 := zam A700
  clear A700
  simp only [Option.some.injEq, Prod.mk.injEq] at H
  obtain ⟨rfl, rfl, rfl⟩ := H
  go_enter Try.func70, Try.ntmps70
  go_wp2_with (first | ((with_reducible refine zgd (N := 9) rfl ?_); refine box_event ?hg (N := 9) ?hd (cs := #[.int .i64 a1_0, .int .i64 a1_1]) (t := 32) ?hr ?_; (case hd => rfl); (case hg => rfl); (case hr => first | (go_simp; done) | (go_simp; rfl)); intro gb101 hg w71 hbox hb; have n0_ := zam (zbt (by repeat (first | (with_reducible first | exact HB.out | apply zba | apply zbn | apply zb1) | exact HB.out)) hb); have n1_ := zam (hbox); have n2_ := zam ((by rw [hg]; exact (zbz (by repeat (first | (with_reducible first | exact HB.out | apply zba | apply zbn | apply zb1) | exact HB.out))) : w.heap.size ≤ gb101)); have n3_ := zam ((by rw [hg]; exact (zbz (by repeat (first | (with_reducible first | exact HB.out | apply zba | apply zbn | apply zb1) | exact HB.out))) : w.heap.size ≤ gb101)); clear HB; have HB := n0_; have BK101 := n1_; have GW101 := n2_; have GE101 := n3_; clear n0_ n1_ n2_ n3_; clear hb hbox hg) | ((with_reducible refine zgd (N := 10) rfl ?_); refine box_event ?hg (N := 10) ?hd (cs := #[.int .i64 a2_0, .int .i64 a2_1]) (t := 32) ?hr ?_; (case hd => rfl); (case hg => rfl); (case hr => first | (go_simp; done) | (go_simp; rfl)); intro gb102 hg w72 hbox hb; have n0_ := zam (zkb (g := gb101) (o := .cells #[.int .i64 a1_0, .int .i64 a1_1] 32 (0, 0)) (by (with_reducible repeat (first | refine zkn ?_ _ | refine zkd ?_ | refine zka ?_ _)); exact BK101.out) hb); have n1_ := zam (zbt (by repeat (first | (with_reducible first | exact HB.out | apply zba | apply zbn | apply zb1 | refine zbs ?_ GE101.out) | exact HB.out)) hb); have n2_ := zam (hbox); have n3_ := zam ((by rw [hg]; exact (zbz (by repeat (first | (with_reducible first | exact HB.out | apply zba | apply zbn | apply zb1 | refine zbs ?_ GE101.out) | exact HB.out))) : w.heap.size ≤ gb102)); have n4_ := zam ((by rw [hg]; exact (zbz (by repeat (first | (with_reducible first | exact HB.out | apply zba | apply zbn | apply zb1 | refine zbs ?_ GE101.out) | exact HB.out))) : w.heap.size ≤ gb102)); have n5_ := zam ((by rw [hg]; exact Nat.ne_of_lt (blk_lt (g := gb101) (o := .cells #[.int .i64 a1_0, .int .i64 a1_1] 32 (0, 0)) (by (with_reducible repeat (first | refine zkn ?_ _ | refine zkd ?_ | refine zka ?_ _)); exact BK101.out)) : gb101 ≠ gb102)); have n6_ := zam ((by rw [hg]; exact Nat.ne_of_gt (blk_lt (g := gb101) (o := .cells #[.int .i64 a1_0, .int .i64 a1_1] 32 (0, 0)) (by (with_reducible repeat (first | refine zkn ?_ _ | refine zkd ?_ | refine zka ?_ _)); exact BK101.out)) : gb102 ≠ gb101)); clear BK101; clear HB; have BK101 := n0_; have HB := n1_; have BK102 := n2_; have GW102 := n3_; have GE102 := n4_; have NB101_102 := n5_; have NB102_101 := n6_; clear n0_ n1_ n2_ n3_ n4_ n5_ n6_; clear hb hbox hg) | ((with_reducible refine zgd (N := 16) rfl ?_); refine box_event ?hg (N := 16) ?hd (cs := #[.int .i64 0, .int .i64 0]) (t := 32) ?hr ?_; (case hd => rfl); (case hg => rfl); (case hr => first | (go_simp; done) | (go_simp; rfl)); intro gb103 hg w73 hbox hb; have n0_ := zam (zkb (g := gb101) (o := .cells #[.int .i64 a1_0, .int .i64 a1_1] 32 (0, 0)) (by (with_reducible repeat (first | refine zkn ?_ _ | refine zkd ?_ | refine zka ?_ _)); exact BK101.out) hb); have n1_ := zam (zkb (g := gb102) (o := .cells #[.int .i64 a2_0, .int .i64 a2_1] 32 (0, 0)) (by (with_reducible repeat (first | refine zkn ?_ _ | refine zkd ?_ | refine zka ?_ _)); exact BK102.out) hb); have n2_ := zam (zbt (by repeat (first | (with_reducible first | exact HB.out | apply zba | apply zbn | apply zb1 | refine zbs ?_ GE101.out | refine zbs ?_ GE102.out) | exact HB.out)) hb); have n3_ := zam (hbox); have n4_ := zam ((by rw [hg]; exact (zbz (by repeat (first | (with_reducible first | exact HB.out | apply zba | apply zbn | apply zb1 | refine zbs ?_ GE101.out | refine zbs ?_ GE102.out) | exact HB.out))) : w.heap.size ≤ gb103)); have n5_ := zam ((by rw [hg]; exact (zbz (by repeat (first | (with_reducible first | exact HB.out | apply zba | apply zbn | apply zb1 | refine zbs ?_ GE101.out | refine zbs ?_ GE102.out) | exact HB.out))) : w.heap.size ≤ gb103)); have n6_ := zam ((by rw [hg]; exact Nat.ne_of_lt (blk_lt (g := gb101) (o := .cells #[.int .i64 a1_0, .int .i64 a1_1] 32 (0, 0)) (by (with_reducible repeat (first | refine zkn ?_ _ | refine zkd ?_ | refine zka ?_ _)); exact BK101.out)) : gb101 ≠ gb103)); have n7_ := zam ((by rw [hg]; exact Nat.ne_of_gt (blk_lt (g := gb101) (o := .cells #[.int .i64 a1_0, .int .i64 a1_1] 32 (0, 0)) (by (with_reducible repeat (first | refine zkn ?_ _ | refine zkd ?_ | refine zka ?_ _)); exact BK101.out)) : gb103 ≠ gb101)); have n8_ := zam ((by rw [hg]; exact Nat.ne_of_lt (blk_lt (g := gb102) (o := .cells #[.int .i64 a2_0, .int .i64 a2_1] 32 (0, 0)) (by (with_reducible repeat (first | refine zkn ?_ _ | refine zkd ?_ | refine zka ?_ _)); exact BK102.out)) : gb102 ≠ gb103)); have n9_ := zam ((by rw [hg]; exact Nat.ne_of_gt (blk_lt (g := gb102) (o := .cells #[.int .i64 a2_0, .int .i64 a2_1] 32 (0, 0)) (by (with_reducible repeat (first | refine zkn ?_ _ | refine zkd ?_ | refine zka ?_ _)); exact BK102.out)) : gb103 ≠ gb102)); clear BK101; clear BK102; clear HB; have BK101 := n0_; have BK102 := n1_; have HB := n2_; have BK103 := n3_; have GW103 := n4_; have GE103 := n5_; have NB101_103 := n6_; have NB103_101 := n7_; have NB102_103 := n8_; have NB103_102 := n9_; clear n0_ n1_ n2_ n3_ n4_ n5_ n6_ n7_ n8_ n9_; clear hb hbox hg; have hnb74 := NB101_102.out; have hnc74 := NB102_101.out; have hnb75 := NB101_103.out; have hnc75 := NB103_101.out; have hcz76_0 : w73.cell? ⟨gb101, 0, none⟩ = some (.int .i64 a1_0) := (zkc BK101.out 0).trans rfl; have hcz76_1 : w73.cell? ⟨gb101, 1, none⟩ = some (.int .i64 a1_1) := (zkc BK101.out 1).trans rfl; have hfz76_0 := zkz BK101.out 0; have hfz76_1 := zkz BK101.out 1; have hnb77 := NB102_103.out; have hnc77 := NB103_102.out; have hcz78_0 : w73.cell? ⟨gb102, 0, none⟩ = some (.int .i64 a2_0) := (zkc BK102.out 0).trans rfl; have hcz78_1 : w73.cell? ⟨gb102, 1, none⟩ = some (.int .i64 a2_1) := (zkc BK102.out 1).trans rfl; have hfz78_0 := zkz BK102.out 0; have hfz78_1 := zkz BK102.out 1) | ((with_reducible refine zgc (f := 32) rfl ?_); refine goesL_ (some 58) rfl rfl Try.func32 (by kernel_rfl) rfl #[.agg #[.int .i64 a1_0, .int .i64 a1_1], .agg #[.int .i64 a2_0, .int .i64 a2_1]] rfl (by (try simp only [zmt, List.map_cons, List.map_nil]); first | done | rfl | (simp only [zld, zlt]; rfl)) ?_; (with_reducible refine (bound_Meet.calls k a1_0 a1_1 a2_0 a2_1 t119 t120 t121 _ A70.out).mono ?_); rintro e w79 ⟨rfl, hb⟩; refine ⟨_, rfl, ?_⟩; have n0_ := zam (zkb (g := gb101) (o := .cells #[.int .i64 a1_0, .int .i64 a1_1] 32 (0, 0)) (by (with_reducible repeat (first | refine zkn ?_ _ | refine zkd ?_ | refine zka ?_ _)); exact BK101.out) hb); have n1_ := zam (zkb (g := gb102) (o := .cells #[.int .i64 a2_0, .int .i64 a2_1] 32 (0, 0)) (by (with_reducible repeat (first | refine zkn ?_ _ | refine zkd ?_ | refine zka ?_ _)); exact BK102.out) hb); have n2_ := zam (zkb (g := gb103) (o := .cells #[.int .i64 0, .int .i64 0] 32 (0, 0)) (by (with_reducible repeat (first | refine zkn ?_ _ | refine zkd ?_ | refine zka ?_ _)); exact BK103.out) hb); have n3_ := zam (zbt (by repeat (first | (with_reducible first | exact HB.out | apply zba | apply zbn | apply zb1 | refine zbs ?_ GE101.out | refine zbs ?_ GE102.out | refine zbs ?_ GE103.out) | exact HB.out)) hb); clear BK101; clear BK102; clear BK103; clear HB; have BK101 := n0_; have BK102 := n1_; have BK103 := n2_; have HB := n3_; clear n0_ n1_ n2_ n3_; (try clear hb); (try clear hb2); (try clear hk); (try clear hi); have hcz80_0 : w79.cell? ⟨gb103, 0, none⟩ = some (.int .i64 0) := (zkc BK103.out 0).trans rfl; have hcz80_1 : w79.cell? ⟨gb103, 1, none⟩ = some (.int .i64 0) := (zkc BK103.out 1).trans rfl; have hfz80_0 := zkz BK103.out 0; have hfz80_1 := zkz BK103.out 1))
  refine zbr (results_ct rfl _ _ gb103 32 #[.int .i64 t119, .int .i64 t120] (0, 0) _ rfl (by (with_reducible repeat (first | refine zkn ?_ _ | refine zkd ?_ | refine zka ?_ _)); refine blk_put (cs := #[.int .i64 t119, .int .i64 0]) ?_ 1 _ rfl; (with_reducible repeat (first | refine zkn ?_ _ | refine zkd ?_ | refine zka ?_ _)); refine blk_put (cs := #[.int .i64 0, .int .i64 0]) ?_ 0 _ rfl; (with_reducible repeat (first | refine zkn ?_ _ | refine zkd ?_ | refine zka ?_ _)); exact BK103.out) Try.underlying32 rfl (by kernel_rfl)) rfl ?_
  exact ⟨by first | rfl | (simp [errW_none, errW_some] <;> rfl) | (simp [*, errW_none, errW_some] <;> rfl), by repeat (first | (with_reducible first | exact HB.out | apply zba | apply zbn | apply zb1 | refine zbs ?_ GE101.out | refine zbs ?_ GE102.out | refine zbs ?_ GE103.out) | exact HB.out)⟩
 rw [if_neg c69] at H
 have c69b0 : (a0 == 5) = false := beq_eq_false_iff_ne.mpr c69
 have c69b1 : (a0 != 5) = true := bne_iff_ne.mpr c69
 by_cases c81 : a0 = 6
 ·rw [if_pos c81] at H
  have c81b0 : (a0 == 6) = true := beq_iff_eq.mpr c81
  have c81b1 : (a0 != 6) = false := bne_eq_false_iff_eq.mpr c81
  clear c81
  replace H := Option.bind_eq_some_iff.mp H
  obtain ⟨⟨t122, t123, t124⟩, A820, H⟩ := H
  replace H : (some (t122, t123, t124)) = some (r1, r2, r3) := H
  have A82 := zam A820
  clear A820
  simp only [Option.some.injEq, Prod.mk.injEq] at H
  obtain ⟨rfl, rfl, rfl⟩ := H
  go_enter Try.func70, Try.ntmps70
  go_wp2_with (first | ((with_reducible refine zgd (N := 9) rfl ?_); refine box_event ?hg (N := 9) ?hd (cs := #[.int .i64 a1_0, .int .i64 a1_1]) (t := 32) ?hr ?_; (case hd => rfl); (case hg => rfl); (case hr => first | (go_simp; done) | (go_simp; rfl)); intro gb101 hg w83 hbox hb; have n0_ := zam (zbt (by repeat (first | (with_reducible first | exact HB.out | apply zba | apply zbn | apply zb1) | exact HB.out)) hb); have n1_ := zam (hbox); have n2_ := zam ((by rw [hg]; exact (zbz (by repeat (first | (with_reducible first | exact HB.out | apply zba | apply zbn | apply zb1) | exact HB.out))) : w.heap.size ≤ gb101)); have n3_ := zam ((by rw [hg]; exact (zbz (by repeat (first | (with_reducible first | exact HB.out | apply zba | apply zbn | apply zb1) | exact HB.out))) : w.heap.size ≤ gb101)); clear HB; have HB := n0_; have BK101 := n1_; have GW101 := n2_; have GE101 := n3_; clear n0_ n1_ n2_ n3_; clear hb hbox hg) | ((with_reducible refine zgd (N := 10) rfl ?_); refine box_event ?hg (N := 10) ?hd (cs := #[.int .i64 a2_0, .int .i64 a2_1]) (t := 32) ?hr ?_; (case hd => rfl); (case hg => rfl); (case hr => first | (go_simp; done) | (go_simp; rfl)); intro gb102 hg w84 hbox hb; have n0_ := zam (zkb (g := gb101) (o := .cells #[.int .i64 a1_0, .int .i64 a1_1] 32 (0, 0)) (by (with_reducible repeat (first | refine zkn ?_ _ | refine zkd ?_ | refine zka ?_ _)); exact BK101.out) hb); have n1_ := zam (zbt (by repeat (first | (with_reducible first | exact HB.out | apply zba | apply zbn | apply zb1 | refine zbs ?_ GE101.out) | exact HB.out)) hb); have n2_ := zam (hbox); have n3_ := zam ((by rw [hg]; exact (zbz (by repeat (first | (with_reducible first | exact HB.out | apply zba | apply zbn | apply zb1 | refine zbs ?_ GE101.out) | exact HB.out))) : w.heap.size ≤ gb102)); have n4_ := zam ((by rw [hg]; exact (zbz (by repeat (first | (with_reducible first | exact HB.out | apply zba | apply zbn | apply zb1 | refine zbs ?_ GE101.out) | exact HB.out))) : w.heap.size ≤ gb102)); have n5_ := zam ((by rw [hg]; exact Nat.ne_of_lt (blk_lt (g := gb101) (o := .cells #[.int .i64 a1_0, .int .i64 a1_1] 32 (0, 0)) (by (with_reducible repeat (first | refine zkn ?_ _ | refine zkd ?_ | refine zka ?_ _)); exact BK101.out)) : gb101 ≠ gb102)); have n6_ := zam ((by rw [hg]; exact Nat.ne_of_gt (blk_lt (g := gb101) (o := .cells #[.int .i64 a1_0, .int .i64 a1_1] 32 (0, 0)) (by (with_reducible repeat (first | refine zkn ?_ _ | refine zkd ?_ | refine zka ?_ _)); exact BK101.out)) : gb102 ≠ gb101)); clear BK101; clear HB; have BK101 := n0_; have HB := n1_; have BK102 := n2_; have GW102 := n3_; have GE102 := n4_; have NB101_102 := n5_; have NB102_101 := n6_; clear n0_ n1_ n2_ n3_ n4_ n5_ n6_; clear hb hbox hg) | ((with_reducible refine zgd (N := 16) rfl ?_); refine box_event ?hg (N := 16) ?hd (cs := #[.int .i64 0, .int .i64 0]) (t := 32) ?hr ?_; (case hd => rfl); (case hg => rfl); (case hr => first | (go_simp; done) | (go_simp; rfl)); intro gb103 hg w85 hbox hb; have n0_ := zam (zkb (g := gb101) (o := .cells #[.int .i64 a1_0, .int .i64 a1_1] 32 (0, 0)) (by (with_reducible repeat (first | refine zkn ?_ _ | refine zkd ?_ | refine zka ?_ _)); exact BK101.out) hb); have n1_ := zam (zkb (g := gb102) (o := .cells #[.int .i64 a2_0, .int .i64 a2_1] 32 (0, 0)) (by (with_reducible repeat (first | refine zkn ?_ _ | refine zkd ?_ | refine zka ?_ _)); exact BK102.out) hb); have n2_ := zam (zbt (by repeat (first | (with_reducible first | exact HB.out | apply zba | apply zbn | apply zb1 | refine zbs ?_ GE101.out | refine zbs ?_ GE102.out) | exact HB.out)) hb); have n3_ := zam (hbox); have n4_ := zam ((by rw [hg]; exact (zbz (by repeat (first | (with_reducible first | exact HB.out | apply zba | apply zbn | apply zb1 | refine zbs ?_ GE101.out | refine zbs ?_ GE102.out) | exact HB.out))) : w.heap.size ≤ gb103)); have n5_ := zam ((by rw [hg]; exact (zbz (by repeat (first | (with_reducible first | exact HB.out | apply zba | apply zbn | apply zb1 | refine zbs ?_ GE101.out | refine zbs ?_ GE102.out) | exact HB.out))) : w.heap.size ≤ gb103)); have n6_ := zam ((by rw [hg]; exact Nat.ne_of_lt (blk_lt (g := gb101) (o := .cells #[.int .i64 a1_0, .int .i64 a1_1] 32 (0, 0)) (by (with_reducible repeat (first | refine zkn ?_ _ | refine zkd ?_ | refine zka ?_ _)); exact BK101.out)) : gb101 ≠ gb103)); have n7_ := zam ((by rw [hg]; exact Nat.ne_of_gt (blk_lt (g := gb101) (o := .cells #[.int .i64 a1_0, .int .i64 a1_1] 32 (0, 0)) (by (with_reducible repeat (first | refine zkn ?_ _ | refine zkd ?_ | refine zka ?_ _)); exact BK101.out)) : gb103 ≠ gb101)); have n8_ := zam ((by rw [hg]; exact Nat.ne_of_lt (blk_lt (g := gb102) (o := .cells #[.int .i64 a2_0, .int .i64 a2_1] 32 (0, 0)) (by (with_reducible repeat (first | refine zkn ?_ _ | refine zkd ?_ | refine zka ?_ _)); exact BK102.out)) : gb102 ≠ gb103)); have n9_ := zam ((by rw [hg]; exact Nat.ne_of_gt (blk_lt (g := gb102) (o := .cells #[.int .i64 a2_0, .int .i64 a2_1] 32 (0, 0)) (by (with_reducible repeat (first | refine zkn ?_ _ | refine zkd ?_ | refine zka ?_ _)); exact BK102.out)) : gb103 ≠ gb102)); clear BK101; clear BK102; clear HB; have BK101 := n0_; have BK102 := n1_; have HB := n2_; have BK103 := n3_; have GW103 := n4_; have GE103 := n5_; have NB101_103 := n6_; have NB103_101 := n7_; have NB102_103 := n8_; have NB103_102 := n9_; clear n0_ n1_ n2_ n3_ n4_ n5_ n6_ n7_ n8_ n9_; clear hb hbox hg; have hnb86 := NB101_102.out; have hnc86 := NB102_101.out; have hnb87 := NB101_103.out; have hnc87 := NB103_101.out; have hcz88_0 : w85.cell? ⟨gb101, 0, none⟩ = some (.int .i64 a1_0) := (zkc BK101.out 0).trans rfl; have hcz88_1 : w85.cell? ⟨gb101, 1, none⟩ = some (.int .i64 a1_1) := (zkc BK101.out 1).trans rfl; have hfz88_0 := zkz BK101.out 0; have hfz88_1 := zkz BK101.out 1) | ((with_reducible refine zgc (f := 29) rfl ?_); refine goesL_ (some 66) rfl rfl Try.func29 (by kernel_rfl) rfl #[.agg #[.int .i64 a1_0, .int .i64 a1_1], .int .i64 a3, .int .i64 a4] rfl (by (try simp only [zmt, List.map_cons, List.map_nil]); first | done | rfl | (simp only [zld, zlt]; rfl)) ?_; (with_reducible refine (bound_Scale.calls k a1_0 a1_1 a3 a4 t122 t123 t124 _ A82.out).mono ?_); rintro e w89 ⟨rfl, hb⟩; refine ⟨_, rfl, ?_⟩; have n0_ := zam (zkb (g := gb101) (o := .cells #[.int .i64 a1_0, .int .i64 a1_1] 32 (0, 0)) (by (with_reducible repeat (first | refine zkn ?_ _ | refine zkd ?_ | refine zka ?_ _)); exact BK101.out) hb); have n1_ := zam (zkb (g := gb102) (o := .cells #[.int .i64 a2_0, .int .i64 a2_1] 32 (0, 0)) (by (with_reducible repeat (first | refine zkn ?_ _ | refine zkd ?_ | refine zka ?_ _)); exact BK102.out) hb); have n2_ := zam (zkb (g := gb103) (o := .cells #[.int .i64 0, .int .i64 0] 32 (0, 0)) (by (with_reducible repeat (first | refine zkn ?_ _ | refine zkd ?_ | refine zka ?_ _)); exact BK103.out) hb); have n3_ := zam (zbt (by repeat (first | (with_reducible first | exact HB.out | apply zba | apply zbn | apply zb1 | refine zbs ?_ GE101.out | refine zbs ?_ GE102.out | refine zbs ?_ GE103.out) | exact HB.out)) hb); clear BK101; clear BK102; clear BK103; clear HB; have BK101 := n0_; have BK102 := n1_; have BK103 := n2_; have HB := n3_; clear n0_ n1_ n2_ n3_; (try clear hb); (try clear hb2); (try clear hk); (try clear hi); have hnb90 := NB103_102.out; have hnc90 := NB102_103.out; have hcz91_0 : w89.cell? ⟨gb103, 0, none⟩ = some (.int .i64 0) := (zkc BK103.out 0).trans rfl; have hcz91_1 : w89.cell? ⟨gb103, 1, none⟩ = some (.int .i64 0) := (zkc BK103.out 1).trans rfl; have hfz91_0 := zkz BK103.out 0; have hfz91_1 := zkz BK103.out 1))
  refine zbr (results_ct rfl _ _ gb103 32 #[.int .i64 t122, .int .i64 t123] (0, 0) _ rfl (by (with_reducible repeat (first | refine zkn ?_ _ | refine zkd ?_ | refine zka ?_ _)); refine blk_put (cs := #[.int .i64 t122, .int .i64 0]) ?_ 1 _ rfl; (with_reducible repeat (first | refine zkn ?_ _ | refine zkd ?_ | refine zka ?_ _)); refine blk_put (cs := #[.int .i64 0, .int .i64 0]) ?_ 0 _ rfl; (with_reducible repeat (first | refine zkn ?_ _ | refine zkd ?_ | refine zka ?_ _)); exact BK103.out) Try.underlying32 rfl (by kernel_rfl)) rfl ?_
  exact ⟨by first | rfl | (simp [errW_none, errW_some] <;> rfl) | (simp [*, errW_none, errW_some] <;> rfl), by repeat (first | (with_reducible first | exact HB.out | apply zba | apply zbn | apply zb1 | refine zbs ?_ GE101.out | refine zbs ?_ GE102.out | refine zbs ?_ GE103.out) | exact HB.out)⟩
 rw [if_neg c81] at H
 have c81b0 : (a0 == 6) = false := beq_eq_false_iff_ne.mpr c81
 have c81b1 : (a0 != 6) = true := bne_iff_ne.mpr c81
 by_cases c92 : a0 = 7
 ·rw [if_pos c92] at H
  have c92b0 : (a0 == 7) = true := beq_iff_eq.mpr c92
  have c92b1 : (a0 != 7) = false := bne_eq_false_iff_eq.mpr c92
  clear c92
  replace H := Option.bind_eq_some_iff.mp H
  obtain ⟨⟨t125, t126, t127⟩, A930, H⟩ := H
  replace H : (some (t125, t126, t127)) = some (r1, r2, r3) := H
  have A93 := zam A930
  clear A930
  simp only [Option.some.injEq, Prod.mk.injEq] at H
  obtain ⟨rfl, rfl, rfl⟩ := H
  go_enter Try.func70, Try.ntmps70
  go_wp2_with (first | ((with_reducible refine zgd (N := 9) rfl ?_); refine box_event ?hg (N := 9) ?hd (cs := #[.int .i64 a1_0, .int .i64 a1_1]) (t := 32) ?hr ?_; (case hd => rfl); (case hg => rfl); (case hr => first | (go_simp; done) | (go_simp; rfl)); intro gb101 hg w94 hbox hb; have n0_ := zam (zbt (by repeat (first | (with_reducible first | exact HB.out | apply zba | apply zbn | apply zb1) | exact HB.out)) hb); have n1_ := zam (hbox); have n2_ := zam ((by rw [hg]; exact (zbz (by repeat (first | (with_reducible first | exact HB.out | apply zba | apply zbn | apply zb1) | exact HB.out))) : w.heap.size ≤ gb101)); have n3_ := zam ((by rw [hg]; exact (zbz (by repeat (first | (with_reducible first | exact HB.out | apply zba | apply zbn | apply zb1) | exact HB.out))) : w.heap.size ≤ gb101)); clear HB; have HB := n0_; have BK101 := n1_; have GW101 := n2_; have GE101 := n3_; clear n0_ n1_ n2_ n3_; clear hb hbox hg) | ((with_reducible refine zgd (N := 10) rfl ?_); refine box_event ?hg (N := 10) ?hd (cs := #[.int .i64 a2_0, .int .i64 a2_1]) (t := 32) ?hr ?_; (case hd => rfl); (case hg => rfl); (case hr => first | (go_simp; done) | (go_simp; rfl)); intro gb102 hg w95 hbox hb; have n0_ := zam (zkb (g := gb101) (o := .cells #[.int .i64 a1_0, .int .i64 a1_1] 32 (0, 0)) (by (with_reducible repeat (first | refine zkn ?_ _ | refine zkd ?_ | refine zka ?_ _)); exact BK101.out) hb); have n1_ := zam (zbt (by repeat (first | (with_reducible first | exact HB.out | apply zba | apply zbn | apply zb1 | refine zbs ?_ GE101.out) | exact HB.out)) hb); have n2_ := zam (hbox); have n3_ := zam ((by rw [hg]; exact (zbz (by repeat (first | (with_reducible first | exact HB.out | apply zba | apply zbn | apply zb1 | refine zbs ?_ GE101.out) | exact HB.out))) : w.heap.size ≤ gb102)); have n4_ := zam ((by rw [hg]; exact (zbz (by repeat (first | (with_reducible first | exact HB.out | apply zba | apply zbn | apply zb1 | refine zbs ?_ GE101.out) | exact HB.out))) : w.heap.size ≤ gb102)); have n5_ := zam ((by rw [hg]; exact Nat.ne_of_lt (blk_lt (g := gb101) (o := .cells #[.int .i64 a1_0, .int .i64 a1_1] 32 (0, 0)) (by (with_reducible repeat (first | refine zkn ?_ _ | refine zkd ?_ | refine zka ?_ _)); exact BK101.out)) : gb101 ≠ gb102)); have n6_ := zam ((by rw [hg]; exact Nat.ne_of_gt (blk_lt (g := gb101) (o := .cells #[.int .i64 a1_0, .int .i64 a1_1] 32 (0, 0)) (by (with_reducible repeat (first | refine zkn ?_ _ | refine zkd ?_ | refine zka ?_ _)); exact BK101.out)) : gb102 ≠ gb101)); clear BK101; clear HB; have BK101 := n0_; have HB := n1_; have BK102 := n2_; have GW102 := n3_; have GE102 := n4_; have NB101_102 := n5_; have NB102_101 := n6_; clear n0_ n1_ n2_ n3_ n4_ n5_ n6_; clear hb hbox hg) | ((with_reducible refine zgd (N := 16) rfl ?_); refine box_event ?hg (N := 16) ?hd (cs := #[.int .i64 0, .int .i64 0]) (t := 32) ?hr ?_; (case hd => rfl); (case hg => rfl); (case hr => first | (go_simp; done) | (go_simp; rfl)); intro gb103 hg w96 hbox hb; have n0_ := zam (zkb (g := gb101) (o := .cells #[.int .i64 a1_0, .int .i64 a1_1] 32 (0, 0)) (by (with_reducible repeat (first | refine zkn ?_ _ | refine zkd ?_ | refine zka ?_ _)); exact BK101.out) hb); have n1_ := zam (zkb (g := gb102) (o := .cells #[.int .i64 a2_0, .int .i64 a2_1] 32 (0, 0)) (by (with_reducible repeat (first | refine zkn ?_ _ | refine zkd ?_ | refine zka ?_ _)); exact BK102.out) hb); have n2_ := zam (zbt (by repeat (first | (with_reducible first | exact HB.out | apply zba | apply zbn | apply zb1 | refine zbs ?_ GE101.out | refine zbs ?_ GE102.out) | exact HB.out)) hb); have n3_ := zam (hbox); have n4_ := zam ((by rw [hg]; exact (zbz (by repeat (first | (with_reducible first | exact HB.out | apply zba | apply zbn | apply zb1 | refine zbs ?_ GE101.out | refine zbs ?_ GE102.out) | exact HB.out))) : w.heap.size ≤ gb103)); have n5_ := zam ((by rw [hg]; exact (zbz (by repeat (first | (with_reducible first | exact HB.out | apply zba | apply zbn | apply zb1 | refine zbs ?_ GE101.out | refine zbs ?_ GE102.out) | exact HB.out))) : w.heap.size ≤ gb103)); have n6_ := zam ((by rw [hg]; exact Nat.ne_of_lt (blk_lt (g := gb101) (o := .cells #[.int .i64 a1_0, .int .i64 a1_1] 32 (0, 0)) (by (with_reducible repeat (first | refine zkn ?_ _ | refine zkd ?_ | refine zka ?_ _)); exact BK101.out)) : gb101 ≠ gb103)); have n7_ := zam ((by rw [hg]; exact Nat.ne_of_gt (blk_lt (g := gb101) (o := .cells #[.int .i64 a1_0, .int .i64 a1_1] 32 (0, 0)) (by (with_reducible repeat (first | refine zkn ?_ _ | refine zkd ?_ | refine zka ?_ _)); exact BK101.out)) : gb103 ≠ gb101)); have n8_ := zam ((by rw [hg]; exact Nat.ne_of_lt (blk_lt (g := gb102) (o := .cells #[.int .i64 a2_0, .int .i64 a2_1] 32 (0, 0)) (by (with_reducible repeat (first | refine zkn ?_ _ | refine zkd ?_ | refine zka ?_ _)); exact BK102.out)) : gb102 ≠ gb103)); have n9_ := zam ((by rw [hg]; exact Nat.ne_of_gt (blk_lt (g := gb102) (o := .cells #[.int .i64 a2_0, .int .i64 a2_1] 32 (0, 0)) (by (with_reducible repeat (first | refine zkn ?_ _ | refine zkd ?_ | refine zka ?_ _)); exact BK102.out)) : gb103 ≠ gb102)); clear BK101; clear BK102; clear HB; have BK101 := n0_; have BK102 := n1_; have HB := n2_; have BK103 := n3_; have GW103 := n4_; have GE103 := n5_; have NB101_103 := n6_; have NB103_101 := n7_; have NB102_103 := n8_; have NB103_102 := n9_; clear n0_ n1_ n2_ n3_ n4_ n5_ n6_ n7_ n8_ n9_; clear hb hbox hg; have hnb97 := NB101_102.out; have hnc97 := NB102_101.out; have hnb98 := NB101_103.out; have hnc98 := NB103_101.out; have hcz99_0 : w96.cell? ⟨gb101, 0, none⟩ = some (.int .i64 a1_0) := (zkc BK101.out 0).trans rfl; have hcz99_1 : w96.cell? ⟨gb101, 1, none⟩ = some (.int .i64 a1_1) := (zkc BK101.out 1).trans rfl; have hfz99_0 := zkz BK101.out 0; have hfz99_1 := zkz BK101.out 1) | ((with_reducible refine zgc (f := 63) rfl ?_); refine goesL_ (some 72) rfl rfl Try.func63 (by kernel_rfl) rfl #[.agg #[.int .i64 a1_0, .int .i64 a1_1]] rfl (by (try simp only [zmt, List.map_cons, List.map_nil]); first | done | rfl | (simp only [zld, zlt]; rfl)) ?_; (with_reducible refine (bound_Root.calls k a1_0 a1_1 t125 t126 t127 _ A93.out).mono ?_); rintro e w100 ⟨rfl, hb⟩; refine ⟨_, rfl, ?_⟩; have n0_ := zam (zkb (g := gb101) (o := .cells #[.int .i64 a1_0, .int .i64 a1_1] 32 (0, 0)) (by (with_reducible repeat (first | refine zkn ?_ _ | refine zkd ?_ | refine zka ?_ _)); exact BK101.out) hb); have n1_ := zam (zkb (g := gb102) (o := .cells #[.int .i64 a2_0, .int .i64 a2_1] 32 (0, 0)) (by (with_reducible repeat (first | refine zkn ?_ _ | refine zkd ?_ | refine zka ?_ _)); exact BK102.out) hb); have n2_ := zam (zkb (g := gb103) (o := .cells #[.int .i64 0, .int .i64 0] 32 (0, 0)) (by (with_reducible repeat (first | refine zkn ?_ _ | refine zkd ?_ | refine zka ?_ _)); exact BK103.out) hb); have n3_ := zam (zbt (by repeat (first | (with_reducible first | exact HB.out | apply zba | apply zbn | apply zb1 | refine zbs ?_ GE101.out | refine zbs ?_ GE102.out | refine zbs ?_ GE103.out) | exact HB.out)) hb); clear BK101; clear BK102; clear BK103; clear HB; have BK101 := n0_; have BK102 := n1_; have BK103 := n2_; have HB := n3_; clear n0_ n1_ n2_ n3_; (try clear hb); (try clear hb2); (try clear hk); (try clear hi); have hnb101 := NB103_102.out; have hnc101 := NB102_103.out; have hcz102_0 : w100.cell? ⟨gb103, 0, none⟩ = some (.int .i64 0) := (zkc BK103.out 0).trans rfl; have hcz102_1 : w100.cell? ⟨gb103, 1, none⟩ = some (.int .i64 0) := (zkc BK103.out 1).trans rfl; have hfz102_0 := zkz BK103.out 0; have hfz102_1 := zkz BK103.out 1))
  refine zbr (results_ct rfl _ _ gb103 32 #[.int .i64 t125, .int .i64 t126] (0, 0) _ rfl (by (with_reducible repeat (first | refine zkn ?_ _ | refine zkd ?_ | refine zka ?_ _)); refine blk_put (cs := #[.int .i64 t125, .int .i64 0]) ?_ 1 _ rfl; (with_reducible repeat (first | refine zkn ?_ _ | refine zkd ?_ | refine zka ?_ _)); refine blk_put (cs := #[.int .i64 0, .int .i64 0]) ?_ 0 _ rfl; (with_reducible repeat (first | refine zkn ?_ _ | refine zkd ?_ | refine zka ?_ _)); exact BK103.out) Try.underlying32 rfl (by kernel_rfl)) rfl ?_
  exact ⟨by first | rfl | (simp [errW_none, errW_some] <;> rfl) | (simp [*, errW_none, errW_some] <;> rfl), by repeat (first | (with_reducible first | exact HB.out | apply zba | apply zbn | apply zb1 | refine zbs ?_ GE101.out | refine zbs ?_ GE102.out | refine zbs ?_ GE103.out) | exact HB.out)⟩
 rw [if_neg c92] at H
 have c92b0 : (a0 == 7) = false := beq_eq_false_iff_ne.mpr c92
 have c92b1 : (a0 != 7) = true := bne_iff_ne.mpr c92
 replace H := Option.bind_eq_some_iff.mp H
 obtain ⟨⟨t128, t129, t130⟩, A1030, H⟩ := H
 replace H : (some (t128, t129, t130)) = some (r1, r2, r3) := H
 have A103 := zam A1030
 clear A1030
 simp only [Option.some.injEq, Prod.mk.injEq] at H
 obtain ⟨rfl, rfl, rfl⟩ := H
 go_enter Try.func70, Try.ntmps70
 go_wp2_with (first | ((with_reducible refine zgd (N := 9) rfl ?_); refine box_event ?hg (N := 9) ?hd (cs := #[.int .i64 a1_0, .int .i64 a1_1]) (t := 32) ?hr ?_; (case hd => rfl); (case hg => rfl); (case hr => first | (go_simp; done) | (go_simp; rfl)); intro gb101 hg w104 hbox hb; have n0_ := zam (zbt (by repeat (first | (with_reducible first | exact HB.out | apply zba | apply zbn | apply zb1) | exact HB.out)) hb); have n1_ := zam (hbox); have n2_ := zam ((by rw [hg]; exact (zbz (by repeat (first | (with_reducible first | exact HB.out | apply zba | apply zbn | apply zb1) | exact HB.out))) : w.heap.size ≤ gb101)); have n3_ := zam ((by rw [hg]; exact (zbz (by repeat (first | (with_reducible first | exact HB.out | apply zba | apply zbn | apply zb1) | exact HB.out))) : w.heap.size ≤ gb101)); clear HB; have HB := n0_; have BK101 := n1_; have GW101 := n2_; have GE101 := n3_; clear n0_ n1_ n2_ n3_; clear hb hbox hg) | ((with_reducible refine zgd (N := 10) rfl ?_); refine box_event ?hg (N := 10) ?hd (cs := #[.int .i64 a2_0, .int .i64 a2_1]) (t := 32) ?hr ?_; (case hd => rfl); (case hg => rfl); (case hr => first | (go_simp; done) | (go_simp; rfl)); intro gb102 hg w105 hbox hb; have n0_ := zam (zkb (g := gb101) (o := .cells #[.int .i64 a1_0, .int .i64 a1_1] 32 (0, 0)) (by (with_reducible repeat (first | refine zkn ?_ _ | refine zkd ?_ | refine zka ?_ _)); exact BK101.out) hb); have n1_ := zam (zbt (by repeat (first | (with_reducible first | exact HB.out | apply zba | apply zbn | apply zb1 | refine zbs ?_ GE101.out) | exact HB.out)) hb); have n2_ := zam (hbox); have n3_ := zam ((by rw [hg]; exact (zbz (by repeat (first | (with_reducible first | exact HB.out | apply zba | apply zbn | apply zb1 | refine zbs ?_ GE101.out) | exact HB.out))) : w.heap.size ≤ gb102)); have n4_ := zam ((by rw [hg]; exact (zbz (by repeat (first | (with_reducible first | exact HB.out | apply zba | apply zbn | apply zb1 | refine zbs ?_ GE101.out) | exact HB.out))) : w.heap.size ≤ gb102)); have n5_ := zam ((by rw [hg]; exact Nat.ne_of_lt (blk_lt (g := gb101) (o := .cells #[.int .i64 a1_0, .int .i64 a1_1] 32 (0, 0)) (by (with_reducible repeat (first | refine zkn ?_ _ | refine zkd ?_ | refine zka ?_ _)); exact BK101.out)) : gb101 ≠ gb102)); have n6_ := zam ((by rw [hg]; exact Nat.ne_of_gt (blk_lt (g := gb101) (o := .cells #[.int .i64 a1_0, .int .i64 a1_1] 32 (0, 0)) (by (with_reducible repeat (first | refine zkn ?_ _ | refine zkd ?_ | refine zka ?_ _)); exact BK101.out)) : gb102 ≠ gb101)); clear BK101; clear HB; have BK101 := n0_; have HB := n1_; have BK102 := n2_; have GW102 := n3_; have GE102 := n4_; have NB101_102 := n5_; have NB102_101 := n6_; clear n0_ n1_ n2_ n3_ n4_ n5_ n6_; clear hb hbox hg) | ((with_reducible refine zgd (N := 16) rfl ?_); refine box_event ?hg (N := 16) ?hd (cs := #[.int .i64 0, .int .i64 0]) (t := 32) ?hr ?_; (case hd => rfl); (case hg => rfl); (case hr => first | (go_simp; done) | (go_simp; rfl)); intro gb103 hg w106 hbox hb; have n0_ := zam (zkb (g := gb101) (o := .cells #[.int .i64 a1_0, .int .i64 a1_1] 32 (0, 0)) (by (with_reducible repeat (first | refine zkn ?_ _ | refine zkd ?_ | refine zka ?_ _)); exact BK101.out) hb); have n1_ := zam (zkb (g := gb102) (o := .cells #[.int .i64 a2_0, .int .i64 a2_1] 32 (0, 0)) (by (with_reducible repeat (first | refine zkn ?_ _ | refine zkd ?_ | refine zka ?_ _)); exact BK102.out) hb); have n2_ := zam (zbt (by repeat (first | (with_reducible first | exact HB.out | apply zba | apply zbn | apply zb1 | refine zbs ?_ GE101.out | refine zbs ?_ GE102.out) | exact HB.out)) hb); have n3_ := zam (hbox); have n4_ := zam ((by rw [hg]; exact (zbz (by repeat (first | (with_reducible first | exact HB.out | apply zba | apply zbn | apply zb1 | refine zbs ?_ GE101.out | refine zbs ?_ GE102.out) | exact HB.out))) : w.heap.size ≤ gb103)); have n5_ := zam ((by rw [hg]; exact (zbz (by repeat (first | (with_reducible first | exact HB.out | apply zba | apply zbn | apply zb1 | refine zbs ?_ GE101.out | refine zbs ?_ GE102.out) | exact HB.out))) : w.heap.size ≤ gb103)); have n6_ := zam ((by rw [hg]; exact Nat.ne_of_lt (blk_lt (g := gb101) (o := .cells #[.int .i64 a1_0, .int .i64 a1_1] 32 (0, 0)) (by (with_reducible repeat (first | refine zkn ?_ _ | refine zkd ?_ | refine zka ?_ _)); exact BK101.out)) : gb101 ≠ gb103)); have n7_ := zam ((by rw [hg]; exact Nat.ne_of_gt (blk_lt (g := gb101) (o := .cells #[.int .i64 a1_0, .int .i64 a1_1] 32 (0, 0)) (by (with_reducible repeat (first | refine zkn ?_ _ | refine zkd ?_ | refine zka ?_ _)); exact BK101.out)) : gb103 ≠ gb101)); have n8_ := zam ((by rw [hg]; exact Nat.ne_of_lt (blk_lt (g := gb102) (o := .cells #[.int .i64 a2_0, .int .i64 a2_1] 32 (0, 0)) (by (with_reducible repeat (first | refine zkn ?_ _ | refine zkd ?_ | refine zka ?_ _)); exact BK102.out)) : gb102 ≠ gb103)); have n9_ := zam ((by rw [hg]; exact Nat.ne_of_gt (blk_lt (g := gb102) (o := .cells #[.int .i64 a2_0, .int .i64 a2_1] 32 (0, 0)) (by (with_reducible repeat (first | refine zkn ?_ _ | refine zkd ?_ | refine zka ?_ _)); exact BK102.out)) : gb103 ≠ gb102)); clear BK101; clear BK102; clear HB; have BK101 := n0_; have BK102 := n1_; have HB := n2_; have BK103 := n3_; have GW103 := n4_; have GE103 := n5_; have NB101_103 := n6_; have NB103_101 := n7_; have NB102_103 := n8_; have NB103_102 := n9_; clear n0_ n1_ n2_ n3_ n4_ n5_ n6_ n7_ n8_ n9_; clear hb hbox hg; have hnb107 := NB101_102.out; have hnc107 := NB102_101.out; have hnb108 := NB101_103.out; have hnc108 := NB103_101.out; have hcz109_0 : w106.cell? ⟨gb101, 0, none⟩ = some (.int .i64 a1_0) := (zkc BK101.out 0).trans rfl; have hcz109_1 : w106.cell? ⟨gb101, 1, none⟩ = some (.int .i64 a1_1) := (zkc BK101.out 1).trans rfl; have hfz109_0 := zkz BK101.out 0; have hfz109_1 := zkz BK101.out 1; have hnb110 := NB102_103.out; have hnc110 := NB103_102.out; have hcz111_0 : w106.cell? ⟨gb102, 0, none⟩ = some (.int .i64 a2_0) := (zkc BK102.out 0).trans rfl; have hcz111_1 : w106.cell? ⟨gb102, 1, none⟩ = some (.int .i64 a2_1) := (zkc BK102.out 1).trans rfl; have hfz111_0 := zkz BK102.out 0; have hfz111_1 := zkz BK102.out 1) | ((with_reducible refine zgc (f := 68) rfl ?_); refine goesL_ (some 80) rfl rfl Try.func68 (by kernel_rfl) rfl #[.int .i64 a5, .agg #[.int .i64 a1_0, .int .i64 a1_1], .int .i64 a6, .agg #[.int .i64 a2_0, .int .i64 a2_1], .int .i64 a7] rfl (by (try simp only [zmt, List.map_cons, List.map_nil]); first | done | rfl | (simp only [zld, zlt]; rfl)) ?_; (with_reducible refine (bound_Line.calls k a5 a1_0 a1_1 a6 a2_0 a2_1 a7 t128 t129 t130 _ A103.out).mono ?_); rintro e w112 ⟨rfl, hb⟩; refine ⟨_, rfl, ?_⟩; have n0_ := zam (zkb (g := gb101) (o := .cells #[.int .i64 a1_0, .int .i64 a1_1] 32 (0, 0)) (by (with_reducible repeat (first | refine zkn ?_ _ | refine zkd ?_ | refine zka ?_ _)); exact BK101.out) hb); have n1_ := zam (zkb (g := gb102) (o := .cells #[.int .i64 a2_0, .int .i64 a2_1] 32 (0, 0)) (by (with_reducible repeat (first | refine zkn ?_ _ | refine zkd ?_ | refine zka ?_ _)); exact BK102.out) hb); have n2_ := zam (zkb (g := gb103) (o := .cells #[.int .i64 0, .int .i64 0] 32 (0, 0)) (by (with_reducible repeat (first | refine zkn ?_ _ | refine zkd ?_ | refine zka ?_ _)); exact BK103.out) hb); have n3_ := zam (zbt (by repeat (first | (with_reducible first | exact HB.out | apply zba | apply zbn | apply zb1 | refine zbs ?_ GE101.out | refine zbs ?_ GE102.out | refine zbs ?_ GE103.out) | exact HB.out)) hb); clear BK101; clear BK102; clear BK103; clear HB; have BK101 := n0_; have BK102 := n1_; have BK103 := n2_; have HB := n3_; clear n0_ n1_ n2_ n3_; (try clear hb); (try clear hb2); (try clear hk); (try clear hi); have hcz113_0 : w112.cell? ⟨gb103, 0, none⟩ = some (.int .i64 0) := (zkc BK103.out 0).trans rfl; have hcz113_1 : w112.cell? ⟨gb103, 1, none⟩ = some (.int .i64 0) := (zkc BK103.out 1).trans rfl; have hfz113_0 := zkz BK103.out 0; have hfz113_1 := zkz BK103.out 1))
 refine zbr (results_ct rfl _ _ gb103 32 #[.int .i64 t128, .int .i64 t129] (0, 0) _ rfl (by (with_reducible repeat (first | refine zkn ?_ _ | refine zkd ?_ | refine zka ?_ _)); refine blk_put (cs := #[.int .i64 t128, .int .i64 0]) ?_ 1 _ rfl; (with_reducible repeat (first | refine zkn ?_ _ | refine zkd ?_ | refine zka ?_ _)); refine blk_put (cs := #[.int .i64 0, .int .i64 0]) ?_ 0 _ rfl; (with_reducible repeat (first | refine zkn ?_ _ | refine zkd ?_ | refine zka ?_ _)); exact BK103.out) Try.underlying32 rfl (by kernel_rfl)) rfl ?_
 exact ⟨by first | rfl | (simp [errW_none, errW_some] <;> rfl) | (simp [*, errW_none, errW_some] <;> rfl), by repeat (first | (with_reducible first | exact HB.out | apply zba | apply zbn | apply zb1 | refine zbs ?_ GE101.out | refine zbs ?_ GE102.out | refine zbs ?_ GE103.out) | exact HB.out)⟩
end Go.Proofs.Ytlkafgibgipodaa.P
