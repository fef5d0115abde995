/- THE STAGE'S THEOREM: wherever the source is in the area, whenever it was, whatever the speed, and wherever the stations are in their boxes, if each arrival lies in its span, the region has a box that contains the source, for each depth, and the origin lies in the origin of this box. Part 4 of 6. -/
-- Put together by wip/tools/shake.py, a program of this work: out of the words that the kit's print tool (print.sh) writes for a claim and what wip/tools/xprint.py prints, those that this claim reaches, and this work's own texts.
import Derived.RangeFuncBox
import Derived.RangeFuncNested
import Derived.RangeFuncBound
import Derived.RangeFuncCalls
import Derived.RangeFuncLeaves
import Derived.Shelf.Abstract
import Derived.Shelf.RegionOpen
import Derived.OwnWalkIn
import Derived.TacticsInMore
import Derived.LoopNIn
import Derived.LoopIn
import Derived.Sort.QuietIn
import Derived.Maps.AppendAt
import Derived.Sort.LoopGhostIn
import Derived.Laws.EntriesVeiled
import Derived.Outline
import Derived.Test.YtaheamdoldiojaaKSoundFinds2
namespace Go.Proofs.Ytaheamdoldiojaa.P
open Go.RowKit Go.Proofs.YtaheamdoldiojaaW.PrintWords Go.Proofs.YtaheamdoldiojaaW.PrintLast Go.Proofs.YtaheamdoldiojaaW.PrintMore
attribute [local go_sem] max2_int min2_int max_two min_two max_three min_three max_four min_four   -- for this text's walks alone
set_option linter.unusedVariables false
set_option linter.unusedSimpArgs false
open Go.Shelf
attribute [local go_sem] Oper.semAt_some
theorem sd_row_cells {V : World} {b ty sz : Nat} {v : Value} {n : Nat} {xs : List Value} (h : V.ownsRow b ty sz v n xs) : ∀ (k : Nat) (o : Obj), v.ownBlock = some k → V.heap[k]? = some o → ∃ cs, o = .cells cs ty (0, 0) := by
 intro k o hk ho
 rcases h.2 with ⟨e, _⟩ | ⟨g, cap, cur, e, _, hcur, _⟩
 ·rw [e] at hk
  cases hk
 rw [e] at hk
 simp only [Value.ownBlock, Option.some.injEq] at hk
 subst hk
 rw [hcur] at ho
 cases ho
 exact ⟨_, rfl⟩
theorem sd_row_stays {V V' : World} {b ty sz : Nat} {v : Value} {n : Nat} {xs : List Value} {row : Option Nat} (h : V.ownsRow b ty sz v n xs) (hg : V.grownBy V' row) (hr : ∀ r, row = some r → ∃ o : Obj, V.heap[r]? = some o ∧ o.isCells = false) : V'.ownsRow b ty sz v n xs := by
 refine ⟨h.1, h.2.imp id fun ⟨g, cap, cur, e, h2, h3, h4⟩ => ⟨g, cap, cur, e, h2, ?_, h4⟩⟩
 refine (hg.block g (blk_lt h3) fun er => ?_).trans h3
 obtain ⟨o, ho, hc⟩ := hr g er.symm
 rw [h3] at ho
 cases ho
 cases hc
theorem PKeep.trans {A B C : World} (h : PKeep A B) (k : PKeep B C) : PKeep A C := fun i cs fr hi => (k i cs fr ((h i cs fr hi).trans hi)).trans (h i cs fr hi)
theorem PKeep.put {V : World} {l : Nat} {o : Obj} (hl : V.heap[l]? = some o) (ho : o.isCells = false) (o' : Obj) : PKeep V (V.putObj l o') := fun i cs fr hi => by
 have hne : l ≠ i := by
  intro e
  rw [e, hi] at hl
  cases hl
  cases ho
 simp [World.putObj, hne]
structure RegIn (base : Nat) (f : S29 → Option (List S29)) (out : List S29) (v0 : Value) (w U : World) (gh go_ gd : Nat) (gs : Nat) (d : Int) (pre : List S29) (V : World) : Prop where
 row : ∃ (acc : List S29) (v : Value), Sd.all f pre = some acc ∧ V.heap[go_]? = some (.cells #[v] 22 (0, 0)) ∧ V.ownsRow base 29 4 v (out ++ acc).length (Sd.flat (out ++ acc)) ∧ (v.ownBlock = v0.ownBlock ∨ ∀ q, v.ownBlock = some q → w.heap.size ≤ q)
 grown : w.grownBy V v0.ownBlock
 size : U.heap.size ≤ V.heap.size
 hh : V.heap[gh]? = some (.cells #[.pointer (some ⟨gs, 0, none⟩)] 102 (0, 0))
 hd : V.heap[gd]? = some (.cells #[.int .i64 d] 3 (0, 0))
theorem RegIn.own {base : Nat} {f : S29 → Option (List S29)} {out : List S29} {v0 : Value} {w U : World} {gh go_ gd gs : Nat} {d : Int} {B : Nat} (hw : w.heap.size ≤ B) (h1 : gh < B) (h2 : go_ < B) (h3 : gd < B) : OwnFrom B (fun (pre : List S29) V => RegIn base f out v0 w U gh go_ gd gs d pre V) := by
 intro pre V V' row hs hg hr
 have at_ : ∀ {k : Nat} {o : Obj}, k < B → V.heap[k]? = some o → V'.heap[k]? = some o := fun {k o} hk h => (hg.block k (blk_lt h) (fun e => by have := (hr k e.symm).1; omega)).trans h
 obtain ⟨acc, v, e1, e2, e3, e4⟩ := hs.row
 refine ⟨⟨acc, v, e1, at_ h2 e2, sd_row_stays e3 hg (fun r e => (hr r e).2), e4⟩, ?_, Nat.le_trans hs.size hg.size, at_ h1 hs.hh, at_ h3 hs.hd⟩
 refine ⟨hg.os.trans hs.grown.os, hg.tape.trans hs.grown.tape, hg.output.trans hs.grown.output, Nat.le_trans hs.grown.size hg.size, fun k hk hne => ?_⟩
 have hk2 : k < V.heap.size := Nat.lt_of_lt_of_le hk hs.grown.size
 exact (hg.block k hk2 (fun e => by have := (hr k e.symm).1; omega)).trans (hs.grown.block k hk hne)
theorem sd_own_base {W : World} {base : Nat} {v : Value} {n : Nat} {xs : List Value} (h : W.ownsRow base 29 4 v n xs) (k : Nat) (hk : v.ownBlock = some k) : base ≤ k := by
 rcases h.2 with ⟨e, _⟩ | ⟨g, cap, cur, e, h2, _⟩
 ·rw [e] at hk
  cases hk
 rw [e] at hk
 simp only [Value.ownBlock, Option.some.injEq] at hk
 omega
theorem RegIn.step {base : Nat} {f : S29 → Option (List S29)} {out : List S29} {v0 : Value} {w U : World} {gh go_ gd gs : Nat} {d : Int} {pre : List S29} {W W2 : World} {acc rx : List S29} {v v' : Value} {x : S29} (B : Nat) (hI : RegIn base f out v0 w U gh go_ gd gs d pre W) (e1 : Sd.all f pre = some acc) (e2 : W.heap[go_]? = some (.cells #[v] 22 (0, 0))) (e3 : W.ownsRow base 29 4 v (out ++ acc).length (Sd.flat (out ++ acc))) (e4 : v.ownBlock = v0.ownBlock ∨ ∀ q, v.ownBlock = some q → w.heap.size ≤ q)
  (hx : f x = some rx) (r1 : W2.ownsRow base 29 4 v' ((out ++ acc) ++ rx).length (Sd.flat ((out ++ acc) ++ rx))) (r2 : W.grownBy W2 v.ownBlock) (r3 : v'.ownBlock = v.ownBlock ∨ ∀ q, v'.ownBlock = some q → W.heap.size ≤ q) (hgo : w.heap.size ≤ go_) (h1 : gh ≠ go_) (h2 : gd ≠ go_) :
  W2.heap[go_]? = some (.cells #[v] 22 (0, 0)) ∧ KeepsFrom B W (W2.setCell ⟨go_, 0, none⟩ v') ∧ PKeep W (W2.setCell ⟨go_, 0, none⟩ v') ∧ RegIn base f out v0 w U gh go_ gd gs d (pre ++ [x]) (W2.setCell ⟨go_, 0, none⟩ v') := by
 have keep : ∀ {k : Nat} {cs : Array Value} {t : TypeId} {fr : Nat × Nat}, t ≠ 29 → W.heap[k]? = some (.cells cs t fr) → W2.heap[k]? = some (.cells cs t fr) := by
  intro k cs t fr ht hk
  refine (r2.block k (blk_lt hk) (fun e => ?_)).trans hk
  obtain ⟨cs', ho⟩ := sd_row_cells e3 k _ e.symm hk
  cases ho
  exact ht rfl
 have k2 := keep (by decide) e2
 have hgo2 : go_ < W.heap.size := blk_lt e2
 have rowne : ∀ q, v'.ownBlock = some q → q ≠ go_ := by
  intro q hq e
  subst e
  rcases r3 with h | h
  ·obtain ⟨cs', ho⟩ := sd_row_cells e3 _ _ (h ▸ hq) e2
   cases ho
  have := h _ hq
  omega
 refine ⟨k2, ?_, ?_, ⟨⟨acc ++ rx, v', ?_, blk_put k2 0 v' rfl, ?_, ?_⟩, ?_, ?_, ?_, ?_⟩⟩
 ·exact KeepsOthers.from (KeepsOthers.trans (KeepsOthers.of_grownBy r2 fun j o hj ho => by obtain ⟨cs', e⟩ := sd_row_cells e3 j o hj ho; rw [e]; rfl) (KeepsOthers.setCell _ _ _)) _
 ·intro k cs fr hk
  have hne : k ≠ go_ := by
   intro e
   rw [e, e2] at hk
   cases hk
  exact (Below.heap_setCell W2 ⟨go_, 0, none⟩ v' k hne).trans ((keep (by decide) hk).trans hk.symm)
 ·rw [Sd.all_snoc, e1]
  simp [hx]
 ·rw [← List.append_assoc]
  refine ⟨r1.1, r1.2.imp id fun ⟨g, cap, cur, e, b1, b2, b3⟩ => ⟨g, cap, cur, e, b1, ?_, b3⟩⟩
  refine (Below.heap_setCell W2 ⟨go_, 0, none⟩ v' g (rowne g (by rw [e]; rfl))).trans b2
 ·rcases r3 with h | h
  ·rw [h]
   exact e4
  exact .inr fun q hq => Nat.le_trans hI.grown.size (h q hq)
 ·have hs : (W2.setCell ⟨go_, 0, none⟩ v').heap.size = W2.heap.size := by simp
  refine ⟨r2.os.trans hI.grown.os, r2.tape.trans hI.grown.tape, r2.output.trans hI.grown.output, by rw [hs]; exact Nat.le_trans hI.grown.size r2.size, fun k hk hne => ?_⟩
  refine (Below.heap_setCell W2 ⟨go_, 0, none⟩ v' k (by show k ≠ go_; omega)).trans ((r2.block k (Nat.lt_of_lt_of_le hk hI.grown.size) (fun e => ?_)).trans (hI.grown.block k hk hne))
  rcases e4 with h | h
  ·exact hne (e.trans h)
  have := h k e.symm
  omega
 ·have hs : (W2.setCell ⟨go_, 0, none⟩ v').heap.size = W2.heap.size := by simp
  rw [hs]
  exact Nat.le_trans hI.size r2.size
 ·exact (Below.heap_setCell W2 ⟨go_, 0, none⟩ v' gh h1).trans (keep (by decide) hI.hh)
 exact (Below.heap_setCell W2 ⟨go_, 0, none⟩ v' gd h2).trans (keep (by decide) hI.hd)
theorem sd_results_tmp {fn : Func} {p : Tmp} {P : Program} (h : fn.results = #[.tmp p]) (tmps : Array Value) (w : World) (v : Value) (hp : tmps.getD p undef = v) : (results fn tmps).run P w = .ok v w := by
 have hp' : tmps[p]?.getD undef = v := by simpa using hp
 simp [results, h, hp', go_sem]
def regAct (gs : Nat) (A : Option Addr) (n c : Nat) (b0 b1 b2 b3 D : Int) (ws gx gb : Nat) (t1 t2 : Int) (x : S29) (g : Nat) : Act := { tmps := #[.pointer (some ⟨gs, 0, none⟩), .slice A n c, .agg #[.int .i64 b0, .int .i64 b1, .int .i64 b2, .int .i64 b3], .int .i64 D, .pointer (some ⟨ws, 0, none⟩), .pointer (some ⟨ws + 1, 0, none⟩), .pointer (some ⟨ws + 1 + 1, 0, none⟩), .pointer (some ⟨ws + 1 + 1 + 1, 0, none⟩), .slice none 0 0, .pointer (some ⟨gx, 0, none⟩), .bool true, .pointer (some ⟨g, 0, none⟩), .tuple #[.agg #[.int .i64 t1, .int .i64 t2], .bool true], .pointer (some ⟨gs, 0, none⟩), .agg #[.int .i64 b0, .int .i64 b1, .int .i64 b2, .int .i64 b3], .tuple #[.agg #[.int .i64 t1, .int .i64 t2], .bool true], .agg #[.int .i64 t1, .int .i64 t2], .bool true, .bool true, .bool false, undef, .int .i64 D, .bool false, undef, undef, undef, undef, .agg #[.int .i64 b0, .int .i64 b1, .int .i64 b2, .int .i64 b3], .func (.func 126) #[] #[.pointer (some ⟨gb, 0, none⟩)], Sd.boxv x, undef, undef, undef, undef, undef, undef, undef], defers := [] }
set_option maxRecDepth 100000 in
set_option maxHeartbeats 8000000 in
theorem sound_region_node (k gs : Nat) (st : List S29) (lo hi : Int) (at_ : List S24) (hl64 : at_.length ≤ 64) (d : Nat) (hd5 : d < 5) (w0 : World) (hI : IsHeard w0 gs st lo hi at_)
  (ih : ∀ (x : S29) (r out : List S29) (v : Value) (w : World), Sd.region k st lo hi at_ d x = some r → Below w0.heap.size w0 w → w.ownsRow w0.heap.size 29 4 v out.length (Sd.flat out) → out.length + 4 ^ d ≤ 1000000 → Calls Try.prog 59 #[.pointer (some ⟨gs, 0, none⟩), v, Sd.boxv x, .int .i64 (d : Int)] w (Grew w0.heap.size out r v w))
  (D b0 b1 b2 b3 t1 t2 : Int) (hD : D = (d : Int) + 1) (out r : List S29) (v : Value) (w : World) (hB : Below w0.heap.size w0 w) (hrow : w.ownsRow w0.heap.size 29 4 v out.length (Sd.flat out)) (hlen : out.length + 4 ^ (d + 1) ≤ 1000000) (ho : sound_heard_origin.f k st lo hi at_ b0 b1 b2 b3 = some (t1, t2, true)) (hr : Sd.all (Sd.region k st lo hi at_ d) (Sd.parts b0 b1 b2 b3) = some r) :
  Calls Try.prog 59 #[.pointer (some ⟨gs, 0, none⟩), v, .agg #[.int .i64 b0, .int .i64 b1, .int .i64 b2, .int .i64 b3], .int .i64 D] w (Grew w0.heap.size out r v w) := by
 have hu29 := Try.underlying29
 have hu24 := Try.underlying24
 have hu22 := Try.underlying22
 obtain ⟨A, c, rfl⟩ := sd_own_slice hrow
 have OC := zam (fun (w1 : World) (hb1 : Below w.heap.size w w1) => (callsIn_wide (n := 4)).2 (sound_heard_origin.calls k gs st lo hi at_ b0 b1 b2 b3 t1 t2 true w1 ((hI.below hB).below hb1) hl64 ho))
 have dz : (D == 0) = false := beq_eq_false_iff_ne.mpr (by omega)
 have HR := zam hrow
 have HD := zam hD
 clear hrow ho hD
 refine (callsIn_wide (n := 5)).1 ?_
 show CallsIn (Fence.mk (fun _ => True) none false none) 5 Try.prog _ _ _ _
 refine callsIn_of_wp_marks Try.func59 rfl trivial ?_ rfl
 simp only [Try.ntmps59, List.size_toArray, List.length_cons, List.length_nil, Nat.reduceAdd, Nat.reduceSub, Array.replicate_succ, Array.replicate_zero, List.push_toArray, List.append_toArray, List.nil_append, List.cons_append]
 have B1 := zam (zka (zka (zka (blk_new w (.cells #[.pointer (some ⟨gs, 0, none⟩)] 102)) (.cells #[.slice A out.length c] 22)) (.cells #[.int .i64 b0, .int .i64 b1, .int .i64 b2, .int .i64 b3] 29)) (.cells #[.int .i64 D] 3))
 have B2 := zka (zka (blk_new (w.alloc (.cells #[.pointer (some ⟨gs, 0, none⟩)] 102)) (.cells #[.slice A out.length c] 22)) (.cells #[.int .i64 b0, .int .i64 b1, .int .i64 b2, .int .i64 b3] 29)) (.cells #[.int .i64 D] 3)
 have B3 := zka (blk_new ((w.alloc (.cells #[.pointer (some ⟨gs, 0, none⟩)] 102)).alloc (.cells #[.slice A out.length c] 22)) (.cells #[.int .i64 b0, .int .i64 b1, .int .i64 b2, .int .i64 b3] 29)) (.cells #[.int .i64 D] 3)
 have B4 := blk_new (((w.alloc (.cells #[.pointer (some ⟨gs, 0, none⟩)] 102)).alloc (.cells #[.slice A out.length c] 22)).alloc (.cells #[.int .i64 b0, .int .i64 b1, .int .i64 b2, .int .i64 b3] 29)) (.cells #[.int .i64 D] 3)
 simp only [World.size_alloc] at B2 B3 B4
 have B2 := zam B2
 have B3 := zam B3
 have B4 := zam B4
 have HBU := zam (zba (zba (zba (zba (Below.refl w.heap.size w) (.cells #[.pointer (some ⟨gs, 0, none⟩)] 102)) (.cells #[.slice A out.length c] 22)) (.cells #[.int .i64 b0, .int .i64 b1, .int .i64 b2, .int .i64 b3] 29)) (.cells #[.int .i64 D] 3))
 gi_wp2_with (first | (gi_at_call 70; (refine (OC.out _ HBU.out).mono ?_); rintro e w4 ⟨rfl, hb1⟩; clear OC; have n1 := zam (zka (zkb B1.out hb1) (.cells #[.int .i64 t1, .int .i64 t2] 24)); have n2 := zam (zka (zkb B2.out hb1) (.cells #[.int .i64 t1, .int .i64 t2] 24)); have n3 := zam (zka (zkb B3.out hb1) (.cells #[.int .i64 t1, .int .i64 t2] 24)); have n4 := zam (zka (zkb B4.out hb1) (.cells #[.int .i64 t1, .int .i64 t2] 24)); have n5 := zam (zba (zbt HBU.out hb1) (.cells #[.int .i64 t1, .int .i64 t2] 24)); clear B1 B2 B3 B4 HBU hb1; have B1 := n1; have B2 := n2; have B3 := n3; have B4 := n4; have HBU := n5; clear n1 n2 n3 n4 n5; have hz0 := (zkc B3.out 0).trans rfl; have hz1 := (zkc B3.out 1).trans rfl; have hz2 := (zkc B3.out 2).trans rfl; have hz3 := (zkc B3.out 3).trans rfl; have hz4 := (zkc B4.out 0).trans rfl) | (gi_at_call 101; (refine (sound_parts_in _ b0 b1 b2 b3 _).mono ?_); rintro e w5 ⟨rfl, rfl⟩))
 have KB := blk_new (w4.alloc (.cells #[.int .i64 t1, .int .i64 t2] 24)) (.cells #[.int .i64 b0, .int .i64 b1, .int .i64 b2, .int .i64 b3] 29)
 rw [World.size_alloc] at KB
 have KB := zam KB
 have n1 := zam (zka B1.out (.cells #[.int .i64 b0, .int .i64 b1, .int .i64 b2, .int .i64 b3] 29))
 have n2 := zam (zka B2.out (.cells #[.int .i64 b0, .int .i64 b1, .int .i64 b2, .int .i64 b3] 29))
 have n4 := zam (zka B4.out (.cells #[.int .i64 b0, .int .i64 b1, .int .i64 b2, .int .i64 b3] 29))
 have n5 := zam (zba HBU.out (.cells #[.int .i64 b0, .int .i64 b1, .int .i64 b2, .int .i64 b3] 29))
 clear B1 B2 B3 B4 HBU hz0 hz1 hz2 hz3 hz4
 generalize (World.alloc (World.alloc w4 _) _) = U at *
 generalize w4.heap.size + 1 = gb at *
 refine wpIn_rangeFunc_ownH rfl (by decide) (gf := 126) (lb := #[.pointer (some ⟨gb, 0, none⟩)]) rfl trivial (enters_of Try.func126 (by kernel_rfl) rfl) (sound_parts_stops 4 (by decide) gb b0 b1 b2 b3 U KB.out) (fun h k => PKeep.trans h k) (fun V l o o' _ hl ho _ => PKeep.put hl ho o') (Below.refl _ _) (fun _ => rfl)
  (fun pre V => RegIn w0.heap.size (Sd.region k st lo hi at_ d) out (.slice A out.length c) w U w.heap.size (w.heap.size + 1) (w.heap.size + 1 + 1 + 1) gs D (pre.map (fun x => x.1)) V) (fun _ _ _ => False) ?hI (fun _ _ _ _ _ hs _ _ => hs) ?h0
  (fun x a' V => ∃ g, U.heap.size ≤ g ∧ a' = regAct gs A out.length c b0 b1 b2 b3 D w.heap.size w4.heap.size gb t1 t2 x.1 g ∧ V.heap[g]? = some (.cells #[.int .i64 x.1.f0.f0, .int .i64 x.1.f0.f1, .int .i64 x.1.f1.f0, .int .i64 x.1.f1.f1] 29 (0, 0))) ?hAx ?assign ?body ?done ?stop
 case assign =>
  intro l pre x W K hI hK'
  dsimp only [Sd.boxv]
  gi_wp2
  have hw1 : w.heap.size < W.heap.size := blk_lt hI.hh
  have hgU := hI.size
  have hbn := blk_new W (.cells #[.int .i64 x.1.f0.f0, .int .i64 x.1.f0.f1, .int .i64 x.1.f1.f0, .int .i64 x.1.f1.f1] 29)
  generalize W.heap.size = gg at hgU hbn ⊢
  refine hK' _ _ ((KeepsOthers.alloc W _).from _) ?_ ?_ ⟨gg, hgU, rfl, hbn⟩
  ·intro k cs fr hk
   exact Below.heap_alloc W _ k (blk_lt hk)
  obtain ⟨acc, v, e1, e2, e3, e4⟩ := hI.row
  exact ⟨⟨acc, v, e1, zka e2 _, e3.alloc _, e4⟩, hI.grown.trans (World.grownBy_alloc W _ _), Nat.le_trans hI.size (World.grownBy_alloc W _ none).size, zka hI.hh _, zka hI.hd _⟩
 case hI =>
  intro pre V V' row hs hg hr
  exact RegIn.own (B := U.heap.size) n5.out.size (blk_lt n1.out) (blk_lt n2.out) (blk_lt n4.out) (pre.map (fun x => x.1)) V V' row hs hg hr
 case h0 =>
  exact ⟨⟨[], .slice A out.length c, rfl, n2.out, by rw [List.append_nil]; exact sd_row_below HR.out n5.out, .inl rfl⟩, sd_grown n5.out _, Nat.le_refl _, n1.out, n4.out⟩
 case hAx =>
  rintro x a' u V V' row ⟨g, hg, ha, hc⟩ hgr hrw
  refine ⟨g, hg, ha, (hgr.block g (blk_lt hc) fun er => ?_).trans hc⟩
  obtain ⟨_, o, ho, hcs⟩ := hrw g er.symm
  rw [hc] at ho
  cases ho
  cases hcs
 case stop =>
  rintro D c pre V _ _ h _
  exact h.elim
 case body =>
  rintro l pre x a' W hl ⟨rc, hlr⟩ hJ ⟨g, hg, rfl, hc⟩ hlen4
  dsimp only [regAct, Sd.boxv]
  obtain ⟨acc, v, e1, e2, e3, e4⟩ := hJ.row
  obtain ⟨A', c', rfl⟩ := sd_own_slice e3
  obtain ⟨rx, hrx⟩ := Sd.all_mem hr x.1 x.2
  have hBW : Below w0.heap.size w0 W := Below.grown hB hJ.grown hB.size (fun k e => sd_own_base HR.out k e)
  have hla := Sd.all_len (Sd.region_len k st lo hi at_ d) e1
  have hl4 : (out ++ acc).length + 4 ^ d ≤ 1000000 := by
   rw [List.length_append]
   rw [List.length_map] at hla
   have h5 : pre.length * 4 ^ d ≤ 3 * 4 ^ d := Nat.mul_le_mul_right _ (by omega)
   rw [Nat.pow_succ] at hlen
   omega
  have HIH := zam (CallsIn.inRound l ((callsIn_wide (n := 5 - 1 - 1 - 1)).2 (ih x.1 rx (out ++ acc) (.slice A' (out ++ acc).length c') W hrx hBW e3 hl4)))
  have ST := zam (fun (W2 : World) (v' : Value) => RegIn.step (W2 := W2) (v' := v') (x := x.1) (rx := rx) U.heap.size hJ e1 e2 e3 e4 hrx)
  have hz0 := (zkc hJ.hh 0).trans rfl
  have hz1 := (zkc e2 0).trans rfl
  have hz2 := (zkc hJ.hd 0).trans rfl
  have hx0 := (zkc hc 0).trans rfl
  have hx1 := (zkc hc 1).trans rfl
  have hx2 := (zkc hc 2).trans rfl
  have hx3 := (zkc hc 3).trans rfl
  have wd : IntKind.i64.wrap (D - 1) = (d : Int) := by
   have := HD.out
   rw [i64_w, wrap_id (by omega) (by omega)]
   omega
  clear hrx hBW hla hl4 e1 e3 e4 hr ih hJ e2 hc hB hlr
  clear B2 B3 B4 hI hlen hl64 hlen4
  generalize (out ++ acc).length = L at *
  gi_wp2_with (gi_at_call 59; (refine HIH.out.mono ?_); rintro e W2 ⟨v', rfl, r1, r2, r3⟩; obtain ⟨A2, c2, rfl⟩ := sd_own_slice r1; obtain ⟨s1, s2, s3, s4⟩ := ST.out W2 _ r1 r2 r3 (by omega) (by omega) (by omega); clear hz0 hz1 hz2 hx0 hx1 hx2 hx3; have hw1 := (zkc s1 0).trans rfl; have hw2 := zkz s1 0; have S2 := zam s2; have S3 := zam s3; have S4 := zam s4; clear s1 s2 s3 s4 r1 r2 r3 ST HIH)
  have el : (out ++ acc ++ rx).length = out.length + (acc.length + rx.length) := by simp [Nat.add_assoc]
  rw [el] at S2 S3 S4
  refine ⟨S2.out, S3.out, ?_⟩
  show RegIn _ _ _ _ _ _ _ _ _ _ _ ((pre ++ [x]).map (fun x => x.1)) _
  rw [List.map_append]
  exact S4.out
 case done =>
  rintro Dd xs V hDd hS hJ hDV
  obtain ⟨acc, v, e1, e2, e3, e4⟩ := hJ.row
  obtain ⟨A', c', rfl⟩ := sd_own_slice e3
  have hz1 := (zkc e2 0).trans rfl
  have hacc : acc = r := by
   rw [hS, hr] at e1
   exact (zsi e1).symm
  subst hacc
  have GR := zam hJ.grown
  have E3 := zam e3
  have E4 := zam e4
  have E2 := zam e2
  clear e1 e2 e3 e4 hJ hr ih
  generalize hL : (out ++ acc).length = L at hz1 E3 E4 E2
  have HL := zam hL
  clear hL
  gi_wp2
  have hDU : w.heap.size ≤ Dd := Nat.le_trans n5.out.size hDd
  have hne : Dd ≠ w.heap.size + 1 := by
   intro e
   rw [e] at hDV
   have := E2.out
   rw [hDV] at this
   cases this
  refine ⟨by simp, .inl ⟨Dd, V.putObj Dd (.deferred none), rfl, run_takeDeferred hDV, ⟨_, sd_results_tmp rfl _ _ (.slice A' L c') rfl, ⟨_, rfl, (by rw [HL.out]; exact ownsRow_putObj E3.out _ hDV rfl), ?_, E4.out⟩⟩⟩⟩
  refine ⟨GR.out.os, GR.out.tape, GR.out.output, by simpa [World.putObj] using GR.out.size, fun k hk hk2 => ?_⟩
  have h1 : Dd ≠ k := by omega
  refine Eq.trans ?_ (GR.out.block k hk hk2)
  simp [World.putObj, h1]
end Go.Proofs.Ytaheamdoldiojaa.P
namespace Go.Proofs.Ytaheamdoldiojaa.P
open Go.RowKit Go.Proofs.YtaheamdoldiojaaW.PrintWords Go.Proofs.YtaheamdoldiojaaW.PrintLast Go.Proofs.YtaheamdoldiojaaW.PrintMore
attribute [local go_sem] max2_int min2_int max_two min_two max_three min_three max_four min_four   -- for this text's walks alone
set_option linter.unusedVariables false
set_option linter.unusedSimpArgs false
theorem sound_region_calls (k gs : Nat) (st : List S29) (lo hi : Int) (at_ : List S24) (hl64 : at_.length ≤ 64) (w0 : World) (hI : IsHeard w0 gs st lo hi at_) : ∀ d : Nat, d ≤ 5 → ∀ (x : S29) (r out : List S29) (v : Value) (w : World), Sd.region k st lo hi at_ d x = some r → Below w0.heap.size w0 w → w.ownsRow w0.heap.size 29 4 v out.length (Sd.flat out) → out.length + 4 ^ d ≤ 1000000 →
  Calls Try.prog 59 #[.pointer (some ⟨gs, 0, none⟩), v, Sd.boxv x, .int .i64 (d : Int)] w (Grew w0.heap.size out r v w)
 | 0, _, x, r, out, v, w, h, hB, hrow, hlen => by
  obtain ⟨⟨b0, b1⟩, ⟨b2, b3⟩⟩ := x
  rw [Sd.region] at h
  obtain ⟨⟨t1, t2, tb⟩, ho, h⟩ := Option.bind_eq_some_iff.mp h
  cases tb
  ·simp only [Bool.false_eq_true, if_false, Option.some.injEq] at h
   subst h
   exact sound_region_out k gs st lo hi at_ hl64 _ b0 b1 b2 b3 t1 t2 out _ v w (hI.below hB) hrow ho
  rw [if_pos rfl, Option.some.injEq] at h
  subst h
  exact sound_region_leaf k gs st lo hi at_ hl64 b0 b1 b2 b3 t1 t2 out (by simp at hlen; omega) _ v w hB.size (hI.below hB) hrow ho
 | d + 1, hd, x, r, out, v, w, h, hB, hrow, hlen => by
  have ih := sound_region_calls k gs st lo hi at_ hl64 w0 hI d (by omega)
  obtain ⟨⟨b0, b1⟩, ⟨b2, b3⟩⟩ := x
  rw [Sd.region] at h
  obtain ⟨⟨t1, t2, tb⟩, ho, h⟩ := Option.bind_eq_some_iff.mp h
  cases tb
  ·simp only [Bool.false_eq_true, if_false, Option.some.injEq] at h
   subst h
   exact sound_region_out k gs st lo hi at_ hl64 _ b0 b1 b2 b3 t1 t2 out _ v w (hI.below hB) hrow ho
  rw [if_pos rfl] at h
  exact sound_region_node k gs st lo hi at_ hl64 d (by omega) w0 hI ih ((d + 1 : Nat) : Int) b0 b1 b2 b3 t1 t2 (by omega) out r v w hB hrow hlen ho h
theorem box_of_own {e : Nat} {w : World} {base : Nat} {ok : Nat → Prop} {v : Value} {xs : List S29} (h : w.ownsRow base e 4 v xs.length (Sd.flat xs)) (hok : ∀ k, v.ownBlock = some k → ok k) : Kd.R k29 e w base ok v xs := by
 refine ⟨hok, _, h, ⟨Sd.flat_length xs, fun j p hj => ?_⟩⟩
 have key : ∀ (xs : List S29) (j : Nat) (p : S29), xs[j]? = some p → ((Sd.flat xs).drop (j * 4)).take 4 = [.int .i64 p.f0.f0, .int .i64 p.f0.f1, .int .i64 p.f1.f0, .int .i64 p.f1.f1] := by
  intro xs
  induction xs with
  | nil => intro j p h; simp at h
  | cons x xs ih =>
   intro j p h
   cases j with
   | zero =>
    obtain rfl : x = p := by simpa using h
    simp [Sd.flat]
   | succ j =>
    rw [show (j + 1) * 4 = j * 4 + 1 + 1 + 1 + 1 by omega, Sd.flat]
    simp only [List.drop_succ_cons]
    exact ih j p (by simpa using h)
 show k29.M _ _ _ p (((Sd.flat xs).drop (j * 4)).take 4)
 rw [key xs j p hj]
 exact k29_mkM _ _ _ p
def sound_Region.f (k : Nat) (l0_0 : List (S29)) (a0_1 : Int) (a0_2 : Int) (l1 : List (S24)) (a2_0 : Int) (a2_1 : Int) (a2_2 : Int) (a2_3 : Int) (a3 : Int) : Option (List S29 × Int) :=
 (sound_newHeard.f k l0_0 a0_1 a0_2 l1 a2_0 a2_1 a2_2 a2_3).bind fun t => if t = 0 then (if a3 < 0 then some ([], 3) else if 5 < a3 then some ([], 3) else (Sd.region k l0_0 a0_1 a0_2 l1 a3.toNat ⟨⟨a2_0, a2_1⟩, ⟨a2_2, a2_3⟩⟩).bind fun r => some (r, 0)) else some ([], t)
set_option maxHeartbeats 16000000 in
set_option maxRecDepth 100000 in
theorem sound_Region.calls (k : Nat) (A0_0 : Option Addr) (c0_0 : Nat) (l0_0 : List (S29)) (a0_1 : Int) (a0_2 : Int) (A1 : Option Addr) (c1 : Nat) (l1 : List (S24)) (a2_0 : Int) (a2_1 : Int) (a2_2 : Int) (a2_3 : Int) (a3 : Int) (r1 : List (S29)) (r2 : Int) (w : World) (hr0_0 : Kd.C k29 w A0_0 l0_0.length l0_0) (hc0_0 : l0_0.length ≤ c0_0) (hr1 : Kd.C k24 w A1 l1.length l1) (hc1 : l1.length ≤ c1) (h : sound_Region.f k l0_0 a0_1 a0_2 l1 a2_0 a2_1 a2_2 a2_3 a3 = some (r1, r2)) :
  Calls Try.prog 15 #[.agg #[.slice A0_0 l0_0.length c0_0, .int .i64 a0_1, .int .i64 a0_2], .slice A1 l1.length c1, .agg #[.int .i64 a2_0, .int .i64 a2_1, .int .i64 a2_2, .int .i64 a2_3], .int .i64 a3] w fun e w' => ∃ v0_ : Value, e = .returned (.tuple #[v0_, .int .i64 r2]) ∧ Kd.R k29 29 w' w.heap.size (fun _ => True) v0_ r1 ∧ Below w.heap.size w w' := by
 have hu26 := Try.underlying26
 have hu29 := Try.underlying29
 have hu24 := Try.underlying24
 unfold sound_Region.f at h
 obtain ⟨t, ht, h⟩ := Option.bind_eq_some_iff.mp h
 have NH := zam (fun (w1 : World) (hb1 : Below w.heap.size w w1) => sound_newHeard.calls k A0_0 c0_0 l0_0 a0_1 a0_2 A1 c1 l1 a2_0 a2_1 a2_2 a2_3 t w1 (Kd.C_below hr0_0 hb1) hc0_0 (Kd.C_below hr1 hb1) hc1 ht)
 have HT := zam ht
 clear hr0_0 hr1 ht
 go_enter Try.func15, Try.ntmps15
 by_cases c0 : t = 0
 ·subst c0
  rw [if_pos rfl] at h
  by_cases c1' : a3 < 0
  ·rw [if_pos c1'] at h
   simp only [Option.some.injEq, Prod.mk.injEq] at h
   obtain ⟨rfl, rfl⟩ := h
   have d1 : decide (a3 < 0) = true := zdt c1'
   clear c1'
   go_wp2_with (first | ((with_reducible refine zgd (N := 4) rfl ?_); refine box_event ?hg (N := 4) ?hd (cs := #[.slice A0_0 l0_0.length c0_0, .int .i64 a0_1, .int .i64 a0_2]) (t := 26) ?hr ?_; (case hd => rfl); (case hg => rfl); (case hr => first | (go_simp; done) | (go_simp; rfl)); intro gn hgn_ wqgn hbk hb0; have HB := zam hb0; have Bgn := zam hbk; clear hgn_ hbk hb0) | ((with_reducible refine zgd (N := 6) rfl ?_); refine box_event ?hg (N := 6) ?hd (cs := #[.int .i64 a2_0, .int .i64 a2_1, .int .i64 a2_2, .int .i64 a2_3]) (t := 29) ?hr ?_; (case hd => rfl); (case hg => rfl); (case hr => first | (go_simp; done) | (go_simp; rfl)); intro gb hgn_ wqgb hbk hb0; have mb_ := zam (zbt HB.out hb0); clear HB; have HB := mb_; clear mb_; have m_ := zam (zkb Bgn.out hb0); clear Bgn; have Bgn := m_; clear m_; have Bgb := zam hbk; clear hgn_ hbk hb0; have hz0 := (zkc Bgn.out 0).trans rfl; have hz1 := (zkc Bgn.out 1).trans rfl; have hz2 := (zkc Bgn.out 2).trans rfl; have hy0 := (zkc Bgb.out 0).trans rfl; have hy1 := (zkc Bgb.out 1).trans rfl; have hy2 := (zkc Bgb.out 2).trans rfl; have hy3 := (zkc Bgb.out 3).trans rfl) | (go_at_call 58; (with_reducible refine (NH.out _ HB.out).mono ?_); intro e w3 hnh; obtain ⟨g, rfl, hS, hb1⟩ := hnh.of_zero; clear hnh; clear hz0 hz1 hz2 hy0 hy1 hy2 hy3; have HH := zam (IsHeard.of_state hS hb1); clear hS Bgn; have m0_ := zam (zkb Bgb.out hb1); have mb_ := zam (zbt HB.out hb1); clear HB hb1 Bgb; have HB := mb_; have Bgb := m0_; clear mb_ m0_; have hy0 := (zkc Bgb.out 0).trans rfl; have hy1 := (zkc Bgb.out 1).trans rfl; have hy2 := (zkc Bgb.out 2).trans rfl; have hy3 := (zkc Bgb.out 3).trans rfl; skip))
   go_ret2
   exact ⟨.slice none 0 0, rfl, Kd.R_nil _ _ _ _ _, HB.out⟩
  rw [if_neg c1'] at h
  have d1 : decide (a3 < 0) = false := zdf c1'
  by_cases c2 : 5 < a3
  ·rw [if_pos c2] at h
   simp only [Option.some.injEq, Prod.mk.injEq] at h
   obtain ⟨rfl, rfl⟩ := h
   have d2 : decide (5 < a3) = true := zdt c2
   have d3 : decide (a3 > 5) = true := zdt c2
   clear c1' c2
   go_wp2_with (first | ((with_reducible refine zgd (N := 4) rfl ?_); refine box_event ?hg (N := 4) ?hd (cs := #[.slice A0_0 l0_0.length c0_0, .int .i64 a0_1, .int .i64 a0_2]) (t := 26) ?hr ?_; (case hd => rfl); (case hg => rfl); (case hr => first | (go_simp; done) | (go_simp; rfl)); intro gn hgn_ wqgn hbk hb0; have HB := zam hb0; have Bgn := zam hbk; clear hgn_ hbk hb0) | ((with_reducible refine zgd (N := 6) rfl ?_); refine box_event ?hg (N := 6) ?hd (cs := #[.int .i64 a2_0, .int .i64 a2_1, .int .i64 a2_2, .int .i64 a2_3]) (t := 29) ?hr ?_; (case hd => rfl); (case hg => rfl); (case hr => first | (go_simp; done) | (go_simp; rfl)); intro gb hgn_ wqgb hbk hb0; have mb_ := zam (zbt HB.out hb0); clear HB; have HB := mb_; clear mb_; have m_ := zam (zkb Bgn.out hb0); clear Bgn; have Bgn := m_; clear m_; have Bgb := zam hbk; clear hgn_ hbk hb0; have hz0 := (zkc Bgn.out 0).trans rfl; have hz1 := (zkc Bgn.out 1).trans rfl; have hz2 := (zkc Bgn.out 2).trans rfl; have hy0 := (zkc Bgb.out 0).trans rfl; have hy1 := (zkc Bgb.out 1).trans rfl; have hy2 := (zkc Bgb.out 2).trans rfl; have hy3 := (zkc Bgb.out 3).trans rfl) | (go_at_call 58; (with_reducible refine (NH.out _ HB.out).mono ?_); intro e w3 hnh; obtain ⟨g, rfl, hS, hb1⟩ := hnh.of_zero; clear hnh; clear hz0 hz1 hz2 hy0 hy1 hy2 hy3; have HH := zam (IsHeard.of_state hS hb1); clear hS Bgn; have m0_ := zam (zkb Bgb.out hb1); have mb_ := zam (zbt HB.out hb1); clear HB hb1 Bgb; have HB := mb_; have Bgb := m0_; clear mb_ m0_; have hy0 := (zkc Bgb.out 0).trans rfl; have hy1 := (zkc Bgb.out 1).trans rfl; have hy2 := (zkc Bgb.out 2).trans rfl; have hy3 := (zkc Bgb.out 3).trans rfl; skip))
   go_ret2
   exact ⟨.slice none 0 0, rfl, Kd.R_nil _ _ _ _ _, HB.out⟩
  rw [if_neg c2] at h
  have d2 : decide (5 < a3) = false := zdf c2
  have d3 : decide (a3 > 5) = false := zdf c2
  obtain ⟨d, rfl⟩ : ∃ d : Nat, a3 = (d : Int) := ⟨a3.toNat, by omega⟩
  rw [Int.toNat_natCast] at h
  obtain ⟨rr, hr, h⟩ := Option.bind_eq_some_iff.mp h
  simp only [Option.some.injEq, Prod.mk.injEq] at h
  obtain ⟨rfl, rfl⟩ := h
  have hd5 : d ≤ 5 := by omega
  have hp : 4 ^ d ≤ 1000000 := Nat.le_trans (Nat.pow_le_pow_right (by omega) hd5) (by decide)
  have RG := zam (fun (g : Nat) (w1 : World) (hI : IsHeard w1 g l0_0 a0_1 a0_2 l1) => sound_region_calls k g l0_0 a0_1 a0_2 l1 (by have := sound_newHeard.len HT.out; omega) w1 hI d hd5 ⟨⟨a2_0, a2_1⟩, ⟨a2_2, a2_3⟩⟩ rr [] (.slice none 0 0) w1 hr (Below.refl _ _) (World.ownsRow_nil _ _ _ _) (by simpa using hp))
  dsimp only [Sd.boxv] at RG
  clear hr hp c1' c2 hd5
  go_wp2_with (first | ((with_reducible refine zgd (N := 4) rfl ?_); refine box_event ?hg (N := 4) ?hd (cs := #[.slice A0_0 l0_0.length c0_0, .int .i64 a0_1, .int .i64 a0_2]) (t := 26) ?hr ?_; (case hd => rfl); (case hg => rfl); (case hr => first | (go_simp; done) | (go_simp; rfl)); intro gn hgn_ wqgn hbk hb0; have HB := zam hb0; have Bgn := zam hbk; clear hgn_ hbk hb0) | ((with_reducible refine zgd (N := 6) rfl ?_); refine box_event ?hg (N := 6) ?hd (cs := #[.int .i64 a2_0, .int .i64 a2_1, .int .i64 a2_2, .int .i64 a2_3]) (t := 29) ?hr ?_; (case hd => rfl); (case hg => rfl); (case hr => first | (go_simp; done) | (go_simp; rfl)); intro gb hgn_ wqgb hbk hb0; have mb_ := zam (zbt HB.out hb0); clear HB; have HB := mb_; clear mb_; have m_ := zam (zkb Bgn.out hb0); clear Bgn; have Bgn := m_; clear m_; have Bgb := zam hbk; clear hgn_ hbk hb0; have hz0 := (zkc Bgn.out 0).trans rfl; have hz1 := (zkc Bgn.out 1).trans rfl; have hz2 := (zkc Bgn.out 2).trans rfl; have hy0 := (zkc Bgb.out 0).trans rfl; have hy1 := (zkc Bgb.out 1).trans rfl; have hy2 := (zkc Bgb.out 2).trans rfl; have hy3 := (zkc Bgb.out 3).trans rfl) | (go_at_call 58; (with_reducible refine (NH.out _ HB.out).mono ?_); intro e w3 hnh; obtain ⟨g, rfl, hS, hb1⟩ := hnh.of_zero; clear hnh; clear hz0 hz1 hz2 hy0 hy1 hy2 hy3; have HH := zam (IsHeard.of_state hS hb1); clear hS Bgn; have m0_ := zam (zkb Bgb.out hb1); have mb_ := zam (zbt HB.out hb1); clear HB hb1 Bgb; have HB := mb_; have Bgb := m0_; clear mb_ m0_; have hy0 := (zkc Bgb.out 0).trans rfl; have hy1 := (zkc Bgb.out 1).trans rfl; have hy2 := (zkc Bgb.out 2).trans rfl; have hy3 := (zkc Bgb.out 3).trans rfl; skip) | (go_at_call 59; (with_reducible refine (RG.out g _ HH.out).mono ?_); rintro e w4 ⟨v', rfl, h1, h2, h3⟩; have HO := zam (own_weaken h1 HB.out.size); have mb_ := zam (zbt HB.out (⟨h2.os, h2.tape, h2.output, h2.size, fun k hk => h2.block k hk (by intro e_; cases e_)⟩ : Below _ _ w4)); clear HB h1 h2 h3 HH; have HB := mb_; clear mb_))
  go_ret2
  exact ⟨v', rfl, box_of_own HO.out (fun _ _ => trivial), HB.out⟩
 have d1 : (t != 0) = true := bne_iff_ne.mpr c0
 rw [if_neg c0] at h
 simp only [Option.some.injEq, Prod.mk.injEq] at h
 obtain ⟨rfl, rfl⟩ := h
 have C0 := zam c0
 clear c0
 go_wp2_with (first | ((with_reducible refine zgd (N := 4) rfl ?_); refine box_event ?hg (N := 4) ?hd (cs := #[.slice A0_0 l0_0.length c0_0, .int .i64 a0_1, .int .i64 a0_2]) (t := 26) ?hr ?_; (case hd => rfl); (case hg => rfl); (case hr => first | (go_simp; done) | (go_simp; rfl)); intro gn hgn_ wqgn hbk hb0; have HB := zam hb0; have Bgn := zam hbk; clear hgn_ hbk hb0) | ((with_reducible refine zgd (N := 6) rfl ?_); refine box_event ?hg (N := 6) ?hd (cs := #[.int .i64 a2_0, .int .i64 a2_1, .int .i64 a2_2, .int .i64 a2_3]) (t := 29) ?hr ?_; (case hd => rfl); (case hg => rfl); (case hr => first | (go_simp; done) | (go_simp; rfl)); intro gb hgn_ wqgb hbk hb0; have mb_ := zam (zbt HB.out hb0); clear HB; have HB := mb_; clear mb_; have m_ := zam (zkb Bgn.out hb0); clear Bgn; have Bgn := m_; clear m_; have Bgb := zam hbk; clear hgn_ hbk hb0; have hz0 := (zkc Bgn.out 0).trans rfl; have hz1 := (zkc Bgn.out 1).trans rfl; have hz2 := (zkc Bgn.out 2).trans rfl; have hy0 := (zkc Bgb.out 0).trans rfl; have hy1 := (zkc Bgb.out 1).trans rfl; have hy2 := (zkc Bgb.out 2).trans rfl; have hy3 := (zkc Bgb.out 3).trans rfl) | (go_at_call 58; (with_reducible refine (NH.out _ HB.out).mono ?_); intro e w3 hnh; obtain ⟨rfl, hb1⟩ := hnh.of_ne C0.out; clear hnh; clear hz0 hz1 hz2 hy0 hy1 hy2 hy3; have mb_ := zam (zbt HB.out hb1); clear HB hb1; have HB := mb_; clear mb_; skip))
 go_ret2
 exact ⟨.slice none 0 0, rfl, Kd.R_nil _ _ _ _ _, HB.out⟩
def Sp.half (a b : Int) : List S24 := if a = b then [⟨a, b⟩] else [⟨a, (a + b) / 2⟩, ⟨(a + b) / 2, b⟩]
def Sp.parts (b : S29) : List S29 := (Sp.half b.f1.f0 b.f1.f1).flatMap fun y => (Sp.half b.f0.f0 b.f0.f1).map fun x => ⟨x, y⟩
theorem Sp.half_eq {a b : Int} (h1 : -1073741824 ≤ a) (h2 : a ≤ 1073741824) (h3 : -1073741824 ≤ b) (h4 : b ≤ 1073741824) : Sd.half a b = Sp.half a b := by
 unfold Sd.half Sp.half
 rw [wrap_id (by omega) (by omega)]
theorem Sp.vb_bd {b : S29} (h : Sp.vb b = true) : b.f0.f0 ≤ b.f0.f1 ∧ b.f1.f0 ≤ b.f1.f1 ∧ -268435456 ≤ b.f0.f0 ∧ b.f0.f1 ≤ 268435456 ∧ -268435456 ≤ b.f1.f0 ∧ b.f1.f1 ≤ 268435456 := by
 have := (zod h : Bo.vb b.f0.f0 b.f0.f1 b.f1.f0 b.f1.f1)
 exact ⟨this.1.1, this.2.1.1, this.2.2.1, this.2.2.2.1, this.2.2.2.2.1, this.2.2.2.2.2⟩
theorem Sp.vb_mk {b : S29} (h : b.f0.f0 ≤ b.f0.f1 ∧ b.f1.f0 ≤ b.f1.f1 ∧ -268435456 ≤ b.f0.f0 ∧ b.f0.f1 ≤ 268435456 ∧ -268435456 ≤ b.f1.f0 ∧ b.f1.f1 ≤ 268435456) : Sp.vb b = true := by
 obtain ⟨h1, h2, h3, h4, h5, h6⟩ := h
 exact zdt ⟨⟨h1, by omega, by omega⟩, ⟨h2, by omega, by omega⟩, h3, h4, h5, h6⟩
theorem Sp.parts_eq {b : S29} (h : Sp.vb b = true) : Sd.parts b.f0.f0 b.f0.f1 b.f1.f0 b.f1.f1 = Sp.parts b := by
 have := Sp.vb_bd h
 unfold Sd.parts Sp.parts
 rw [Sp.half_eq (by omega) (by omega) (by omega) (by omega), Sp.half_eq (by omega) (by omega) (by omega) (by omega)]
 rfl
theorem Sp.half_in {a b : Int} (h : a ≤ b) {s : S24} (hs : s ∈ Sp.half a b) : a ≤ s.f0 ∧ s.f0 ≤ s.f1 ∧ s.f1 ≤ b := by
 unfold Sp.half at hs
 split at hs
 ·simp at hs
  subst hs
  exact ⟨Int.le_refl _, h, Int.le_refl _⟩
 simp at hs
 rcases hs with rfl | rfl
 ·dsimp only
  omega
 dsimp only
 omega
theorem Sp.part_in {b p : S29} (h : Sp.vb b = true) (hp : p ∈ Sp.parts b) : b.f0.f0 ≤ p.f0.f0 ∧ p.f0.f0 ≤ p.f0.f1 ∧ p.f0.f1 ≤ b.f0.f1 ∧ b.f1.f0 ≤ p.f1.f0 ∧ p.f1.f0 ≤ p.f1.f1 ∧ p.f1.f1 ≤ b.f1.f1 := by
 have B := Sp.vb_bd h
 unfold Sp.parts at hp
 obtain ⟨y, hy, hp⟩ := List.mem_flatMap.1 hp
 obtain ⟨x, hx, rfl⟩ := List.mem_map.1 hp
 have h1 := Sp.half_in B.1 hx
 have h2 := Sp.half_in B.2.1 hy
 exact ⟨h1.1, h1.2.1, h1.2.2, h2.1, h2.2.1, h2.2.2⟩
theorem Sp.part_vb {b p : S29} (h : Sp.vb b = true) (hp : p ∈ Sp.parts b) : Sp.vb p = true := by
 have B := Sp.vb_bd h
 have P := Sp.part_in h hp
 exact Sp.vb_mk (by omega)
theorem Sp.parts_len (b : S29) : 1 ≤ (Sp.parts b).length ∧ (Sp.parts b).length ≤ 4 := by
 unfold Sp.parts Sp.half
 split <;> split <;> simp
def Sp.in_ (st : List S29) (lo hi : Int) (at_ : List S24) (b : S29) : Bool := decide ((Sp.org st lo hi at_ b).1 ≤ (Sp.org st lo hi at_ b).2)
def Sp.reg (st : List S29) (lo hi : Int) (at_ : List S24) : Nat → S29 → List S29
 | 0, b => if Sp.in_ st lo hi at_ b = true then [b] else []
 | d + 1, b => if Sp.in_ st lo hi at_ b = true then (Sp.parts b).flatMap (Sp.reg st lo hi at_ d) else []
theorem Sp.all_map {f : S29 → Option (List S29)} {g : S29 → List S29} : ∀ xs : List S29, (∀ x ∈ xs, f x = some (g x)) → Sd.all f xs = some (xs.flatMap g)
 | [], _ => rfl
 | x :: xs, h => by
  rw [Sd.all, h x (by simp), Option.bind_some, Sp.all_map xs (fun y hy => h y (by simp [hy])), Option.bind_some, List.flatMap_cons]
theorem Sp.reg_b {st : List S29} {lo hi : Int} {at_ : List S24} (h : Sp.Acc st lo hi at_) {k : Nat} (hk : 20 ≤ k) : ∀ (d : Nat) (b : S29), Sp.vb b = true → Sd.region k st lo hi at_ d b = some (Sp.reg st lo hi at_ d b)
 | 0, b, hb => by
  rw [Sd.region, Sp.reg, Sp.org_b h hb hk, Option.bind_some]
  unfold Sp.in_
  split <;> rfl
 | d + 1, b, hb => by
  rw [Sd.region, Sp.reg, Sp.org_b h hb hk, Option.bind_some, Sp.parts_eq hb]
  unfold Sp.in_
  split
  ·exact Sp.all_map _ (fun x hx => Sp.reg_b h hk d x (Sp.part_vb hb hx))
  rfl
theorem Sp.reg_len (st : List S29) (lo hi : Int) (at_ : List S24) : ∀ (d : Nat) (b : S29), (Sp.reg st lo hi at_ d b).length ≤ 4 ^ d
 | 0, b => by
  rw [Sp.reg]
  split <;> simp
 | d + 1, b => by
  rw [Sp.reg]
  split
  ·have hl := (Sp.parts_len b).2
   have : ∀ xs : List S29, (xs.flatMap (Sp.reg st lo hi at_ d)).length ≤ xs.length * 4 ^ d := by
    intro xs
    induction xs with
    | nil => simp
    | cons x xs ih =>
     have := Sp.reg_len st lo hi at_ d x
     rw [List.flatMap_cons, List.length_append, List.length_cons, Nat.succ_mul]
     omega
   have h2 := this (Sp.parts b)
   have h3 := Nat.mul_le_mul_right (4 ^ d) hl
   rw [Nat.pow_succ]
   omega
  simp
def Sp.region (st : List S29) (lo hi : Int) (at_ : List S24) (b : S29) (d : Int) : List S29 × Int :=
 if Sp.heard st lo hi at_ b = 0 then (if 0 ≤ d ∧ d ≤ 5 then (Sp.reg st lo hi at_ d.toNat b, 0) else ([], 3)) else ([], Sp.heard st lo hi at_ b)
theorem Sp.region_b (st : List S29) (lo hi : Int) (at_ : List S24) (b : S29) (d : Int) {k : Nat} (hk : 60 ≤ k) : sound_Region.f k st lo hi at_ b.f0.f0 b.f0.f1 b.f1.f0 b.f1.f1 d = some (Sp.region st lo hi at_ b d) := by
 unfold sound_Region.f Sp.region
 rw [Sp.heard_b _ _ _ _ _ hk, Option.bind_some]
 by_cases h : Sp.heard st lo hi at_ b = 0
 ·obtain ⟨A, hb⟩ := Sp.heard_ok h
  rw [if_pos h, if_pos h]
  by_cases h1 : d < 0
  ·rw [if_pos h1, if_neg (by omega)]
  rw [if_neg h1]
  by_cases h2 : 5 < d
  ·rw [if_pos h2, if_neg (by omega)]
  rw [if_neg h2, if_pos (by omega)]
  have e := Sp.reg_b A (k := k) (by omega) d.toNat b hb
  have eb : (⟨⟨b.f0.f0, b.f0.f1⟩, ⟨b.f1.f0, b.f1.f1⟩⟩ : S29) = b := rfl
  rw [eb, e]
  rfl
 rw [if_neg h, if_neg h]
theorem Sp.halves_r (a b : Int) (h1 : -1073741824 ≤ a) (h2 : a ≤ 1073741824) (h3 : -1073741824 ≤ b) (h4 : b ≤ 1073741824) {k : Nat} (hk : 20 ≤ k) : isobathref07_halves.f k a b = some (Sp.half a b) := by
 unfold isobathref07_halves.f Sp.half
 by_cases c : a = b
 ·rw [if_pos c, if_pos c]
 rw [if_neg c, if_neg c, wrap_id (by omega) (by omega), Bo.down_f (by decide) (by omega) (by omega) (by decide) (by decide) hk, Bo.fl_pos (by decide)]
 rfl
def Sp.prow (xs : List S24) (y : S24) : List S29 := xs.map fun x => ⟨x, y⟩
theorem Sp.parts_l1 (xs ys : List S24) (hx : xs.length ≤ 2) (hy : ys.length ≤ 2) (j : Nat) (hj : j < ys.length) (acc : List S29) (ha : acc.length ≤ 4) : ∀ (n i K : Nat), i + n = xs.length → isobathref07_Parts.l1 (K + n + 1) (acc ++ Sp.prow (xs.take i) ys[j]) xs ys (j : Int) (i : Int) = isobathref07_Parts.l0 K (acc ++ Sp.prow xs ys[j]) xs ys ((j + 1 : Nat) : Int)
 | 0, i, K, hi => by
  rw [show K + 0 + 1 = K + 1 by omega, isobathref07_Parts.l1, if_neg (by omega), List.take_of_length_le (by omega), wrap_succ hj (by omega)]
 | n + 1, i, K, hi => by
  have hlt : i < xs.length := by omega
  have ih := Sp.parts_l1 xs ys hx hy j hj acc ha n (i + 1) K (by omega)
  rw [take_snoc hlt] at ih
  unfold Sp.prow at ih ⊢
  rw [List.map_append, ← List.append_assoc] at ih
  rw [show K + (n + 1) + 1 = (K + n + 1) + 1 by omega, isobathref07_Parts.l1, if_pos (by omega), if_pos (by omega), if_pos (by omega), if_pos (by omega), if_pos (by simp; omega), wrap_succ hlt (by omega), Sp.rdT xs i hlt, Sp.rdT ys j hj]
  exact ih
theorem Sp.parts_l0 (xs ys : List S24) (hx : xs.length ≤ 2) (hy : ys.length ≤ 2) : ∀ (n j K : Nat), j + n = ys.length → isobathref07_Parts.l0 (K + 1 + n * (xs.length + 2)) ((ys.take j).flatMap (Sp.prow xs)) xs ys (j : Int) = some (ys.flatMap (Sp.prow xs))
 | 0, j, K, hj => by
  rw [show K + 1 + 0 * (xs.length + 2) = K + 1 by omega, isobathref07_Parts.l0, if_neg (by omega), List.take_of_length_le (by omega)]
 | n + 1, j, K, hj => by
  have hlt : j < ys.length := by omega
  have ih := Sp.parts_l0 xs ys hx hy n (j + 1) K (by omega)
  have hacc : ((ys.take j).flatMap (Sp.prow xs)).length ≤ 4 := by
   have e : ∀ zs : List S24, (zs.flatMap (Sp.prow xs)).length = zs.length * xs.length := by
    intro zs
    induction zs with
    | nil => simp
    | cons z zs ih2 => rw [List.flatMap_cons, List.length_append, ih2, List.length_cons, Nat.succ_mul]; unfold Sp.prow; simp; omega
   rw [e, zlt]
   have := Nat.mul_le_mul (show min j ys.length ≤ 2 by omega) hx
   omega
  have h1 := Sp.parts_l1 xs ys hx hy j hlt ((ys.take j).flatMap (Sp.prow xs)) hacc xs.length 0 (K + 1 + n * (xs.length + 2)) (by omega)
  rw [take_snoc hlt, List.flatMap_append] at ih
  rw [show K + 1 + (n + 1) * (xs.length + 2) = (K + 1 + n * (xs.length + 2) + xs.length + 1) + 1 by rw [Nat.succ_mul]; omega, isobathref07_Parts.l0, if_pos (by omega)]
  have e0 : Sp.prow (xs.take 0) ys[j] = [] := by simp [Sp.prow]
  rw [e0, List.append_nil] at h1
  refine h1.trans ?_
  simpa using ih
theorem Sp.half_len (a b : Int) : (Sp.half a b).length ≤ 2 := by
 unfold Sp.half
 split <;> simp
theorem Sp.parts_r {b : S29} (h : Sp.vb b = true) {k : Nat} (hk : 20 ≤ k) : isobathref07_Parts.f k b.f0.f0 b.f0.f1 b.f1.f0 b.f1.f1 = some (Sp.parts b) := by
 have B := Sp.vb_bd h
 unfold isobathref07_Parts.f
 rw [Sp.halves_r _ _ (by omega) (by omega) (by omega) (by omega) hk, Option.bind_some, Sp.halves_r _ _ (by omega) (by omega) (by omega) (by omega) hk, Option.bind_some]
 have h1 := Sp.half_len b.f0.f0 b.f0.f1
 have h2 := Sp.half_len b.f1.f0 b.f1.f1
 have hm : (Sp.half b.f1.f0 b.f1.f1).length * ((Sp.half b.f0.f0 b.f0.f1).length + 2) ≤ 2 * 4 := Nat.mul_le_mul h2 (by omega)
 have g := Sp.parts_l0 (Sp.half b.f0.f0 b.f0.f1) (Sp.half b.f1.f0 b.f1.f1) h1 h2 (Sp.half b.f1.f0 b.f1.f1).length 0 (k - 1 - (Sp.half b.f1.f0 b.f1.f1).length * ((Sp.half b.f0.f0 b.f0.f1).length + 2)) (by omega)
 rw [show k - 1 - (Sp.half b.f1.f0 b.f1.f1).length * ((Sp.half b.f0.f0 b.f0.f1).length + 2) + 1 + (Sp.half b.f1.f0 b.f1.f1).length * ((Sp.half b.f0.f0 b.f0.f1).length + 2) = k by omega] at g
 exact g
theorem Sp.region_l0 {st : List S29} {lo hi : Int} {at_ : List S24} (d : Nat) (xs : List S29) (hx : xs.length ≤ 4) (hd : d ≤ 5) (K : Nat) (hr : ∀ x ∈ xs, ∀ k, K ≤ k → isobathref07_region.f k st lo hi at_ x.f0.f0 x.f0.f1 x.f1.f0 x.f1.f1 (d : Int) = some (Sp.reg st lo hi at_ d x)) : ∀ (n i k : Nat), i + n = xs.length → K + n + 1 ≤ k → isobathref07_region.l0 k at_ ((d : Int) + 1) ((xs.take i).flatMap (Sp.reg st lo hi at_ d)) xs (i : Int) st lo hi = some (xs.flatMap (Sp.reg st lo hi at_ d))
 | 0, i, k, hi', hk => by
  obtain ⟨k, rfl⟩ : ∃ m, k = m + 1 := ⟨k - 1, by omega⟩
  rw [isobathref07_region.l0, if_neg (by omega), List.take_of_length_le (by omega)]
 | n + 1, i, k, hi', hk => by
  obtain ⟨k, rfl⟩ : ∃ m, k = m + 1 := ⟨k - 1, by omega⟩
  have hlt : i < xs.length := by omega
  have ih := Sp.region_l0 d xs hx hd K hr n (i + 1) k (by omega) (by omega)
  have hlen : ((xs.take i).flatMap (Sp.reg st lo hi at_ d)).length + (Sp.reg st lo hi at_ d xs[i]).length < 4398046511104 := by
   have e : ∀ zs : List S29, (zs.flatMap (Sp.reg st lo hi at_ d)).length ≤ zs.length * 4 ^ d := by
    intro zs
    induction zs with
    | nil => simp
    | cons z zs ih2 =>
     have := Sp.reg_len st lo hi at_ d z
     rw [List.flatMap_cons, List.length_append, List.length_cons, Nat.succ_mul]
     omega
   have h1 := e (xs.take i)
   have h2 := Sp.reg_len st lo hi at_ d xs[i]
   have h3 : 4 ^ d ≤ 4 ^ 5 := Nat.pow_le_pow_right (by omega) hd
   have h4 : (xs.take i).length * 4 ^ d ≤ 4 * 4 ^ 5 := Nat.mul_le_mul (by simp; omega) h3
   omega
  rw [take_snoc hlt, List.flatMap_append] at ih
  rw [isobathref07_region.l0, if_pos (by omega), if_pos (by omega), Sp.rdB xs i hlt, wrap_id (n := (d : Int) + 1 - 1) (by omega) (by omega), show (d : Int) + 1 - 1 = (d : Int) by omega, hr _ (List.getElem_mem hlt) k (by omega), Option.bind_some, if_pos hlen, wrap_succ hlt (by omega)]
  simpa using ih
theorem Sp.reg_r {st : List S29} {lo hi : Int} {at_ : List S24} (h : Sp.Acc st lo hi at_) : ∀ (d : Nat), d ≤ 5 → ∀ b : S29, Sp.vb b = true → ∀ k, 80 + 8 * d ≤ k → isobathref07_region.f k st lo hi at_ b.f0.f0 b.f0.f1 b.f1.f0 b.f1.f1 (d : Int) = some (Sp.reg st lo hi at_ d b)
 | 0, _, b, hb, k, hk => by
  obtain ⟨k, rfl⟩ : ∃ m, k = m + 1 := ⟨k - 1, by omega⟩
  rw [isobathref07_region.f, Sp.out_r h hb (by omega), Option.bind_some, Sp.reg]
  unfold Sp.in_
  by_cases c : (Sp.org st lo hi at_ b).1 ≤ (Sp.org st lo hi at_ b).2
  ·rw [if_neg (by simpa using c), if_pos (by omega), if_pos (by simpa using c)]
  rw [if_pos (by simpa using c), if_neg (by simpa using c)]
 | d + 1, hd, b, hb, k, hk => by
  obtain ⟨k, rfl⟩ : ∃ m, k = m + 1 := ⟨k - 1, by omega⟩
  rw [isobathref07_region.f, Sp.out_r h hb (by omega), Option.bind_some, Sp.reg]
  unfold Sp.in_
  by_cases c : (Sp.org st lo hi at_ b).1 ≤ (Sp.org st lo hi at_ b).2
  ·rw [if_neg (by simpa using c), if_neg (by omega), if_pos (by simpa using c), Sp.parts_r hb (by omega), Option.bind_some]
   have hl := (Sp.parts_len b).2
   have g := Sp.region_l0 d (Sp.parts b) hl (by omega) (80 + 8 * d) (fun x hx k hk => Sp.reg_r h d (by omega) x (Sp.part_vb hb hx) k hk) (Sp.parts b).length 0 k (by omega) (by omega)
   have e : ((d + 1 : Nat) : Int) = (d : Int) + 1 := by omega
   rw [e]
   exact g
  rw [if_pos (by simpa using c), if_neg (by simpa using c)]
theorem Sp.region_r (st : List S29) (lo hi : Int) (at_ : List S24) (b : S29) (d : Int) {k : Nat} (hk : 200 ≤ k) : isobathref07_Region.f k st lo hi at_ b.f0.f0 b.f0.f1 b.f1.f0 b.f1.f1 d = some (Sp.region st lo hi at_ b d) := by
 unfold isobathref07_Region.f Sp.region
 rw [Sp.heard_r _ _ _ _ _ (by omega), Option.bind_some, Option.bind_some]
 by_cases h : Sp.heard st lo hi at_ b = 0
 ·obtain ⟨A, hb⟩ := Sp.heard_ok h
  rw [if_pos h, if_pos h]
  by_cases h1 : d < 0
  ·rw [if_pos h1, if_neg (by omega)]
  rw [if_neg h1]
  by_cases h2 : d > 5
  ·rw [if_pos h2, if_neg (by omega)]
  rw [if_neg h2, if_pos (by omega)]
  obtain ⟨m, rfl⟩ : ∃ m : Nat, d = (m : Int) := ⟨d.toNat, by omega⟩
  rw [Sp.reg_r A m (by omega) b hb k (by omega), Int.toNat_natCast]
  rfl
 rw [if_neg h, if_neg h]
theorem Sp.works_region : Sp.region [⟨⟨0, 0⟩, ⟨0, 0⟩⟩, ⟨⟨3000, 3000⟩, ⟨0, 0⟩⟩, ⟨⟨0, 0⟩, ⟨4000, 4000⟩⟩] 1500 1500 [⟨100, 100⟩, ⟨2100, 2100⟩, ⟨2767, 2767⟩] ⟨⟨0, 4000⟩, ⟨0, 4000⟩⟩ 1 = ([⟨⟨0, 2000⟩, ⟨0, 2000⟩⟩], 0) := by
 have h := Sp.region_r [⟨⟨0, 0⟩, ⟨0, 0⟩⟩, ⟨⟨3000, 3000⟩, ⟨0, 0⟩⟩, ⟨⟨0, 0⟩, ⟨4000, 4000⟩⟩] 1500 1500 [⟨100, 100⟩, ⟨2100, 2100⟩, ⟨2767, 2767⟩] ⟨⟨0, 4000⟩, ⟨0, 4000⟩⟩ 1 (k := 200) (by omega)
 have e : isobathref07_Region.f 200 [⟨⟨0, 0⟩, ⟨0, 0⟩⟩, ⟨⟨3000, 3000⟩, ⟨0, 0⟩⟩, ⟨⟨0, 0⟩, ⟨4000, 4000⟩⟩] 1500 1500 [⟨100, 100⟩, ⟨2100, 2100⟩, ⟨2767, 2767⟩] 0 4000 0 4000 1 = some ([⟨⟨0, 2000⟩, ⟨0, 2000⟩⟩], 0) := by
  with_unfolding_all rfl
 exact zsi (h.symm.trans e)
def isobathlaw07_point.f (a0 : Int) (a1 : Int) : Option (Int × Int × Int × Int) := some (a0, a0, a1, a1)
set_option maxHeartbeats 8000000 in
set_option maxRecDepth 100000 in
theorem isobathlaw07_point.calls (a0 : Int) (a1 : Int) (r1 : Int) (r2 : Int) (r3 : Int) (r4 : Int) (w : World) (h : isobathlaw07_point.f a0 a1 = some (r1, r2, r3, r4)) :
  Calls Try.prog 56 #[.int .i64 a0, .int .i64 a1] w fun e w' => e = .returned (.agg #[.int .i64 r1, .int .i64 r2, .int .i64 r3, .int .i64 r4]) ∧ Below w.heap.size w w' := by
 have hu29 := Try.underlying29
 have hu24 := Try.underlying24
 have HB := zam (Below.refl w.heap.size w)
 have H : (some (a0, a0, a1, a1)) = some (r1, r2, r3, r4) := h
 clear h
 simp only [Option.some.injEq, Prod.mk.injEq] at H
 obtain ⟨rfl, rfl, rfl, rfl⟩ := H
 go_enter Try.func56, Try.ntmps56
 go_wp2_with (first | ((with_reducible refine zgd (N := 4) rfl ?_); refine box_event ?hg (N := 4) ?hd (cs := #[.int .i64 0, .int .i64 0, .int .i64 0, .int .i64 0]) (t := 29) ?hr ?_; (case hd => rfl); (case hg => rfl); (case hr => first | (go_simp; done) | (go_simp; rfl)); intro gb101 hg w3 hbox hb; have n0_ := zam (zbt zq1 hb); have n1_ := zam (hbox); have n2_ := zam ((by rw [hg]; exact (zbz zq1) : w.heap.size ≤ gb101)); have n3_ := zam ((by rw [hg]; exact (zbz zq1) : w.heap.size ≤ gb101)); clear HB; have HB := n0_; have BK101 := n1_; have GW101 := n2_; have GE101 := n3_; clear n0_ n1_ n2_ n3_; clear hb hbox hg; have hcz4_0 : w3.cell? ⟨gb101, 0, none⟩ = some (.int .i64 0) := (zkc BK101.out 0).trans rfl; have hcz4_1 : w3.cell? ⟨gb101, 1, none⟩ = some (.int .i64 0) := (zkc BK101.out 1).trans rfl; have hcz4_2 : w3.cell? ⟨gb101, 2, none⟩ = some (.int .i64 0) := (zkc BK101.out 2).trans rfl; have hcz4_3 : w3.cell? ⟨gb101, 3, none⟩ = some (.int .i64 0) := (zkc BK101.out 3).trans rfl; have hfz4_0 := zkz BK101.out 0; have hfz4_1 := zkz BK101.out 1; have hfz4_2 := zkz BK101.out 2; have hfz4_3 := zkz BK101.out 3))
 refine bodyPost_ret (results_cell_row rfl _ _ gb101 29 #[.int .i64 a0, .int .i64 a0, .int .i64 a1, .int .i64 a1] (0, 0) _ rfl (by (with_reducible repeat (first | refine zkn ?_ _ | refine zkd ?_ | refine zka ?_ _)); refine blk_put (cs := #[.int .i64 a0, .int .i64 a0, .int .i64 a1, .int .i64 0]) ?_ 3 _ rfl; (with_reducible repeat (first | refine zkn ?_ _ | refine zkd ?_ | refine zka ?_ _)); refine blk_put (cs := #[.int .i64 a0, .int .i64 a0, .int .i64 0, .int .i64 0]) ?_ 2 _ rfl; (with_reducible repeat (first | refine zkn ?_ _ | refine zkd ?_ | refine zka ?_ _)); refine blk_put (cs := #[.int .i64 a0, .int .i64 0, .int .i64 0, .int .i64 0]) ?_ 1 _ rfl; (with_reducible repeat (first | refine zkn ?_ _ | refine zkd ?_ | refine zka ?_ _)); refine blk_put (cs := #[.int .i64 0, .int .i64 0, .int .i64 0, .int .i64 0]) ?_ 0 _ rfl; (with_reducible repeat (first | refine zkn ?_ _ | refine zkd ?_ | refine zka ?_ _)); exact BK101.out) Try.underlying29 rfl (by kernel_rfl)) rfl ?_
 exact ⟨by first | rfl | (simp [errW_none, errW_some] <;> rfl) | (simp [*, errW_none, errW_some] <;> rfl), by repeat (first | (with_reducible first | exact HB.out | apply zba | apply zbn | apply zb1 | refine zbs ?_ GE101.out) | exact HB.out)⟩
def isobathlaw07_Example.f  : Option ((List (S29)) × Int × Int × (List (S24))) := (isobathlaw07_point.f 0 0).bind fun bt102 => ((isobathlaw07_point.f 3000 0).bind fun bt106 => ((isobathlaw07_point.f 0 4000).bind fun bt110 => (some ((([(⟨(⟨bt102.1, bt102.2.1⟩ : S24), (⟨bt102.2.2.1, bt102.2.2.2⟩ : S24)⟩ : S29), (⟨(⟨bt106.1, bt106.2.1⟩ : S24), (⟨bt106.2.2.1, bt106.2.2.2⟩ : S24)⟩ : S29), (⟨(⟨bt110.1, bt110.2.1⟩ : S24), (⟨bt110.2.2.1, bt110.2.2.2⟩ : S24)⟩ : S29)] : List (S29))), 1500, 1500, (([(⟨100, 100⟩ : S24), (⟨2100, 2100⟩ : S24), (⟨2767, 2767⟩ : S24)] : List (S24)))))))
set_option maxHeartbeats 8000000 in
set_option maxRecDepth 100000 in
theorem isobathlaw07_Example.calls  (r1 : List (S29)) (r2 : Int) (r3 : Int) (r4 : List (S24)) (w : World) (h : isobathlaw07_Example.f  = some (r1, r2, r3, r4)) :
  Calls Try.prog 55 #[] w fun e w' => ∃ v0_ v3_ : Value, e = .returned (.tuple #[.agg #[v0_, .int .i64 r2, .int .i64 r3], v3_]) ∧ Kd.R k29 29 w' w.heap.size (fun _ => True) v0_ r1 ∧ Kd.R k24 24 w' w.heap.size (fun _ => True) v3_ r4 ∧ Below w.heap.size w w' := by
 have hu26 := Try.underlying26
 have hu24 := Try.underlying24
 have HB := zam (Below.refl w.heap.size w)
 have H : ((isobathlaw07_point.f 0 0).bind fun bt102 => ((isobathlaw07_point.f 3000 0).bind fun bt106 => ((isobathlaw07_point.f 0 4000).bind fun bt110 => (some ((([(⟨(⟨bt102.1, bt102.2.1⟩ : S24), (⟨bt102.2.2.1, bt102.2.2.2⟩ : S24)⟩ : S29), (⟨(⟨bt106.1, bt106.2.1⟩ : S24), (⟨bt106.2.2.1, bt106.2.2.2⟩ : S24)⟩ : S29), (⟨(⟨bt110.1, bt110.2.1⟩ : S24), (⟨bt110.2.2.1, bt110.2.2.2⟩ : S24)⟩ : S29)] : List (S29))), 1500, 1500, (([(⟨100, 100⟩ : S24), (⟨2100, 2100⟩ : S24), (⟨2767, 2767⟩ : S24)] : List (S24)))))))) = some (r1, r2, r3, r4) := h
 clear h
 replace H := Option.bind_eq_some_iff.mp H
 obtain ⟨⟨t102, t103, t104, t105⟩, A10, H⟩ := H
 replace H : ((isobathlaw07_point.f 3000 0).bind fun bt106 => ((isobathlaw07_point.f 0 4000).bind fun bt110 => (some ((([(⟨(⟨t102, t103⟩ : S24), (⟨t104, t105⟩ : S24)⟩ : S29), (⟨(⟨bt106.1, bt106.2.1⟩ : S24), (⟨bt106.2.2.1, bt106.2.2.2⟩ : S24)⟩ : S29), (⟨(⟨bt110.1, bt110.2.1⟩ : S24), (⟨bt110.2.2.1, bt110.2.2.2⟩ : S24)⟩ : S29)] : List (S29))), 1500, 1500, (([(⟨100, 100⟩ : S24), (⟨2100, 2100⟩ : S24), (⟨2767, 2767⟩ : S24)] : List (S24))))))) = some (r1, r2, r3, r4) := H
 have A1 := zam A10
 clear A10
 replace H := Option.bind_eq_some_iff.mp H
 obtain ⟨⟨t106, t107, t108, t109⟩, A20, H⟩ := H
 replace H : ((isobathlaw07_point.f 0 4000).bind fun bt110 => (some ((([(⟨(⟨t102, t103⟩ : S24), (⟨t104, t105⟩ : S24)⟩ : S29), (⟨(⟨t106, t107⟩ : S24), (⟨t108, t109⟩ : S24)⟩ : S29), (⟨(⟨bt110.1, bt110.2.1⟩ : S24), (⟨bt110.2.2.1, bt110.2.2.2⟩ : S24)⟩ : S29)] : List (S29))), 1500, 1500, (([(⟨100, 100⟩ : S24), (⟨2100, 2100⟩ : S24), (⟨2767, 2767⟩ : S24)] : List (S24)))))) = some (r1, r2, r3, r4) := H
 have A2 := zam A20
 clear A20
 replace H := Option.bind_eq_some_iff.mp H
 obtain ⟨⟨t110, t111, t112, t113⟩, A30, H⟩ := H
 replace H : (some ((([(⟨(⟨t102, t103⟩ : S24), (⟨t104, t105⟩ : S24)⟩ : S29), (⟨(⟨t106, t107⟩ : S24), (⟨t108, t109⟩ : S24)⟩ : S29), (⟨(⟨t110, t111⟩ : S24), (⟨t112, t113⟩ : S24)⟩ : S29)] : List (S29))), 1500, 1500, (([(⟨100, 100⟩ : S24), (⟨2100, 2100⟩ : S24), (⟨2767, 2767⟩ : S24)] : List (S24))))) = some (r1, r2, r3, r4) := H
 have A3 := zam A30
 clear A30
 obtain ⟨y114, hy114⟩ : ∃ y_ : List (S29), y_ = (([(⟨(⟨t102, t103⟩ : S24), (⟨t104, t105⟩ : S24)⟩ : S29), (⟨(⟨t106, t107⟩ : S24), (⟨t108, t109⟩ : S24)⟩ : S29), (⟨(⟨t110, t111⟩ : S24), (⟨t112, t113⟩ : S24)⟩ : S29)] : List (S29))) := ⟨_, rfl⟩
 replace H : (some (y114, 1500, 1500, (([(⟨100, 100⟩ : S24), (⟨2100, 2100⟩ : S24), (⟨2767, 2767⟩ : S24)] : List (S24))))) = some (r1, r2, r3, r4) := by first | (rw [hy114]; with_reducible exact H) | (have H2_ := (Option.bind_some _ _).symm.trans H; rw [hy114]; with_reducible exact H2_) | (have H2_ := (Option.bind_some _ _).symm.trans H; with_reducible exact H2_) | with_reducible exact H | (rw [hy114]; exact H) | exact H
 have Ny114 := zam hy114
 clear hy114
 obtain ⟨y117, hy117⟩ : ∃ y_ : List (S24), y_ = (([(⟨100, 100⟩ : S24), (⟨2100, 2100⟩ : S24), (⟨2767, 2767⟩ : S24)] : List (S24))) := ⟨_, rfl⟩
 replace H : (some (y114, 1500, 1500, y117)) = some (r1, r2, r3, r4) := by first | (rw [hy117]; with_reducible exact H) | (have H2_ := (Option.bind_some _ _).symm.trans H; rw [hy117]; with_reducible exact H2_) | (have H2_ := (Option.bind_some _ _).symm.trans H; with_reducible exact H2_) | with_reducible exact H | (rw [hy117]; exact H) | exact H
 have Ny117 := zam hy117
 clear hy117
 simp only [Option.some.injEq, Prod.mk.injEq] at H
 obtain ⟨rfl, rfl, rfl, rfl⟩ := H
 go_enter Try.func55, Try.ntmps55
 go_wp2_with (first | ((with_reducible refine zgd (N := 0) rfl ?_); refine box_event ?hg (N := 0) ?hd (cs := #[.slice none 0 0, .int .i64 0, .int .i64 0]) (t := 26) ?hr ?_; (case hd => rfl); (case hg => rfl); (case hr => first | (go_simp; done) | (go_simp; rfl)); intro gb101 hg w4 hbox hb; have n0_ := zam (zbt zq1 hb); have n1_ := zam (hbox); have n2_ := zam ((by rw [hg]; exact (zbz zq1) : w.heap.size ≤ gb101)); have n3_ := zam ((by rw [hg]; exact (zbz zq1) : w.heap.size ≤ gb101)); clear HB; have HB := n0_; have BK101 := n1_; have GW101 := n2_; have GE101 := n3_; clear n0_ n1_ n2_ n3_; clear hb hbox hg) | ((with_reducible refine zgc (f := 56) rfl ?_); refine goesL_ (some 2) rfl rfl Try.func56 (by kernel_rfl) rfl #[.int .i64 0, .int .i64 0] rfl zq4 ?_; (with_reducible refine (isobathlaw07_point.calls 0 0 t102 t103 t104 t105 _ A1.out).mono ?_); rintro e w5 ⟨rfl, hb⟩; refine ⟨_, rfl, ?_⟩; have n0_ := zam (zkb (g := gb101) (o := .cells #[.slice none 0 0, .int .i64 0, .int .i64 0] 26 (0, 0)) zq0 hb); have n1_ := zam (zbt zq2 hb); clear BK101; clear HB; have BK101 := n0_; have HB := n1_; clear n0_ n1_; (try clear hb); (try clear hb2); (try clear hk); (try clear hi)) | ((with_reducible refine zgc (f := 56) rfl ?_); refine goesL_ (some 3) rfl rfl Try.func56 (by kernel_rfl) rfl #[.int .i64 3000, .int .i64 0] rfl zq4 ?_; (with_reducible refine (isobathlaw07_point.calls 3000 0 t106 t107 t108 t109 _ A2.out).mono ?_); rintro e w6 ⟨rfl, hb⟩; refine ⟨_, rfl, ?_⟩; have n0_ := zam (zkb (g := gb101) (o := .cells #[.slice none 0 0, .int .i64 0, .int .i64 0] 26 (0, 0)) zq0 hb); have n1_ := zam (zbt zq2 hb); clear BK101; clear HB; have BK101 := n0_; have HB := n1_; clear n0_ n1_; (try clear hb); (try clear hb2); (try clear hk); (try clear hi)) | ((with_reducible refine zgc (f := 56) rfl ?_); refine goesL_ (some 4) rfl rfl Try.func56 (by kernel_rfl) rfl #[.int .i64 0, .int .i64 4000] rfl zq4 ?_; (with_reducible refine (isobathlaw07_point.calls 0 4000 t110 t111 t112 t113 _ A3.out).mono ?_); rintro e w7 ⟨rfl, hb⟩; refine ⟨_, rfl, ?_⟩; have n0_ := zam (zkb (g := gb101) (o := .cells #[.slice none 0 0, .int .i64 0, .int .i64 0] 26 (0, 0)) zq0 hb); have n1_ := zam (zbt zq2 hb); clear BK101; clear HB; have BK101 := n0_; have HB := n1_; clear n0_ n1_; (try clear hb); (try clear hb2); (try clear hk); (try clear hi)) | ((with_reducible refine zgd (N := 5) rfl ?_); refine Kd.R_lit k29 _ 29 ?hg (N := 5) ?hd (xs := ([(⟨(⟨t102, t103⟩ : S24), (⟨t104, t105⟩ : S24)⟩ : S29), (⟨(⟨t106, t107⟩ : S24), (⟨t108, t109⟩ : S24)⟩ : S29), (⟨(⟨t110, t111⟩ : S24), (⟨t112, t113⟩ : S24)⟩ : S29)] : List (S29))) (inner := [.int .i64 t102, .int .i64 t103, .int .i64 t104, .int .i64 t105, .int .i64 t106, .int .i64 t107, .int .i64 t108, .int .i64 t109, .int .i64 t110, .int .i64 t111, .int .i64 t112, .int .i64 t113]) (ok := fun _ => True) (okp := fun _ => True) ?hr ?hp (fun _ hk => hk) trivial (Below.refl _ _) (Nat.le_refl _) (by simp) ?_; (case hd => rfl); (case hg => rfl); (case hr => first | (go_simp; done) | (go_simp; rfl)); (case hp => exact (Reps.c4 (show Kd.M k29 _ _ _ (⟨(⟨t102, t103⟩ : S24), (⟨t104, t105⟩ : S24)⟩ : S29) [.int .i64 t102, .int .i64 t103, .int .i64 t104, .int .i64 t105] from (k29_mkM _ _ _ (⟨(⟨t102, t103⟩ : S24), (⟨t104, t105⟩ : S24)⟩ : S29) )) (Reps.c4 (show Kd.M k29 _ _ _ (⟨(⟨t106, t107⟩ : S24), (⟨t108, t109⟩ : S24)⟩ : S29) [.int .i64 t106, .int .i64 t107, .int .i64 t108, .int .i64 t109] from (k29_mkM _ _ _ (⟨(⟨t106, t107⟩ : S24), (⟨t108, t109⟩ : S24)⟩ : S29) )) (Reps.c4 (show Kd.M k29 _ _ _ (⟨(⟨t110, t111⟩ : S24), (⟨t112, t113⟩ : S24)⟩ : S29) [.int .i64 t110, .int .i64 t111, .int .i64 t112, .int .i64 t113] from (k29_mkM _ _ _ (⟨(⟨t110, t111⟩ : S24), (⟨t112, t113⟩ : S24)⟩ : S29) )) (Reps.none _ _))))); intro v115 w8 ho9 hb hg_ hnew_; clear hg_ hnew_; (first | rw [← Ny114.out] at ho9 | (simp only [Int.reduceToNat] at ho9; rw [← Ny114.out] at ho9)); have n0_ := zam (Kd.R_lower ho9 (zbz zq2)); have n1_ := zam (zkb (g := gb101) (o := .cells #[.slice none 0 0, .int .i64 0, .int .i64 0] 26 (0, 0)) zq0 hb); have n2_ := zam (zbt zq2 hb); clear BK101; clear HB; have HO116 := n0_; have BK101 := n1_; have HB := n2_; clear n0_ n1_ n2_; clear hb ho9; obtain ⟨Ao10, co10, eo10⟩ := Kd.R_slice HO116.out; subst eo10) | ((with_reducible refine zgd (N := 11) rfl ?_); refine Kd.R_lit k24 _ 24 ?hg (N := 11) ?hd (xs := ([(⟨100, 100⟩ : S24), (⟨2100, 2100⟩ : S24), (⟨2767, 2767⟩ : S24)] : List (S24))) (inner := [.int .i64 100, .int .i64 100, .int .i64 2100, .int .i64 2100, .int .i64 2767, .int .i64 2767]) (ok := fun _ => True) (okp := fun _ => True) ?hr ?hp (fun _ hk => hk) trivial (Below.refl _ _) (Nat.le_refl _) (by simp) ?_; (case hd => rfl); (case hg => rfl); (case hr => first | (go_simp; done) | (go_simp; rfl)); (case hp => exact (Reps.c2 (show Kd.M k24 _ _ _ (⟨100, 100⟩ : S24) [.int .i64 100, .int .i64 100] from (k24_mkM _ _ _ (⟨100, 100⟩ : S24) )) (Reps.c2 (show Kd.M k24 _ _ _ (⟨2100, 2100⟩ : S24) [.int .i64 2100, .int .i64 2100] from (k24_mkM _ _ _ (⟨2100, 2100⟩ : S24) )) (Reps.c2 (show Kd.M k24 _ _ _ (⟨2767, 2767⟩ : S24) [.int .i64 2767, .int .i64 2767] from (k24_mkM _ _ _ (⟨2767, 2767⟩ : S24) )) (Reps.none _ _))))); intro v118 w11 ho12 hb hg_ hnew_; clear hg_ hnew_; (first | rw [← Ny117.out] at ho12 | (simp only [Int.reduceToNat] at ho12; rw [← Ny117.out] at ho12)); have n0_ := zam (Kd.R_below (by (with_reducible repeat (first | apply zRa | apply zRn | apply zRd)); exact HO116.out) hb); have n1_ := zam (Kd.R_lower ho12 (zbz zq2)); have n2_ := zam (zkb (g := gb101) (o := .cells #[.slice none 0 0, .int .i64 0, .int .i64 0] 26 (0, 0)) zq0 hb); have n3_ := zam (zbt zq2 hb); clear HO116; clear BK101; clear HB; have HO116 := n0_; have HO119 := n1_; have BK101 := n2_; have HB := n3_; clear n0_ n1_ n2_ n3_; clear hb ho12; have hcz13_0 : w11.cell? ⟨gb101, 0, none⟩ = some (.slice none 0 0) := (zkc BK101.out 0).trans rfl; have hcz13_1 : w11.cell? ⟨gb101, 1, none⟩ = some (.int .i64 0) := (zkc BK101.out 1).trans rfl; have hcz13_2 : w11.cell? ⟨gb101, 2, none⟩ = some (.int .i64 0) := (zkc BK101.out 2).trans rfl; have hfz13_0 := zkz BK101.out 0; have hfz13_1 := zkz BK101.out 1; have hfz13_2 := zkz BK101.out 2))
 refine bodyPost_ret (results_ct rfl _ _ gb101 26 #[.slice Ao10 y114.length co10, .int .i64 1500, .int .i64 1500] (0, 0) _ rfl (by (with_reducible repeat (first | refine zkn ?_ _ | refine zkd ?_ | refine zka ?_ _)); refine blk_put (cs := #[.slice Ao10 y114.length co10, .int .i64 1500, .int .i64 0]) ?_ 2 _ rfl; (with_reducible repeat (first | refine zkn ?_ _ | refine zkd ?_ | refine zka ?_ _)); refine blk_put (cs := #[.slice Ao10 y114.length co10, .int .i64 0, .int .i64 0]) ?_ 1 _ rfl; (with_reducible repeat (first | refine zkn ?_ _ | refine zkd ?_ | refine zka ?_ _)); refine blk_put (cs := #[.slice none 0 0, .int .i64 0, .int .i64 0]) ?_ 0 _ rfl; (with_reducible repeat (first | refine zkn ?_ _ | refine zkd ?_ | refine zka ?_ _)); exact BK101.out) Try.underlying26 rfl (by kernel_rfl)) rfl ?_
 exact ⟨_, _, by first | rfl | (simp [errW_none, errW_some] <;> rfl) | (simp [*, errW_none, errW_some] <;> rfl), by (with_reducible repeat (first | apply zRa | apply zRn | apply zRd)); exact Kd.R_mono (Kd.R_far (p := ⟨gb101, 2, none⟩) (Kd.R_far (p := ⟨gb101, 1, none⟩) (Kd.R_far (p := ⟨gb101, 0, none⟩) (Kd.R_types HO116.out BK101.out (by decide)) (fun _ hk => hk.2) (.slice Ao10 y114.length co10)) (fun _ hk => hk.2) (.int .i64 1500)) (fun _ hk => hk.2) (.int .i64 1500)) (fun _ hk => trivial), by (with_reducible repeat (first | apply zRa | apply zRn | apply zRd)); exact Kd.R_mono (Kd.R_far (p := ⟨gb101, 2, none⟩) (Kd.R_far (p := ⟨gb101, 1, none⟩) (Kd.R_far (p := ⟨gb101, 0, none⟩) (Kd.R_types HO119.out BK101.out (by decide)) (fun _ hk => hk.2) (.slice Ao10 y114.length co10)) (fun _ hk => hk.2) (.int .i64 1500)) (fun _ hk => hk.2) (.int .i64 1500)) (fun _ hk => trivial), by repeat (first | (with_reducible first | exact HB.out | apply zba | apply zbn | apply zb1 | refine zbs ?_ GE101.out) | exact HB.out)⟩
def isobathlaw07_Gauges.f  : Option ((List (S45)) × Int × Int × Int) := some ((([(⟨(([(⟨0, 1⟩ : S24), (⟨20, 30⟩ : S24), (⟨25, 40⟩ : S24)] : List (S24)))⟩ : S45), (⟨(([(⟨0, 5⟩ : S24), (⟨5, 25⟩ : S24), (⟨21, 22⟩ : S24)] : List (S24)))⟩ : S45)] : List (S45))), 20, 2, 1)
set_option maxHeartbeats 8000000 in
set_option maxRecDepth 100000 in
theorem isobathlaw07_Gauges.calls  (r1 : List (S45)) (r2 : Int) (r3 : Int) (r4 : Int) (w : World) (h : isobathlaw07_Gauges.f  = some (r1, r2, r3, r4)) :
  Calls Try.prog 57 #[] w fun e w' => ∃ v0_ : Value, e = .returned (.tuple #[v0_, .agg #[.int .i64 r2, .int .i64 r3, .int .i64 r4]]) ∧ Kd.N k45 45 w' w.heap.size (fun k_ => (w.heap.size ≤ k_)) v0_ r1 ∧ Below w.heap.size w w' := by
 have hu39 := Try.underlying39
 have hu24 := Try.underlying24
 have hu45 := Try.underlying45
 have HB := zam (Below.refl w.heap.size w)
 have H : (some ((([(⟨(([(⟨0, 1⟩ : S24), (⟨20, 30⟩ : S24), (⟨25, 40⟩ : S24)] : List (S24)))⟩ : S45), (⟨(([(⟨0, 5⟩ : S24), (⟨5, 25⟩ : S24), (⟨21, 22⟩ : S24)] : List (S24)))⟩ : S45)] : List (S45))), 20, 2, 1)) = some (r1, r2, r3, r4) := h
 clear h
 obtain ⟨y102, hy102⟩ : ∃ y_ : List (S24), y_ = (([(⟨0, 1⟩ : S24), (⟨20, 30⟩ : S24), (⟨25, 40⟩ : S24)] : List (S24))) := ⟨_, rfl⟩
 replace H : (some ((([(⟨y102⟩ : S45), (⟨(([(⟨0, 5⟩ : S24), (⟨5, 25⟩ : S24), (⟨21, 22⟩ : S24)] : List (S24)))⟩ : S45)] : List (S45))), 20, 2, 1)) = some (r1, r2, r3, r4) := by first | (rw [hy102]; with_reducible exact H) | (have H2_ := (Option.bind_some _ _).symm.trans H; rw [hy102]; with_reducible exact H2_) | (have H2_ := (Option.bind_some _ _).symm.trans H; with_reducible exact H2_) | with_reducible exact H | (rw [hy102]; exact H) | exact H
 have Ny102 := zam hy102
 clear hy102
 obtain ⟨y105, hy105⟩ : ∃ y_ : List (S24), y_ = (([(⟨0, 5⟩ : S24), (⟨5, 25⟩ : S24), (⟨21, 22⟩ : S24)] : List (S24))) := ⟨_, rfl⟩
 replace H : (some ((([(⟨y102⟩ : S45), (⟨y105⟩ : S45)] : List (S45))), 20, 2, 1)) = some (r1, r2, r3, r4) := by first | (rw [hy105]; with_reducible exact H) | (have H2_ := (Option.bind_some _ _).symm.trans H; rw [hy105]; with_reducible exact H2_) | (have H2_ := (Option.bind_some _ _).symm.trans H; with_reducible exact H2_) | with_reducible exact H | (rw [hy105]; exact H) | exact H
 have Ny105 := zam hy105
 clear hy105
 obtain ⟨y108, hy108⟩ : ∃ y_ : List (S45), y_ = (([(⟨y102⟩ : S45), (⟨y105⟩ : S45)] : List (S45))) := ⟨_, rfl⟩
 replace H : (some (y108, 20, 2, 1)) = some (r1, r2, r3, r4) := by first | (rw [hy108]; with_reducible exact H) | (have H2_ := (Option.bind_some _ _).symm.trans H; rw [hy108]; with_reducible exact H2_) | (have H2_ := (Option.bind_some _ _).symm.trans H; with_reducible exact H2_) | with_reducible exact H | (rw [hy108]; exact H) | exact H
 have Ny108 := zam hy108
 clear hy108
 simp only [Option.some.injEq, Prod.mk.injEq] at H
 obtain ⟨rfl, rfl, rfl, rfl⟩ := H
 go_enter Try.func57, Try.ntmps57
 go_wp2_with (first | ((with_reducible refine zgd (N := 1) rfl ?_); refine box_event ?hg (N := 1) ?hd (cs := #[.int .i64 0, .int .i64 0, .int .i64 0]) (t := 39) ?hr ?_; (case hd => rfl); (case hg => rfl); (case hr => first | (go_simp; done) | (go_simp; rfl)); intro gb101 hg w1 hbox hb; have n0_ := zam (zbt zq1 hb); have n1_ := zam (hbox); have n2_ := zam ((by rw [hg]; exact (zbz zq1) : w.heap.size ≤ gb101)); have n3_ := zam ((by rw [hg]; exact (zbz zq1) : w.heap.size ≤ gb101)); clear HB; have HB := n0_; have BK101 := n1_; have GW101 := n2_; have GE101 := n3_; clear n0_ n1_ n2_ n3_; clear hb hbox hg) | ((with_reducible refine zgd (N := 5) rfl ?_); refine Kd.R_lit k24 _ 24 ?hg (N := 5) ?hd (xs := ([(⟨0, 1⟩ : S24), (⟨20, 30⟩ : S24), (⟨25, 40⟩ : S24)] : List (S24))) (inner := [.int .i64 0, .int .i64 1, .int .i64 20, .int .i64 30, .int .i64 25, .int .i64 40]) (ok := fun _ => True) (okp := fun _ => True) ?hr ?hp (fun _ hk => hk) trivial (Below.refl _ _) (Nat.le_refl _) (by simp) ?_; (case hd => rfl); (case hg => rfl); (case hr => first | (go_simp; done) | (go_simp; rfl)); (case hp => exact (Reps.c2 (show Kd.M k24 _ _ _ (⟨0, 1⟩ : S24) [.int .i64 0, .int .i64 1] from (k24_mkM _ _ _ (⟨0, 1⟩ : S24) )) (Reps.c2 (show Kd.M k24 _ _ _ (⟨20, 30⟩ : S24) [.int .i64 20, .int .i64 30] from (k24_mkM _ _ _ (⟨20, 30⟩ : S24) )) (Reps.c2 (show Kd.M k24 _ _ _ (⟨25, 40⟩ : S24) [.int .i64 25, .int .i64 40] from (k24_mkM _ _ _ (⟨25, 40⟩ : S24) )) (Reps.none _ _))))); intro v103 w2 ho3 hb hg_ hnew_; clear hg_ hnew_; (first | rw [← Ny102.out] at ho3 | (simp only [Int.reduceToNat] at ho3; rw [← Ny102.out] at ho3)); have n0_ := zam (Kd.R_lower (Kd.R_newM (M := fun k_ => (w.heap.size ≤ k_)) ho3 (zbz zq2) (fun k_ h_ => h_)) (zbz zq2)); have n1_ := zam (zkb (g := gb101) (o := .cells #[.int .i64 0, .int .i64 0, .int .i64 0] 39 (0, 0)) zq0 hb); have n2_ := zam (zbt zq2 hb); clear BK101; clear HB; have HO104 := n0_; have BK101 := n1_; have HB := n2_; clear n0_ n1_ n2_; clear hb ho3; obtain ⟨Ao4, co4, eo4⟩ := Kd.R_slice HO104.out; subst eo4) | ((with_reducible refine zgd (N := 10) rfl ?_); refine Kd.R_lit k24 _ 24 ?hg (N := 10) ?hd (xs := ([(⟨0, 5⟩ : S24), (⟨5, 25⟩ : S24), (⟨21, 22⟩ : S24)] : List (S24))) (inner := [.int .i64 0, .int .i64 5, .int .i64 5, .int .i64 25, .int .i64 21, .int .i64 22]) (ok := fun _ => True) (okp := fun _ => True) ?hr ?hp (fun _ hk => hk) trivial (Below.refl _ _) (Nat.le_refl _) (by simp) ?_; (case hd => rfl); (case hg => rfl); (case hr => first | (go_simp; done) | (go_simp; rfl)); (case hp => exact (Reps.c2 (show Kd.M k24 _ _ _ (⟨0, 5⟩ : S24) [.int .i64 0, .int .i64 5] from (k24_mkM _ _ _ (⟨0, 5⟩ : S24) )) (Reps.c2 (show Kd.M k24 _ _ _ (⟨5, 25⟩ : S24) [.int .i64 5, .int .i64 25] from (k24_mkM _ _ _ (⟨5, 25⟩ : S24) )) (Reps.c2 (show Kd.M k24 _ _ _ (⟨21, 22⟩ : S24) [.int .i64 21, .int .i64 22] from (k24_mkM _ _ _ (⟨21, 22⟩ : S24) )) (Reps.none _ _))))); intro v106 w5 ho6 hb hg_ hnew_; clear hg_ hnew_; (first | rw [← Ny105.out] at ho6 | (simp only [Int.reduceToNat] at ho6; rw [← Ny105.out] at ho6)); have n0_ := zam (Kd.R_elder' zq16 (Kd.R_base ho6) hb); have n1_ := zam (Kd.R_lower (Kd.R_new' (Kd.R_newM (M := fun k_ => (w.heap.size ≤ k_)) ho6 (zbz zq2) (fun k_ h_ => h_)) (Kd.R_lt zq16)) (zbz zq2)); have n2_ := zam (zkb (g := gb101) (o := .cells #[.int .i64 0, .int .i64 0, .int .i64 0] 39 (0, 0)) zq0 hb); have n3_ := zam (zbt zq2 hb); clear HO104; clear BK101; clear HB; have HO104 := n0_; have HO107 := n1_; have BK101 := n2_; have HB := n3_; clear n0_ n1_ n2_ n3_; clear hb ho6; obtain ⟨Ao7, co7, eo7⟩ := Kd.R_slice HO107.out; subst eo7) | ((with_reducible refine zgd (N := 12) rfl ?_); refine Kd.N_lit k45 _ 45 ?hg (N' := 12) ?hd (xs := ([(⟨y102⟩ : S45), (⟨y105⟩ : S45)] : List (S45))) (inner := [.slice Ao4 y102.length co4, .slice Ao7 y105.length co7]) (ok := (fun k_ => (w.heap.size ≤ k_) ∧ k_ ≠ gb101)) (okp := (fun k_ => (w.heap.size ≤ k_) ∧ k_ ≠ gb101)) ?hr ?hp (fun _ hk => hk) ((show ∀ k_, w5.heap.size ≤ k_ → (fun k_ => (w.heap.size ≤ k_) ∧ k_ ≠ gb101) k_ from fun k_ hk => ⟨(Nat.le_trans (zbz zq2) hk), Kd.freshB (g := gb101) (o := .cells #[.int .i64 0, .int .i64 0, .int .i64 0] 39 (0, 0)) zq0 k_ hk⟩) _ (Nat.le_refl _)) (Below.refl _ _) (Nat.le_refl _) (by simp) ?_; (case hd => rfl); (case hg => rfl); (case hr => first | (go_simp; done) | (go_simp; rfl)); (case hp => exact (Reps.one (show Kd.FK k45 _ _ (⟨y102⟩ : S45) [.slice Ao4 y102.length co4] from (k45_mkF _ _ (⟨y102⟩ : S45) (Kd.R_reads' (Kd.R_mono (ok' := (fun k_ => (w.heap.size ≤ k_) ∧ k_ ≠ gb101)) (Kd.R_types (HO104.out) BK101.out (by decide)) (fun k_ hk => ⟨hk.1.1.1, hk.2⟩))).2.1 (Kd.R_F (Kd.R_mono (ok' := (fun k_ => (w.heap.size ≤ k_) ∧ k_ ≠ gb101)) (Kd.R_types (HO104.out) BK101.out (by decide)) (fun k_ hk => ⟨hk.1.1.1, hk.2⟩))))) (Reps.one (show Kd.FK k45 _ _ (⟨y105⟩ : S45) [.slice Ao7 y105.length co7] from (k45_mkF _ _ (⟨y105⟩ : S45) (Kd.R_reads' (Kd.R_mono (ok' := (fun k_ => (w.heap.size ≤ k_) ∧ k_ ≠ gb101)) (Kd.R_types (HO107.out) BK101.out (by decide)) (fun k_ hk => ⟨hk.1.1.1, hk.2⟩))).2.1 (Kd.R_F (Kd.R_mono (ok' := (fun k_ => (w.heap.size ≤ k_) ∧ k_ ≠ gb101)) (Kd.R_types (HO107.out) BK101.out (by decide)) (fun k_ hk => ⟨hk.1.1.1, hk.2⟩))))) (Reps.none _ _)))); intro v109 w8 ho9 hb hg_ hnew_; clear hg_ hnew_; (first | rw [← Ny108.out] at ho9 | (simp only [Int.reduceToNat] at ho9; rw [← Ny108.out] at ho9)); have n0_ := zam (Kd.N_lower ho9 (zbz zq2)); have n1_ := zam (zkb (g := gb101) (o := .cells #[.int .i64 0, .int .i64 0, .int .i64 0] 39 (0, 0)) zq0 hb); have n2_ := zam (zbt zq2 hb); clear BK101; clear HB; clear HO104; clear HO107; have HO110 := n0_; have BK101 := n1_; have HB := n2_; clear n0_ n1_ n2_; clear hb ho9; have hcz10_0 : w8.cell? ⟨gb101, 0, none⟩ = some (.int .i64 0) := (zkc BK101.out 0).trans rfl; have hcz10_1 : w8.cell? ⟨gb101, 1, none⟩ = some (.int .i64 0) := (zkc BK101.out 1).trans rfl; have hcz10_2 : w8.cell? ⟨gb101, 2, none⟩ = some (.int .i64 0) := (zkc BK101.out 2).trans rfl; have hfz10_0 := zkz BK101.out 0; have hfz10_1 := zkz BK101.out 1; have hfz10_2 := zkz BK101.out 2))
 refine bodyPost_ret (results_tc rfl _ _ gb101 39 #[.int .i64 20, .int .i64 2, .int .i64 1] (0, 0) _ rfl (by (with_reducible repeat (first | refine zkn ?_ _ | refine zkd ?_ | refine zka ?_ _)); refine blk_put (cs := #[.int .i64 20, .int .i64 2, .int .i64 0]) ?_ 2 _ rfl; (with_reducible repeat (first | refine zkn ?_ _ | refine zkd ?_ | refine zka ?_ _)); refine blk_put (cs := #[.int .i64 20, .int .i64 0, .int .i64 0]) ?_ 1 _ rfl; (with_reducible repeat (first | refine zkn ?_ _ | refine zkd ?_ | refine zka ?_ _)); refine blk_put (cs := #[.int .i64 0, .int .i64 0, .int .i64 0]) ?_ 0 _ rfl; (with_reducible repeat (first | refine zkn ?_ _ | refine zkd ?_ | refine zka ?_ _)); exact BK101.out) Try.underlying39 rfl (by kernel_rfl)) rfl ?_
 exact ⟨_, by first | rfl | (simp [errW_none, errW_some] <;> rfl) | (simp [*, errW_none, errW_some] <;> rfl), by (with_reducible repeat (first | apply Kd.N_alloc | apply Kd.N_drewN | apply Kd.N_drew)); exact Kd.N_mono (Kd.N_far (p := ⟨gb101, 2, none⟩) (Kd.N_far (p := ⟨gb101, 1, none⟩) (Kd.N_far (p := ⟨gb101, 0, none⟩) (Kd.N_mono HO110.out (fun k_ hk => (⟨hk, hk.2⟩ : _ ∧ k_ ≠ gb101))) (fun _ hk => hk.2) (.int .i64 20)) (fun _ hk => hk.2) (.int .i64 2)) (fun _ hk => hk.2) (.int .i64 1)) (fun _ hk => hk.1.1), by repeat (first | (with_reducible first | exact HB.out | apply zba | apply zbn | apply zb1 | refine zbs ?_ GE101.out) | exact HB.out)⟩
def api_Answer_63.l0 : Nat → List Int → Int → Int → Int → Option (Int)
 | 0, _, _, _, _ => none
 | k + 1, x0, x1, x7, x8 => if x8 < x7 then (if 0 ≤ x8 then (if x8 < (x0.length : Int) then (if x1 = (rd x0 x8) then (some x8) else (api_Answer_63.l0 k x0 x1 x7 (wrap64 (x8 + 1)))) else (none)) else (none)) else (some (-1))
def api_Answer_63.f (k : Nat) (l0 : List Int) (a1 : Int) : Option (Int) := api_Answer_63.l0 k l0 a1 (l0.length : Int) 0
theorem api_Answer_63.mono_l : ∀ k, (∀ y0 y1 y2 y3, LeO (api_Answer_63.l0 k y0 y1 y2 y3) (api_Answer_63.l0 (k + 1) y0 y1 y2 y3))
 | 0 => fun _ _ _ _ r h => by simp [api_Answer_63.l0] at h
 | k + 1 => by
  have ih0 := api_Answer_63.mono_l k
  intro y0 y1 y2 y3
  unfold api_Answer_63.l0
  repeat' first
  | (with_reducible exact ih0 _ _ _ _)
  | (with_reducible exact LeO.refl _)
  | (with_reducible exact LeO.none _)
  | (with_reducible refine LeO.ite ?_ ?_)
  | (with_reducible refine LeO.bind ?_ (fun _ => ?_))
  | exact ih0 _ _ _ _
  | exact LeO.none _
  | refine LeO.ite ?_ ?_
  | refine LeO.bind ?_ (fun _ => ?_)
theorem api_Answer_63.mono : ∀ a0 a1 k, LeO (api_Answer_63.f k a0 a1) (api_Answer_63.f (k + 1) a0 a1) := by
 intro a0 a1 k
 have ih0 := api_Answer_63.mono_l k
 unfold api_Answer_63.f
 repeat' first
   | (with_reducible exact ih0 _ _ _ _)
   | (with_reducible exact LeO.refl _)
   | (with_reducible exact LeO.none _)
   | (with_reducible refine LeO.ite ?_ ?_)
   | (with_reducible refine LeO.bind ?_ (fun _ => ?_))
   | exact ih0 _ _ _ _
   | exact LeO.none _
   | refine LeO.ite ?_ ?_
   | refine LeO.bind ?_ (fun _ => ?_)
set_option maxHeartbeats 8000000 in
set_option maxRecDepth 100000 in
theorem api_Answer_63.calls (k : Nat) (A0 : Option Addr) (c0 : Nat) (l0 : List Int) (a1 : Int) (r : Int) (w : World) (hr0 : Kd.C (Kd.int .i64) w A0 l0.length l0) (hc0 : l0.length ≤ c0) (h : api_Answer_63.f k l0 a1 = some r) :
  Calls Try.prog 63 #[.slice A0 l0.length c0, .int .i64 a1] w fun e w' => e = .returned (.int .i64 r) ∧ Drawn0 w w' := by
 have HR0 := zam hr0
 have HC0 := zam hc0
 clear hr0 hc0
 have H : (api_Answer_63.l0 k l0 a1 (l0.length : Int) 0) = some r := h
 clear h
 have H' := zam H
 clear H
 go_enter Try.func63, Try.ntmps63
 go_wp2
 go_loopg [8] k (fun kq v8 w' => ∃ (x8_1 : Int), v8 = .int .i64 x8_1 ∧ Aside0 (api_Answer_63.l0 kq l0 a1 (l0.length : Int) x8_1 = some r) ∧ Aside0 (kq ≤ k) ∧ Drawn0 w w')
 case atStart => exact ⟨(0), zq9, H', ⟨Nat.le_refl _⟩, by repeat (first | exact Drawn0.refl _ | apply Drawn0.step)⟩
 case round =>
  clear H'
  try clear p2
  obtain ⟨x8_1, rfl, HA, HK1, ⟨m1, rfl⟩⟩ := hrel
  cases gk with
  | zero => exact absurd HA.out (by simp [api_Answer_63.l0])
  | succ k1 =>
   have H := HA.out
   clear HA
   simp only [api_Answer_63.l0] at H
   by_cases c3 : x8_1 < (l0.length : Int)
   ·rw [if_pos c3] at H
    have c3b0 : decide (x8_1 < (l0.length : Int)) = true := zdt c3
    clear c3
    by_cases c4 : 0 ≤ x8_1
    ·rw [if_pos c4] at H
     have c4b0 : decide (0 ≤ x8_1) = true := zdt c4
     clear c4
     by_cases c5 : x8_1 < (l0.length : Int)
     ·rw [if_pos c5] at H
      have c5b0 : decide (x8_1 < (l0.length : Int)) = true := zdt c5
      clear c5
      by_cases c6 : a1 = (rd l0 x8_1)
      ·rw [if_pos c6] at H
       have c6b0 : (a1 == (rd l0 x8_1)) = true := beq_iff_eq.mpr c6
       have c6b1 : (a1 != (rd l0 x8_1)) = false := bne_eq_false_iff_eq.mpr c6
       clear c6
       obtain rfl := zsi H
       have p101 : 0 ≤ (x8_1 : Int) := zod zq8
       have q101 : x8_1 < (l0.length : Int) := zod zq8
       obtain ⟨ad101, e101, hx101_0⟩ := Kd.at_int HR0.out x8_1 p101 q101
       cases e101
       replace p101 := eq_true p101
       replace q101 := eq_true q101
       go_wp2
       go_ret
       exact ⟨by first | rfl | (simp; done) | (simp [*]; done), by repeat (first | exact Drawn0.refl _ | apply Drawn0.step)⟩
      rw [if_neg c6] at H
      have c6b0 : (a1 == (rd l0 x8_1)) = false := beq_eq_false_iff_ne.mpr c6
      have c6b1 : (a1 != (rd l0 x8_1)) = true := bne_iff_ne.mpr c6
      have H' := zam H
      clear H
      have p101 : 0 ≤ (x8_1 : Int) := zod zq8
      have q101 : x8_1 < (l0.length : Int) := zod zq8
      obtain ⟨ad101, e101, hx101_0⟩ := Kd.at_int HR0.out x8_1 p101 q101
      cases e101
      replace p101 := eq_true p101
      replace q101 := eq_true q101
      go_wp2
      go_roundg k1
      case measure => have := HK1.out; omega
      case rel => exact ⟨(wrap64 (x8_1 + 1)), zq9, H', ⟨by have := HK1.out; omega⟩, by repeat (first | exact Drawn0.refl _ | apply Drawn0.step)⟩
     rw [if_neg c5] at H
     exact absurd H (by simp)
    rw [if_neg c4] at H
    exact absurd H (by simp)
   rw [if_neg c3] at H
   have c3b0 : decide (x8_1 < (l0.length : Int)) = false := zdf c3
   clear c3
   obtain rfl := zsi H
   go_wp2
   go_ret
   exact ⟨by first | rfl | (simp; done) | (simp [*]; done), by repeat (first | exact Drawn0.refl _ | apply Drawn0.step)⟩
def sound_First_1.f (a0 : Int) : Option (Bool) := some (a0 != 0)
set_option maxHeartbeats 8000000 in
set_option maxRecDepth 100000 in
theorem sound_First_1.calls (a0 : Int) (r : Bool) (w : World) (h : sound_First_1.f a0 = some r) :
  Calls Try.prog 65 #[.int .i64 a0] w fun e w' => e = .returned (.bool r) ∧ Drawn0 w w' := by
 have H : (some (a0 != 0)) = some r := h
 clear h
 obtain rfl := zsi H
 go_enter Try.func65, Try.ntmps65
 go_wp2
 go_ret
 exact ⟨by first | rfl | (simp; done) | (simp [*]; done), by repeat (first | exact Drawn0.refl _ | apply Drawn0.step)⟩
def slices_IndexFunc_Answer_sound_First_1.l0 : Nat → List Int → Int → Int → Option (Int)
 | 0, _, _, _ => none
 | k + 1, x0, x7, x8 => if x8 < x7 then (if 0 ≤ x8 then (if x8 < (x0.length : Int) then ((sound_First_1.f (rd x0 x8)).bind fun t102 => (if t102 = true then (some x8) else (slices_IndexFunc_Answer_sound_First_1.l0 k x0 x7 (wrap64 (x8 + 1))))) else (none)) else (none)) else (some (-1))
def slices_IndexFunc_Answer_sound_First_1.f (k : Nat) (l0 : List Int)  : Option (Int) := slices_IndexFunc_Answer_sound_First_1.l0 k l0 (l0.length : Int) 0
theorem slices_IndexFunc_Answer_sound_First_1.mono_l : ∀ k, (∀ y0 y1 y2, LeO (slices_IndexFunc_Answer_sound_First_1.l0 k y0 y1 y2) (slices_IndexFunc_Answer_sound_First_1.l0 (k + 1) y0 y1 y2))
 | 0 => fun _ _ _ r h => by simp [slices_IndexFunc_Answer_sound_First_1.l0] at h
 | k + 1 => by
  have ih0 := slices_IndexFunc_Answer_sound_First_1.mono_l k
  intro y0 y1 y2
  unfold slices_IndexFunc_Answer_sound_First_1.l0
  repeat' first
  | (with_reducible exact ih0 _ _ _)
  | (with_reducible exact LeO.refl _)
  | (with_reducible exact LeO.none _)
  | (with_reducible refine LeO.ite ?_ ?_)
  | (with_reducible refine LeO.bind ?_ (fun _ => ?_))
  | exact ih0 _ _ _
  | exact LeO.none _
  | refine LeO.ite ?_ ?_
  | refine LeO.bind ?_ (fun _ => ?_)
theorem slices_IndexFunc_Answer_sound_First_1.mono : ∀ a0 k, LeO (slices_IndexFunc_Answer_sound_First_1.f k a0) (slices_IndexFunc_Answer_sound_First_1.f (k + 1) a0) := by
 intro a0 k
 have ih0 := slices_IndexFunc_Answer_sound_First_1.mono_l k
 unfold slices_IndexFunc_Answer_sound_First_1.f
 repeat' first
   | (with_reducible exact ih0 _ _ _)
   | (with_reducible exact LeO.refl _)
   | (with_reducible exact LeO.none _)
   | (with_reducible refine LeO.ite ?_ ?_)
   | (with_reducible refine LeO.bind ?_ (fun _ => ?_))
   | exact ih0 _ _ _
   | exact LeO.none _
   | refine LeO.ite ?_ ?_
   | refine LeO.bind ?_ (fun _ => ?_)
set_option maxHeartbeats 8000000 in
set_option maxRecDepth 100000 in
theorem slices_IndexFunc_Answer_sound_First_1.calls (k : Nat) (A0 : Option Addr) (c0 : Nat) (l0 : List Int)  (r : Int) (w : World) (hr0 : Kd.C (Kd.int .i64) w A0 l0.length l0) (hc0 : l0.length ≤ c0) (h : slices_IndexFunc_Answer_sound_First_1.f k l0 = some r) :
  Calls Try.prog 64 #[.slice A0 l0.length c0, .func (.func 65) #[] #[]] w fun e w' => e = .returned (.int .i64 r) ∧ Drawn0 w w' := by
 have HR0 := zam hr0
 have HC0 := zam hc0
 clear hr0 hc0
 have H : (slices_IndexFunc_Answer_sound_First_1.l0 k l0 (l0.length : Int) 0) = some r := h
 clear h
 have H' := zam H
 clear H
 go_enter Try.func64, Try.ntmps64
 go_wp2
 go_loopg [8] k (fun kq v8 w' => ∃ (x8_1 : Int), v8 = .int .i64 x8_1 ∧ Aside0 (slices_IndexFunc_Answer_sound_First_1.l0 kq l0 (l0.length : Int) x8_1 = some r) ∧ Aside0 (kq ≤ k) ∧ Drawn0 w w')
 case atStart => exact ⟨(0), zq9, H', ⟨Nat.le_refl _⟩, by repeat (first | exact Drawn0.refl _ | apply Drawn0.step)⟩
 case round =>
  clear H'
  try clear p2
  obtain ⟨x8_1, rfl, HA, HK1, ⟨m1, rfl⟩⟩ := hrel
  cases gk with
  | zero => exact absurd HA.out (by simp [slices_IndexFunc_Answer_sound_First_1.l0])
  | succ k1 =>
   have H := HA.out
   clear HA
   simp only [slices_IndexFunc_Answer_sound_First_1.l0] at H
   by_cases c3 : x8_1 < (l0.length : Int)
   ·rw [if_pos c3] at H
    have c3b0 : decide (x8_1 < (l0.length : Int)) = true := zdt c3
    clear c3
    by_cases c4 : 0 ≤ x8_1
    ·rw [if_pos c4] at H
     have c4b0 : decide (0 ≤ x8_1) = true := zdt c4
     clear c4
     by_cases c5 : x8_1 < (l0.length : Int)
     ·rw [if_pos c5] at H
      have c5b0 : decide (x8_1 < (l0.length : Int)) = true := zdt c5
      clear c5
      replace H := Option.bind_eq_some_iff.mp H
      obtain ⟨t102, A60, H⟩ := H
      replace H : (if t102 = true then (some x8_1) else (slices_IndexFunc_Answer_sound_First_1.l0 k1 l0 (l0.length : Int) (wrap64 (x8_1 + 1)))) = some r := H
      have A6 := zam A60
      clear A60
      by_cases c7 : t102 = true
      ·subst c7
       have H1 : (some x8_1) = some r := by rw [if_pos rfl] at H; exact H
       clear H
       have H := H1
       clear H1
       obtain rfl := zsi H
       have p101 : 0 ≤ (x8_1 : Int) := zod zq8
       have q101 : x8_1 < (l0.length : Int) := zod zq8
       obtain ⟨ad101, e101, hx101_0⟩ := Kd.at_int HR0.out x8_1 p101 q101
       cases e101
       replace p101 := eq_true p101
       replace q101 := eq_true q101
       go_wp2_with (first | (go_at_call 65; (with_reducible refine (sound_First_1.calls (rd l0 x8_1) true _ A6.out).mono ?_); rintro e w' ⟨rfl, ⟨nd, rfl⟩⟩))
       go_ret
       exact ⟨by first | rfl | (simp; done) | (simp [*]; done), by repeat (first | exact Drawn0.refl _ | apply Drawn0.step)⟩
      replace c7 := Bool.eq_false_iff.mpr c7
      subst c7
      have H1 : (slices_IndexFunc_Answer_sound_First_1.l0 k1 l0 (l0.length : Int) (wrap64 (x8_1 + 1))) = some r := by rw [if_neg (show ¬ (false = true) by decide)] at H; exact H
      clear H
      have H := H1
      clear H1
      have H' := zam H
      clear H
      have p101 : 0 ≤ (x8_1 : Int) := zod zq8
      have q101 : x8_1 < (l0.length : Int) := zod zq8
      obtain ⟨ad101, e101, hx101_0⟩ := Kd.at_int HR0.out x8_1 p101 q101
      cases e101
      replace p101 := eq_true p101
      replace q101 := eq_true q101
      go_wp2_with (first | (go_at_call 65; (with_reducible refine (sound_First_1.calls (rd l0 x8_1) false _ A6.out).mono ?_); rintro e w' ⟨rfl, ⟨nd, rfl⟩⟩))
      go_roundg k1
      case measure => have := HK1.out; omega
      case rel => exact ⟨(wrap64 (x8_1 + 1)), zq9, H', ⟨by have := HK1.out; omega⟩, by repeat (first | exact Drawn0.refl _ | apply Drawn0.step)⟩
     rw [if_neg c5] at H
     exact absurd H (by simp)
    rw [if_neg c4] at H
    exact absurd H (by simp)
   rw [if_neg c3] at H
   have c3b0 : decide (x8_1 < (l0.length : Int)) = false := zdf c3
   clear c3
   obtain rfl := zsi H
   go_wp2
   go_ret
   exact ⟨by first | rfl | (simp; done) | (simp [*]; done), by repeat (first | exact Drawn0.refl _ | apply Drawn0.step)⟩
def sound_enough.l0 : Nat → Int → Int → Int → List Int → Int → Int → Option (Int)
 | 0, _, _, _, _, _, _ => none
 | k + 1, x0, x5, x6, x9, x10, x11 => if x11 < x10 then (if 0 ≤ x11 then (if x11 < (x9.length : Int) then (if (rd x9 x11) = 2 then (if (rd x9 x11) = 0 then (sound_enough.l0 k x0 (wrap64 (x5 + 1)) x6 x9 x10 (wrap64 (x11 + 1))) else (sound_enough.l0 k x0 (wrap64 (x5 + 1)) (wrap64 (x6 + 1)) x9 x10 (wrap64 (x11 + 1)))) else (if (rd x9 x11) = 0 then (sound_enough.l0 k x0 x5 x6 x9 x10 (wrap64 (x11 + 1))) else (sound_enough.l0 k x0 x5 (wrap64 (x6 + 1)) x9 x10 (wrap64 (x11 + 1))))) else (none)) else (none)) else (if x5 ≥ x0 then (some 2) else (if x6 < x0 then (some 0) else (some 1)))
def sound_enough.f (k : Nat) (a0 : Int) (l1 : List Int) : Option (Int) := sound_enough.l0 k a0 0 0 l1 (l1.length : Int) 0
theorem sound_enough.mono_l : ∀ k, (∀ y0 y1 y2 y3 y4 y5, LeO (sound_enough.l0 k y0 y1 y2 y3 y4 y5) (sound_enough.l0 (k + 1) y0 y1 y2 y3 y4 y5))
 | 0 => fun _ _ _ _ _ _ r h => by simp [sound_enough.l0] at h
 | k + 1 => by
  have ih0 := sound_enough.mono_l k
  intro y0 y1 y2 y3 y4 y5
  unfold sound_enough.l0
  repeat' first
  | (with_reducible exact ih0 _ _ _ _ _ _)
  | (with_reducible exact LeO.refl _)
  | (with_reducible exact LeO.none _)
  | (with_reducible refine LeO.ite ?_ ?_)
  | (with_reducible refine LeO.bind ?_ (fun _ => ?_))
  | exact ih0 _ _ _ _ _ _
  | exact LeO.none _
  | refine LeO.ite ?_ ?_
  | refine LeO.bind ?_ (fun _ => ?_)
theorem sound_enough.mono : ∀ a0 a1 k, LeO (sound_enough.f k a0 a1) (sound_enough.f (k + 1) a0 a1) := by
 intro a0 a1 k
 have ih0 := sound_enough.mono_l k
 unfold sound_enough.f
 repeat' first
   | (with_reducible exact ih0 _ _ _ _ _ _)
   | (with_reducible exact LeO.refl _)
   | (with_reducible exact LeO.none _)
   | (with_reducible refine LeO.ite ?_ ?_)
   | (with_reducible refine LeO.bind ?_ (fun _ => ?_))
   | exact ih0 _ _ _ _ _ _
   | exact LeO.none _
   | refine LeO.ite ?_ ?_
   | refine LeO.bind ?_ (fun _ => ?_)
set_option maxHeartbeats 8000000 in
set_option maxRecDepth 100000 in
theorem sound_enough.calls (k : Nat) (a0 : Int) (A1 : Option Addr) (c1 : Nat) (l1 : List Int) (r : Int) (w : World) (hr1 : Kd.C (Kd.int .i64) w A1 l1.length l1) (hc1 : l1.length ≤ c1) (h : sound_enough.f k a0 l1 = some r) :
  Calls Try.prog 107 #[.int .i64 a0, .slice A1 l1.length c1] w fun e w' => e = .returned (.int .i64 r) ∧ Drawn0 w w' := by
 have HR1 := zam hr1
 have HC1 := zam hc1
 clear hr1 hc1
 have H : (sound_enough.l0 k a0 0 0 l1 (l1.length : Int) 0) = some r := h
 clear h
 have H' := zam H
 clear H
 go_enter Try.func107, Try.ntmps107
 go_wp2
 go_loopg [5, 6, 11] k (fun kq v5 v6 v11 w' => ∃ (x5_1 : Int) (x6_1 : Int) (x11_1 : Int), v5 = .int .i64 x5_1 ∧ v6 = .int .i64 x6_1 ∧ v11 = .int .i64 x11_1 ∧ Aside0 (sound_enough.l0 kq a0 x5_1 x6_1 l1 (l1.length : Int) x11_1 = some r) ∧ Aside0 (kq ≤ k) ∧ Drawn0 w w')
 case atStart => exact ⟨(0), (0), (0), zq9, zq9, zq9, H', ⟨Nat.le_refl _⟩, by repeat (first | exact Drawn0.refl _ | apply Drawn0.step)⟩
 case round =>
  clear H'
  try clear c1
  try clear p2
  obtain ⟨x5_1, x6_1, x11_1, rfl, rfl, rfl, HA, HK1, ⟨m1, rfl⟩⟩ := hrel
  cases gk with
  | zero => exact absurd HA.out (by simp [sound_enough.l0])
  | succ k1 =>
   have H := HA.out
   clear HA
   simp only [sound_enough.l0] at H
   by_cases c3 : x11_1 < (l1.length : Int)
   ·rw [if_pos c3] at H
    have c3b0 : decide (x11_1 < (l1.length : Int)) = true := zdt c3
    clear c3
    by_cases c4 : 0 ≤ x11_1
    ·rw [if_pos c4] at H
     have c4b0 : decide (0 ≤ x11_1) = true := zdt c4
     clear c4
     by_cases c5 : x11_1 < (l1.length : Int)
     ·rw [if_pos c5] at H
      have c5b0 : decide (x11_1 < (l1.length : Int)) = true := zdt c5
      clear c5
      by_cases c6 : (rd l1 x11_1) = 2
      ·rw [if_pos c6] at H
       have c6b0 : ((rd l1 x11_1) == 2) = true := beq_iff_eq.mpr c6
       have c6b1 : ((rd l1 x11_1) != 2) = false := bne_eq_false_iff_eq.mpr c6
       clear c6
       by_cases c7 : (rd l1 x11_1) = 0
       ·rw [if_pos c7] at H
        have c7b0 : ((rd l1 x11_1) == 0) = true := beq_iff_eq.mpr c7
        have c7b1 : ((rd l1 x11_1) != 0) = false := bne_eq_false_iff_eq.mpr c7
        clear c7
        have H' := zam H
        clear H
        have p101 : 0 ≤ (x11_1 : Int) := zod zq8
        have q101 : x11_1 < (l1.length : Int) := zod zq8
        obtain ⟨ad101, e101, hx101_0⟩ := Kd.at_int HR1.out x11_1 p101 q101
        cases e101
        replace p101 := eq_true p101
        replace q101 := eq_true q101
        go_wp2
        go_roundg k1
        case measure => have := HK1.out; omega
        case rel => exact ⟨(wrap64 (x5_1 + 1)), (x6_1), (wrap64 (x11_1 + 1)), zq9, zq9, zq9, H', ⟨by have := HK1.out; omega⟩, by repeat (first | exact Drawn0.refl _ | apply Drawn0.step)⟩
       rw [if_neg c7] at H
       have c7b0 : ((rd l1 x11_1) == 0) = false := beq_eq_false_iff_ne.mpr c7
       have c7b1 : ((rd l1 x11_1) != 0) = true := bne_iff_ne.mpr c7
       have H' := zam H
       clear H
       have p101 : 0 ≤ (x11_1 : Int) := zod zq8
       have q101 : x11_1 < (l1.length : Int) := zod zq8
       obtain ⟨ad101, e101, hx101_0⟩ := Kd.at_int HR1.out x11_1 p101 q101
       cases e101
       replace p101 := eq_true p101
       replace q101 := eq_true q101
       go_wp2
       go_roundg k1
       case measure => have := HK1.out; omega
       case rel => exact ⟨(wrap64 (x5_1 + 1)), (wrap64 (x6_1 + 1)), (wrap64 (x11_1 + 1)), zq9, zq9, zq9, H', ⟨by have := HK1.out; omega⟩, by repeat (first | exact Drawn0.refl _ | apply Drawn0.step)⟩
      rw [if_neg c6] at H
      have c6b0 : ((rd l1 x11_1) == 2) = false := beq_eq_false_iff_ne.mpr c6
      have c6b1 : ((rd l1 x11_1) != 2) = true := bne_iff_ne.mpr c6
      by_cases c8 : (rd l1 x11_1) = 0
      ·rw [if_pos c8] at H
       have c8b0 : ((rd l1 x11_1) == 0) = true := beq_iff_eq.mpr c8
       have c8b1 : ((rd l1 x11_1) != 0) = false := bne_eq_false_iff_eq.mpr c8
       clear c8
       have H' := zam H
       clear H
       have p101 : 0 ≤ (x11_1 : Int) := zod zq8
       have q101 : x11_1 < (l1.length : Int) := zod zq8
       obtain ⟨ad101, e101, hx101_0⟩ := Kd.at_int HR1.out x11_1 p101 q101
       cases e101
       replace p101 := eq_true p101
       replace q101 := eq_true q101
       go_wp2
       go_roundg k1
       case measure => have := HK1.out; omega
       case rel => exact ⟨(x5_1), (x6_1), (wrap64 (x11_1 + 1)), zq9, zq9, zq9, H', ⟨by have := HK1.out; omega⟩, by repeat (first | exact Drawn0.refl _ | apply Drawn0.step)⟩
      rw [if_neg c8] at H
      have c8b0 : ((rd l1 x11_1) == 0) = false := beq_eq_false_iff_ne.mpr c8
      have c8b1 : ((rd l1 x11_1) != 0) = true := bne_iff_ne.mpr c8
      have H' := zam H
      clear H
      have p101 : 0 ≤ (x11_1 : Int) := zod zq8
      have q101 : x11_1 < (l1.length : Int) := zod zq8
      obtain ⟨ad101, e101, hx101_0⟩ := Kd.at_int HR1.out x11_1 p101 q101
      cases e101
      replace p101 := eq_true p101
      replace q101 := eq_true q101
      go_wp2
      go_roundg k1
      case measure => have := HK1.out; omega
      case rel => exact ⟨(x5_1), (wrap64 (x6_1 + 1)), (wrap64 (x11_1 + 1)), zq9, zq9, zq9, H', ⟨by have := HK1.out; omega⟩, by repeat (first | exact Drawn0.refl _ | apply Drawn0.step)⟩
     rw [if_neg c5] at H
     exact absurd H (by simp)
    rw [if_neg c4] at H
    exact absurd H (by simp)
   rw [if_neg c3] at H
   have c3b0 : decide (x11_1 < (l1.length : Int)) = false := zdf c3
   clear c3
   by_cases c9 : x5_1 ≥ a0
   ·rw [if_pos c9] at H
    have c9b0 : decide (a0 ≤ x5_1) = true := zdt c9
    clear c9
    obtain rfl := zsi H
    go_wp2
    go_ret
    exact ⟨by first | rfl | (simp; done) | (simp [*]; done), by repeat (first | exact Drawn0.refl _ | apply Drawn0.step)⟩
   rw [if_neg c9] at H
   have c9b0 : decide (a0 ≤ x5_1) = false := zdf c9
   clear c9
   by_cases c10 : x6_1 < a0
   ·rw [if_pos c10] at H
    have c10b0 : decide (x6_1 < a0) = true := zdt c10
    clear c10
    obtain rfl := zsi H
    go_wp2
    go_ret
    exact ⟨by first | rfl | (simp; done) | (simp [*]; done), by repeat (first | exact Drawn0.refl _ | apply Drawn0.step)⟩
   rw [if_neg c10] at H
   have c10b0 : decide (x6_1 < a0) = false := zdf c10
   clear c10
   obtain rfl := zsi H
   go_wp2
   go_ret
   exact ⟨by first | rfl | (simp; done) | (simp [*]; done), by repeat (first | exact Drawn0.refl _ | apply Drawn0.step)⟩
def sound_high.j0 : Nat → Int → Bool → Int → Int → Option (Int)
 | 0, _, _, _, _ => none
 | k + 1, x1, x5, x102000, x102001 => if x5 = true then (some 2) else (if x102000 > (wrap64 (-x1)) then (if x102001 < x1 then (some 0) else (some 1)) else (some 1))
def sound_high.f (k : Nat) (a0_0 : Int) (a0_1 : Int) (a1 : Int) : Option (Int) := if a0_0 ≥ a1 then (sound_high.j0 k a1 true a0_0 a0_1) else (sound_high.j0 k a1 (decide (a0_1 ≤ (wrap64 (-a1)))) a0_0 a0_1)
theorem sound_high.mono_l : ∀ k, (∀ y0 y1 y2 y3, LeO (sound_high.j0 k y0 y1 y2 y3) (sound_high.j0 (k + 1) y0 y1 y2 y3))
 | 0 => fun _ _ _ _ r h => by simp [sound_high.j0] at h
 | k + 1 => by
  have ih0 := sound_high.mono_l k
  intro y0 y1 y2 y3
  unfold sound_high.j0
  repeat' first
  | (with_reducible exact ih0 _ _ _ _)
  | (with_reducible exact LeO.refl _)
  | (with_reducible exact LeO.none _)
  | (with_reducible refine LeO.ite ?_ ?_)
  | (with_reducible refine LeO.bind ?_ (fun _ => ?_))
  | exact ih0 _ _ _ _
  | exact LeO.none _
  | refine LeO.ite ?_ ?_
  | refine LeO.bind ?_ (fun _ => ?_)
theorem sound_high.mono : ∀ a0 a1 a2 k, LeO (sound_high.f k a0 a1 a2) (sound_high.f (k + 1) a0 a1 a2) := by
 intro a0 a1 a2 k
 have ih0 := sound_high.mono_l k
 unfold sound_high.f
 repeat' first
   | (with_reducible exact ih0 _ _ _ _)
   | (with_reducible exact LeO.refl _)
   | (with_reducible exact LeO.none _)
   | (with_reducible refine LeO.ite ?_ ?_)
   | (with_reducible refine LeO.bind ?_ (fun _ => ?_))
   | exact ih0 _ _ _ _
   | exact LeO.none _
   | refine LeO.ite ?_ ?_
   | refine LeO.bind ?_ (fun _ => ?_)
set_option maxHeartbeats 8000000 in
set_option maxRecDepth 100000 in
theorem sound_high.calls (k : Nat) (a0_0 : Int) (a0_1 : Int) (a1 : Int) (r : Int) (w : World) (h : sound_high.f k a0_0 a0_1 a1 = some r) :
  Calls Try.prog 129 #[.agg #[.int .i64 a0_0, .int .i64 a0_1], .int .i64 a1] w fun e w' => e = .returned (.int .i64 r) ∧ Below w.heap.size w w' := by
 have hu24 := Try.underlying24
 have HB := zam (Below.refl w.heap.size w)
 have H : (if a0_0 ≥ a1 then (sound_high.j0 k a1 true a0_0 a0_1) else (sound_high.j0 k a1 (decide (a0_1 ≤ (wrap64 (-a1)))) a0_0 a0_1)) = some r := h
 clear h
 have HC3 := zam H
 clear H
 go_enter Try.func129, Try.ntmps129
 go_upto_region 1 with (first | ((with_reducible refine zgd (N := 2) rfl ?_); refine box_event ?hg (N := 2) ?hd (cs := #[.int .i64 a0_0, .int .i64 a0_1]) (t := 24) ?hr ?_; (case hd => rfl); (case hg => rfl); (case hr => first | (go_simp; done) | (go_simp; rfl)); intro gb101 hg w4 hbox hb; have n0_ := zam (zbt zq1 hb); have n1_ := zam (hbox); have n2_ := zam ((by rw [hg]; exact (zbz zq1) : w.heap.size ≤ gb101)); have n3_ := zam ((by rw [hg]; exact (zbz zq1) : w.heap.size ≤ gb101)); clear HB; have HB := n0_; have BK101 := n1_; have GW101 := n2_; have GE101 := n3_; clear n0_ n1_ n2_ n3_; clear hb hbox hg))
 (try simp only [Act.put, zsa, zsz, zss])
 go_cut [5] (fun v5 wc => ∃ (kq : Nat) (x5_2 : Bool), v5 = .bool x5_2 ∧ Aside0 (sound_high.j0 kq a1 x5_2 a0_0 a0_1 = some r) ∧ Aside0 (kq ≤ k) ∧ Aside0 (wc.heap[gb101]? = some (.cells #[.int .i64 a0_0, .int .i64 a0_1] 24 (0, 0))) ∧ Aside0 (Below w.heap.size w wc))
 case first =>
  have H := HC3.out
  clear HC3
  by_cases c5 : a0_0 ≥ a1
  ·rw [if_pos c5] at H
   have c5b0 : decide (a1 ≤ a0_0) = true := zdt c5
   clear c5
   (first | rw [c5b0] | (simp only [i64_w, i32_w]; rw [c5b0]) | skip)
   have H' := zam H
   clear H
   have hcz6_0 : w4.cell? ⟨gb101, 0, none⟩ = some (.int .i64 a0_0) := (zkc BK101.out 0).trans rfl
   have hcz6_1 : w4.cell? ⟨gb101, 1, none⟩ = some (.int .i64 a0_1) := (zkc BK101.out 1).trans rfl
   have hfz6_0 := zkz BK101.out 0
   have hfz6_1 := zkz BK101.out 1
   go_wp2
   go_meet
   case rel => exact ⟨_, (true), zq9, H', ⟨by first | omega | exact Nat.le_refl _⟩, ⟨by (with_reducible repeat (first | refine zkn ?_ _ | refine zkd ?_ | refine zka ?_ _)); exact BK101.out⟩, ⟨by repeat (first | (with_reducible first | exact HB.out | apply zba | apply zbn | apply zb1 | refine zbs ?_ GE101.out) | exact HB.out)⟩⟩
  rw [if_neg c5] at H
  have c5b0 : decide (a1 ≤ a0_0) = false := zdf c5
  clear c5
  (first | rw [c5b0] | (simp only [i64_w, i32_w]; rw [c5b0]) | skip)
  have H' := zam H
  clear H
  have hcz7_0 : w4.cell? ⟨gb101, 0, none⟩ = some (.int .i64 a0_0) := (zkc BK101.out 0).trans rfl
  have hcz7_1 : w4.cell? ⟨gb101, 1, none⟩ = some (.int .i64 a0_1) := (zkc BK101.out 1).trans rfl
  have hfz7_0 := zkz BK101.out 0
  have hfz7_1 := zkz BK101.out 1
  go_wp2
  go_meet
  case rel => exact ⟨_, (decide (a0_1 ≤ (wrap64 (-a1)))), zq9, H', ⟨by first | omega | exact Nat.le_refl _⟩, ⟨by (with_reducible repeat (first | refine zkn ?_ _ | refine zkd ?_ | refine zka ?_ _)); exact BK101.out⟩, ⟨by repeat (first | (with_reducible first | exact HB.out | apply zba | apply zbn | apply zb1 | refine zbs ?_ GE101.out) | exact HB.out)⟩⟩
 case rest =>
  clear HC3
  try clear c1
  try clear p2
  try clear c5
  try clear c5b0
  try clear p6
  try clear hcz6_0
  try clear hcz6_1
  try clear hcz7_0
  try clear hcz7_1
  try clear hfz6_0
  try clear hfz6_1
  try clear hfz7_0
  try clear hfz7_1
  obtain ⟨kq, x5_2, rfl, HA, HJ2, BK101, HB⟩ := hcut
  cases kq with
  | zero => exact absurd HA.out (by simp [sound_high.j0])
  | succ kj2 =>
   have H := HA.out
   clear HA
   simp only [sound_high.j0] at H
   by_cases c8 : x5_2 = true
   ·subst c8
    have H1 : (some 2) = some r := by rw [if_pos rfl] at H; exact H
    clear H
    have H := H1
    clear H1
    obtain rfl := zsi H
    go_wp2
    go_ret
    exact ⟨by first | rfl | (simp [errW_none, errW_some] <;> rfl) | (simp [*, errW_none, errW_some] <;> rfl), by repeat (first | (with_reducible first | exact HB.out | apply zba | apply zbn | apply zb1 | refine zbs ?_ GE101.out) | exact HB.out)⟩
   replace c8 := Bool.eq_false_iff.mpr c8
   subst c8
   have H1 : (if a0_0 > (wrap64 (-a1)) then (if a0_1 < a1 then (some 0) else (some 1)) else (some 1)) = some r := by rw [if_neg (show ¬ (false = true) by decide)] at H; exact H
   clear H
   have H := H1
   clear H1
   by_cases c9 : a0_0 > (wrap64 (-a1))
   ·rw [if_pos c9] at H
    have c9b0 : decide ((wrap64 (-a1)) < a0_0) = true := zdt c9
    clear c9
    by_cases c10 : a0_1 < a1
    ·rw [if_pos c10] at H
     have c10b0 : decide (a0_1 < a1) = true := zdt c10
     clear c10
     obtain rfl := zsi H
     have hcz11_0 : wc.cell? ⟨gb101, 0, none⟩ = some (.int .i64 a0_0) := (zkc BK101.out 0).trans rfl
     have hcz11_1 : wc.cell? ⟨gb101, 1, none⟩ = some (.int .i64 a0_1) := (zkc BK101.out 1).trans rfl
     have hfz11_0 := zkz BK101.out 0
     have hfz11_1 := zkz BK101.out 1
     go_wp2
     go_ret
     exact ⟨by first | rfl | (simp [errW_none, errW_some] <;> rfl) | (simp [*, errW_none, errW_some] <;> rfl), by repeat (first | (with_reducible first | exact HB.out | apply zba | apply zbn | apply zb1 | refine zbs ?_ GE101.out) | exact HB.out)⟩
    rw [if_neg c10] at H
    have c10b0 : decide (a0_1 < a1) = false := zdf c10
    clear c10
    obtain rfl := zsi H
    have hcz12_0 : wc.cell? ⟨gb101, 0, none⟩ = some (.int .i64 a0_0) := (zkc BK101.out 0).trans rfl
    have hcz12_1 : wc.cell? ⟨gb101, 1, none⟩ = some (.int .i64 a0_1) := (zkc BK101.out 1).trans rfl
    have hfz12_0 := zkz BK101.out 0
    have hfz12_1 := zkz BK101.out 1
    go_wp2
    go_ret
    exact ⟨by first | rfl | (simp [errW_none, errW_some] <;> rfl) | (simp [*, errW_none, errW_some] <;> rfl), by repeat (first | (with_reducible first | exact HB.out | apply zba | apply zbn | apply zb1 | refine zbs ?_ GE101.out) | exact HB.out)⟩
   rw [if_neg c9] at H
   have c9b0 : decide ((wrap64 (-a1)) < a0_0) = false := zdf c9
   clear c9
   obtain rfl := zsi H
   have hcz13_0 : wc.cell? ⟨gb101, 0, none⟩ = some (.int .i64 a0_0) := (zkc BK101.out 0).trans rfl
   have hcz13_1 : wc.cell? ⟨gb101, 1, none⟩ = some (.int .i64 a0_1) := (zkc BK101.out 1).trans rfl
   have hfz13_0 := zkz BK101.out 0
   have hfz13_1 := zkz BK101.out 1
   go_wp2
   go_ret
   exact ⟨by first | rfl | (simp [errW_none, errW_some] <;> rfl) | (simp [*, errW_none, errW_some] <;> rfl), by repeat (first | (with_reducible first | exact HB.out | apply zba | apply zbn | apply zb1 | refine zbs ?_ GE101.out) | exact HB.out)⟩
mutual
def sound_risen.l0 : Nat → List Int → Int → Int → Int → List (S24) → Int → Int → Int → Int → Int → Option (List Int)
 | 0, _, _, _, _, _, _, _, _, _, _ => none
 | k + 1, x5, x6, x7, x8, x17, x18, x19, x103000, x103001, x103002 => if x19 < x18 then (if 0 ≤ x19 then (if x19 < (x17.length : Int) then ((sound_high.f k ((rd_T24 x17 x19).f0) ((rd_T24 x17 x19).f1) x103000).bind fun t108 => (if t108 = 2 then (sound_risen.j1 k x5 (wrap64 (x6 + 1)) (wrap64 (x7 + 1)) x8 x19 t108 x17 x18 x19 x103000 x103001 x103002) else (sound_risen.j1 k x5 0 (wrap64 (x7 + 1)) x8 x19 t108 x17 x18 x19 x103000 x103001 x103002))) else (none)) else (none)) else (some x5)
def sound_risen.j1 : Nat → List Int → Int → Int → Int → Int → Int → List (S24) → Int → Int → Int → Int → Int → Option (List Int)
 | 0, _, _, _, _, _, _, _, _, _, _, _, _ => none
 | k + 1, x5, x6, x7, x8, x9, x11, x17, x18, x19, x103000, x103001, x103002 => if x11 = 0 then (sound_risen.j2 k x5 x6 0 x8 x9 x17 x18 x19 x103000 x103001 x103002) else (sound_risen.j2 k x5 x6 x7 x8 x9 x17 x18 x19 x103000 x103001 x103002)
def sound_risen.j2 : Nat → List Int → Int → Int → Int → Int → List (S24) → Int → Int → Int → Int → Int → Option (List Int)
 | 0, _, _, _, _, _, _, _, _, _, _, _ => none
 | k + 1, x5, x6, x7, x8, x9, x17, x18, x19, x103000, x103001, x103002 => if x6 ≥ x103001 then (if 0 ≤ x9 then (if x9 < (x5.length : Int) then (sound_risen.l0 k (x5.set (x9 : Int).toNat 2) x6 x7 2 x17 x18 (wrap64 (x19 + 1)) x103000 x103001 x103002) else (none)) else (none)) else (if x7 ≥ x103001 then (if 0 ≤ x9 then (if x9 < (x5.length : Int) then (sound_risen.l0 k (x5.set (x9 : Int).toNat (mx x8 1)) x6 x7 (mx x8 1) x17 x18 (wrap64 (x19 + 1)) x103000 x103001 x103002) else (none)) else (none)) else (if 0 ≤ x9 then (if x9 < (x5.length : Int) then (sound_risen.l0 k (x5.set (x9 : Int).toNat x8) x6 x7 x8 x17 x18 (wrap64 (x19 + 1)) x103000 x103001 x103002) else (none)) else (none)))
end
def sound_risen.f (k : Nat) (l0_0 : List (S24)) (a1_0 : Int) (a1_1 : Int) (a1_2 : Int) : Option (List Int) := if 0 ≤ (l0_0.length : Int) then (if ((l0_0.length : Int) : Int).toNat ≤ 35184372088832 then (sound_risen.l0 k (List.replicate ((l0_0.length : Int) : Int).toNat 0) 0 0 0 l0_0 (l0_0.length : Int) 0 a1_0 a1_1 a1_2) else (none)) else (none)
theorem sound_risen.mono_l : ∀ k, (∀ y0 y1 y2 y3 y4 y5 y6 y7 y8 y9, LeO (sound_risen.l0 k y0 y1 y2 y3 y4 y5 y6 y7 y8 y9) (sound_risen.l0 (k + 1) y0 y1 y2 y3 y4 y5 y6 y7 y8 y9)) ∧ (∀ y0 y1 y2 y3 y4 y5 y6 y7 y8 y9 y10 y11, LeO (sound_risen.j1 k y0 y1 y2 y3 y4 y5 y6 y7 y8 y9 y10 y11) (sound_risen.j1 (k + 1) y0 y1 y2 y3 y4 y5 y6 y7 y8 y9 y10 y11)) ∧ (∀ y0 y1 y2 y3 y4 y5 y6 y7 y8 y9 y10, LeO (sound_risen.j2 k y0 y1 y2 y3 y4 y5 y6 y7 y8 y9 y10) (sound_risen.j2 (k + 1) y0 y1 y2 y3 y4 y5 y6 y7 y8 y9 y10))
 | 0 => ⟨fun _ _ _ _ _ _ _ _ _ _ r h => by simp [sound_risen.l0] at h, fun _ _ _ _ _ _ _ _ _ _ _ _ r h => by simp [sound_risen.j1] at h, fun _ _ _ _ _ _ _ _ _ _ _ r h => by simp [sound_risen.j2] at h⟩
 | k + 1 => by
  obtain ⟨ih0, ih1, ih2⟩ := sound_risen.mono_l k
  refine ⟨?_, ?_, ?_⟩
  ·intro y0 y1 y2 y3 y4 y5 y6 y7 y8 y9
   unfold sound_risen.l0
   repeat' first
   | (with_reducible exact ih0 _ _ _ _ _ _ _ _ _ _)
   | (with_reducible exact ih1 _ _ _ _ _ _ _ _ _ _ _ _)
   | (with_reducible exact ih2 _ _ _ _ _ _ _ _ _ _ _)
   | (with_reducible exact sound_high.mono _ _ _ _)
   | (with_reducible exact LeO.refl _)
   | (with_reducible exact LeO.none _)
   | (with_reducible refine LeO.ite ?_ ?_)
   | (with_reducible refine LeO.bind ?_ (fun _ => ?_))
   | exact ih0 _ _ _ _ _ _ _ _ _ _
   | exact ih1 _ _ _ _ _ _ _ _ _ _ _ _
   | exact ih2 _ _ _ _ _ _ _ _ _ _ _
   | exact sound_high.mono _ _ _ _
   | exact LeO.none _
   | refine LeO.ite ?_ ?_
   | refine LeO.bind ?_ (fun _ => ?_)
  ·intro y0 y1 y2 y3 y4 y5 y6 y7 y8 y9 y10 y11
   unfold sound_risen.j1
   repeat' first
   | (with_reducible exact ih0 _ _ _ _ _ _ _ _ _ _)
   | (with_reducible exact ih1 _ _ _ _ _ _ _ _ _ _ _ _)
   | (with_reducible exact ih2 _ _ _ _ _ _ _ _ _ _ _)
   | (with_reducible exact sound_high.mono _ _ _ _)
   | (with_reducible exact LeO.refl _)
   | (with_reducible exact LeO.none _)
   | (with_reducible refine LeO.ite ?_ ?_)
   | (with_reducible refine LeO.bind ?_ (fun _ => ?_))
   | exact ih0 _ _ _ _ _ _ _ _ _ _
   | exact ih1 _ _ _ _ _ _ _ _ _ _ _ _
   | exact ih2 _ _ _ _ _ _ _ _ _ _ _
   | exact sound_high.mono _ _ _ _
   | exact LeO.none _
   | refine LeO.ite ?_ ?_
   | refine LeO.bind ?_ (fun _ => ?_)
  intro y0 y1 y2 y3 y4 y5 y6 y7 y8 y9 y10
  unfold sound_risen.j2
  repeat' first
  | (with_reducible exact ih0 _ _ _ _ _ _ _ _ _ _)
  | (with_reducible exact ih1 _ _ _ _ _ _ _ _ _ _ _ _)
  | (with_reducible exact ih2 _ _ _ _ _ _ _ _ _ _ _)
  | (with_reducible exact sound_high.mono _ _ _ _)
  | (with_reducible exact LeO.refl _)
  | (with_reducible exact LeO.none _)
  | (with_reducible refine LeO.ite ?_ ?_)
  | (with_reducible refine LeO.bind ?_ (fun _ => ?_))
  | exact ih0 _ _ _ _ _ _ _ _ _ _
  | exact ih1 _ _ _ _ _ _ _ _ _ _ _ _
  | exact ih2 _ _ _ _ _ _ _ _ _ _ _
  | exact sound_high.mono _ _ _ _
  | exact LeO.none _
  | refine LeO.ite ?_ ?_
  | refine LeO.bind ?_ (fun _ => ?_)
theorem sound_risen.mono : ∀ a0 a1 a2 a3 k, LeO (sound_risen.f k a0 a1 a2 a3) (sound_risen.f (k + 1) a0 a1 a2 a3) := by
 intro a0 a1 a2 a3 k
 obtain ⟨ih0, ih1, ih2⟩ := sound_risen.mono_l k
 unfold sound_risen.f
 repeat' first
   | (with_reducible exact ih0 _ _ _ _ _ _ _ _ _ _)
   | (with_reducible exact ih1 _ _ _ _ _ _ _ _ _ _ _ _)
   | (with_reducible exact ih2 _ _ _ _ _ _ _ _ _ _ _)
   | (with_reducible exact sound_high.mono _ _ _ _)
   | (with_reducible exact LeO.refl _)
   | (with_reducible exact LeO.none _)
   | (with_reducible refine LeO.ite ?_ ?_)
   | (with_reducible refine LeO.bind ?_ (fun _ => ?_))
   | exact ih0 _ _ _ _ _ _ _ _ _ _
   | exact ih1 _ _ _ _ _ _ _ _ _ _ _ _
   | exact ih2 _ _ _ _ _ _ _ _ _ _ _
   | exact sound_high.mono _ _ _ _
   | exact LeO.none _
   | refine LeO.ite ?_ ?_
   | refine LeO.bind ?_ (fun _ => ?_)
set_option maxHeartbeats 8000000 in
set_option maxRecDepth 100000 in
theorem sound_risen.calls (k : Nat) (A0_0 : Option Addr) (c0_0 : Nat) (l0_0 : List (S24)) (a1_0 : Int) (a1_1 : Int) (a1_2 : Int) (r : List Int) (w : World) (hr0_0 : Kd.C k24 w A0_0 l0_0.length l0_0) (hc0_0 : l0_0.length ≤ c0_0) (h : sound_risen.f k l0_0 a1_0 a1_1 a1_2 = some r) :
  Calls Try.prog 106 #[.agg #[.slice A0_0 l0_0.length c0_0], .agg #[.int .i64 a1_0, .int .i64 a1_1, .int .i64 a1_2]] w fun e w' => ∃ v0_ : Value, e = .returned (v0_) ∧ Kd.R (Kd.int .i64) 50 w' w.heap.size (fun _ => True) v0_ r ∧ Below w.heap.size w w' := by
 have hu45 := Try.underlying45
 have hu39 := Try.underlying39
 have hu24 := Try.underlying24
 have HR0_0 := zam hr0_0
 have HC0_0 := zam hc0_0
 clear hr0_0 hc0_0
 have HB := zam (Below.refl w.heap.size w)
 have H : (if 0 ≤ (l0_0.length : Int) then (if ((l0_0.length : Int) : Int).toNat ≤ 35184372088832 then (sound_risen.l0 k (List.replicate ((l0_0.length : Int) : Int).toNat 0) 0 0 0 l0_0 (l0_0.length : Int) 0 a1_0 a1_1 a1_2) else (none)) else (none)) = some r := h
 clear h
 by_cases c3 : 0 ≤ (l0_0.length : Int)
 ·rw [if_pos c3] at H
  have c3b0 := eq_true c3
  have c3b1 : decide (0 ≤ (l0_0.length : Int)) = true := zdt c3
  clear c3
  by_cases c4 : ((l0_0.length : Int) : Int).toNat ≤ 35184372088832
  ·rw [if_pos c4] at H
   have c4b0 := eq_true c4
   have c4b1 : decide (((l0_0.length : Int) : Int).toNat ≤ 35184372088832) = true := zdt c4
   clear c4
   obtain ⟨y103, hy103⟩ : ∃ y_ : List Int, y_ = (List.replicate ((l0_0.length : Int) : Int).toNat 0) := ⟨_, rfl⟩
   replace H : (sound_risen.l0 k y103 0 0 0 l0_0 (l0_0.length : Int) 0 a1_0 a1_1 a1_2) = some r := by first | (rw [hy103]; with_reducible exact H) | (have H2_ := (Option.bind_some _ _).symm.trans H; rw [hy103]; with_reducible exact H2_) | (have H2_ := (Option.bind_some _ _).symm.trans H; with_reducible exact H2_) | with_reducible exact H | (rw [hy103]; exact H) | exact H
   have Ny103 := zam hy103
   clear hy103
   have H' := zam H
   clear H
   go_enter Try.func106, Try.ntmps106
   go_wp2_with (first | ((with_reducible refine zgd (N := 2) rfl ?_); refine box_event ?hg (N := 2) ?hd (cs := #[.slice A0_0 l0_0.length c0_0]) (t := 45) ?hr ?_; (case hd => rfl); (case hg => rfl); (case hr => first | (go_simp; done) | (go_simp; rfl)); intro gb101 hg w5 hbox hb; have n0_ := zam (zbt zq1 hb); have n1_ := zam (hbox); have n2_ := zam ((by rw [hg]; exact (zbz zq1) : w.heap.size ≤ gb101)); have n3_ := zam ((by rw [hg]; exact (zbz zq1) : w.heap.size ≤ gb101)); clear HB; have HB := n0_; have BK101 := n1_; have GW101 := n2_; have GE101 := n3_; clear n0_ n1_ n2_ n3_; clear hb hbox hg) | ((with_reducible refine zgd (N := 3) rfl ?_); refine box_event ?hg (N := 3) ?hd (cs := #[.int .i64 a1_0, .int .i64 a1_1, .int .i64 a1_2]) (t := 39) ?hr ?_; (case hd => rfl); (case hg => rfl); (case hr => first | (go_simp; done) | (go_simp; rfl)); intro gb102 hg w6 hbox hb; have n0_ := zam (zkb (g := gb101) (o := .cells #[.slice A0_0 l0_0.length c0_0] 45 (0, 0)) zq0 hb); have n1_ := zam (zbt zq2 hb); have n2_ := zam (hbox); have n3_ := zam ((by rw [hg]; exact (zbz zq2) : w.heap.size ≤ gb102)); have n4_ := zam ((by rw [hg]; exact (zbz zq2) : w.heap.size ≤ gb102)); have n5_ := zam ((by rw [hg]; exact Nat.ne_of_lt (blk_lt (g := gb101) (o := .cells #[.slice A0_0 l0_0.length c0_0] 45 (0, 0)) zq0) : gb101 ≠ gb102)); have n6_ := zam ((by rw [hg]; exact Nat.ne_of_gt (blk_lt (g := gb101) (o := .cells #[.slice A0_0 l0_0.length c0_0] 45 (0, 0)) zq0) : gb102 ≠ gb101)); clear BK101; clear HB; have BK101 := n0_; have HB := n1_; have BK102 := n2_; have GW102 := n3_; have GE102 := n4_; have NB101_102 := n5_; have NB102_101 := n6_; clear n0_ n1_ n2_ n3_ n4_ n5_ n6_; clear hb hbox hg; have hnb7 := NB101_102.out; have hnc7 := NB102_101.out; have hcz8_0 : w6.cell? ⟨gb101, 0, none⟩ = some (.slice A0_0 l0_0.length c0_0) := (zkc BK101.out 0).trans rfl; have hfz8_0 := zkz BK101.out 0) | ((with_reducible refine zgd (N := 15) rfl ?_); refine Kd.R_make (Kd.int .i64) _ 50 rfl (N := 15) rfl 66 _ _ rfl (l0_0.length : Int) rfl rfl Try.underlying66 (.int .i64 0) 8 info50 rfl (by decide) (by omega) 0 (ok := fun _ => True) (okp := fun _ => True) rfl (fun _ hk => hk) trivial (zod zq8) (Nat.le_trans (Nat.mul_le_mul_right _ (zod zq8 : (l0_0.length : Int).toNat ≤ 35184372088832)) (by omega)) (Below.refl _ _) (Nat.le_refl _) ?_; intro v104 w9 ho10 hb hg_ hnew_; clear hg_ hnew_; (first | rw [← Ny103.out] at ho10 | (simp only [Int.reduceToNat] at ho10; rw [← Ny103.out] at ho10)); have n0_ := zam (Kd.R_lower ho10 (zbz zq10)); have n1_ := zam (zkb (g := gb101) (o := .cells #[.slice A0_0 l0_0.length c0_0] 45 (0, 0)) zq0 hb); have n2_ := zam (zkb (g := gb102) (o := .cells #[.int .i64 a1_0, .int .i64 a1_1, .int .i64 a1_2] 39 (0, 0)) zq6 hb); have n3_ := zam (zbt zq10 hb); clear BK101; clear BK102; clear HB; have HO105 := n0_; have BK101 := n1_; have BK102 := n2_; have HB := n3_; clear n0_ n1_ n2_ n3_; clear hb ho10; have hcz11_0 : w9.cell? ⟨gb101, 0, none⟩ = some (.slice A0_0 l0_0.length c0_0) := (zkc BK101.out 0).trans rfl; have hfz11_0 := zkz BK101.out 0))
   go_loopg [6, 7, 8, 19] k (fun kq v6 v7 v8 v19 w' => ∃ (x5_1 : List Int) (x6_1 : Int) (x7_1 : Int) (x8_1 : Int) (x19_1 : Int), v6 = .int .i64 x6_1 ∧ v7 = .int .i64 x7_1 ∧ v8 = .int .i64 x8_1 ∧ v19 = .int .i64 x19_1 ∧ Aside0 (sound_risen.l0 kq x5_1 x6_1 x7_1 x8_1 l0_0 (l0_0.length : Int) x19_1 a1_0 a1_1 a1_2 = some r) ∧ Aside0 (kq ≤ k) ∧ Aside0 (Kd.R (Kd.int .i64) 50 w' w.heap.size (fun _ => True) v104 x5_1) ∧ Aside0 (w'.heap[gb101]? = some (.cells #[(.slice A0_0 l0_0.length c0_0)] 45 (0, 0))) ∧ Aside0 (w'.heap[gb102]? = some (.cells #[.int .i64 a1_0, .int .i64 a1_1, .int .i64 a1_2] 39 (0, 0))) ∧ Aside0 (Below w.heap.size w w'))
   case atStart => exact ⟨(y103), (0), (0), (0), (0), zq9, zq9, zq9, zq9, H', ⟨Nat.le_refl _⟩, ⟨by (with_reducible repeat (first | apply zRa | apply zRn | apply zRd)); exact HO105.out⟩, ⟨by (with_reducible repeat (first | refine zkn ?_ _ | refine zkd ?_ | refine zka ?_ _)); exact BK101.out⟩, ⟨by (with_reducible repeat (first | refine zkn ?_ _ | refine zkd ?_ | refine zka ?_ _)); exact BK102.out⟩, ⟨by repeat (first | (with_reducible first | exact HB.out | apply zba | apply zbn | apply zb1 | refine zbs ?_ GE101.out | refine zbs ?_ GE102.out) | exact HB.out)⟩⟩
   case round =>
    clear H'
    try clear c1
    try clear p2
    try clear c3
    try clear c3b0
    try clear c3b1
    try clear c4
    try clear c4b0
    try clear c4b1
    try clear c7
    try clear c10
    try clear hcz11_0
    try clear hcz8_0
    try clear hfz11_0
    try clear hfz8_0
    obtain ⟨x5_1, x6_1, x7_1, x8_1, x19_1, rfl, rfl, rfl, rfl, HA, HK1, HO_5, BK101, BK102, HB⟩ := hrel
    cases gk with
    | zero => exact absurd HA.out (by simp [sound_risen.l0])
    | succ k1 =>
     have H := HA.out
     clear HA
     simp only [sound_risen.l0] at H
     by_cases c12 : x19_1 < (l0_0.length : Int)
     ·rw [if_pos c12] at H
      have c12b0 : decide (x19_1 < (l0_0.length : Int)) = true := zdt c12
      clear c12
      by_cases c13 : 0 ≤ x19_1
      ·rw [if_pos c13] at H
       have c13b0 : decide (0 ≤ x19_1) = true := zdt c13
       clear c13
       by_cases c14 : x19_1 < (l0_0.length : Int)
       ·rw [if_pos c14] at H
        have c14b0 : decide (x19_1 < (l0_0.length : Int)) = true := zdt c14
        clear c14
        replace H := Option.bind_eq_some_iff.mp H
        obtain ⟨t108, A150, H⟩ := H
        replace H : (if t108 = 2 then (sound_risen.j1 k1 x5_1 (wrap64 (x6_1 + 1)) (wrap64 (x7_1 + 1)) x8_1 x19_1 t108 l0_0 (l0_0.length : Int) x19_1 a1_0 a1_1 a1_2) else (sound_risen.j1 k1 x5_1 0 (wrap64 (x7_1 + 1)) x8_1 x19_1 t108 l0_0 (l0_0.length : Int) x19_1 a1_0 a1_1 a1_2)) = some r := H
        have A15 := zam A150
        clear A150
        have HC16 := zam H
        clear H
        have p106 : 0 ≤ (x19_1 : Int) := zod zq8
        have q106 : x19_1 < (l0_0.length : Int) := zod zq8
        obtain ⟨ad106, e106, hx106_0, hx106_1⟩ := at_T24 HR0_0.out x19_1 p106 q106
        cases e106
        replace hx106_0 := (HB.out.cell (zwb w _ hx106_0)).trans hx106_0
        replace hx106_1 := (HB.out.cell (zwb w _ hx106_1)).trans hx106_1
        replace p106 := eq_true p106
        replace q106 := eq_true q106
        go_upto_if 33 with (first | ((with_reducible refine zgd (N := 10) rfl ?_); refine box_event ?hg (N := 10) ?hd (cs := #[.int .i64 0, .int .i64 0]) (t := 24) ?hr ?_; (case hd => rfl); (case hg => rfl); (case hr => first | (go_simp; done) | (go_simp; rfl)); intro gb107 hg w17 hbox hb; have n0_ := zam (Kd.R_below (by (with_reducible repeat (first | apply zRa | apply zRn | apply zRd)); exact HO_5.out) hb); have n1_ := zam (zkb (g := gb101) (o := .cells #[.slice (some ad106) l0_0.length c0_0] 45 (0, 0)) zq0 hb); have n2_ := zam (zkb (g := gb102) (o := .cells #[.int .i64 a1_0, .int .i64 a1_1, .int .i64 a1_2] 39 (0, 0)) zq6 hb); have n3_ := zam (zbt zq10 hb); have n4_ := zam (hbox); have n5_ := zam ((by rw [hg]; exact (zbz zq10) : w.heap.size ≤ gb107)); have n6_ := zam ((by rw [hg]; exact (zbz zq10) : w.heap.size ≤ gb107)); have n7_ := zam ((by rw [hg]; exact Nat.ne_of_lt (blk_lt (g := gb101) (o := .cells #[.slice (some ad106) l0_0.length c0_0] 45 (0, 0)) zq0) : gb101 ≠ gb107)); have n8_ := zam ((by rw [hg]; exact Nat.ne_of_gt (blk_lt (g := gb101) (o := .cells #[.slice (some ad106) l0_0.length c0_0] 45 (0, 0)) zq0) : gb107 ≠ gb101)); have n9_ := zam ((by rw [hg]; exact Nat.ne_of_lt (blk_lt (g := gb102) (o := .cells #[.int .i64 a1_0, .int .i64 a1_1, .int .i64 a1_2] 39 (0, 0)) zq6) : gb102 ≠ gb107)); have n10_ := zam ((by rw [hg]; exact Nat.ne_of_gt (blk_lt (g := gb102) (o := .cells #[.int .i64 a1_0, .int .i64 a1_1, .int .i64 a1_2] 39 (0, 0)) zq6) : gb107 ≠ gb102)); clear HO_5; clear BK101; clear BK102; clear HB; have HO_5 := n0_; have BK101 := n1_; have BK102 := n2_; have HB := n3_; have BK107 := n4_; have GW107 := n5_; have GE107 := n6_; have NB101_107 := n7_; have NB107_101 := n8_; have NB102_107 := n9_; have NB107_102 := n10_; clear n0_ n1_ n2_ n3_ n4_ n5_ n6_ n7_ n8_ n9_ n10_; clear hb hbox hg; have hnb18 := NB107_101.out; have hnc18 := NB101_107.out; have hnb19 := NB107_102.out; have hnc19 := NB102_107.out; have hcz20_0 : w17.cell? ⟨gb107, 0, none⟩ = some (.int .i64 0) := (zkc BK107.out 0).trans rfl; have hcz20_1 : w17.cell? ⟨gb107, 1, none⟩ = some (.int .i64 0) := (zkc BK107.out 1).trans rfl; have hfz20_0 := zkz BK107.out 0; have hfz20_1 := zkz BK107.out 1; have hnb21 := NB102_101.out; have hnc21 := NB101_102.out; have hcz22_0 : w17.cell? ⟨gb102, 0, none⟩ = some (.int .i64 a1_0) := (zkc BK102.out 0).trans rfl; have hcz22_1 : w17.cell? ⟨gb102, 1, none⟩ = some (.int .i64 a1_1) := (zkc BK102.out 1).trans rfl; have hcz22_2 : w17.cell? ⟨gb102, 2, none⟩ = some (.int .i64 a1_2) := (zkc BK102.out 2).trans rfl; have hfz22_0 := zkz BK102.out 0; have hfz22_1 := zkz BK102.out 1; have hfz22_2 := zkz BK102.out 2) | ((with_reducible refine zgc (f := 129) rfl ?_); refine goesL_ (some 27) rfl rfl Try.func129 (by kernel_rfl) rfl #[.agg #[.int .i64 ((rd_T24 l0_0 x19_1).f0), .int .i64 ((rd_T24 l0_0 x19_1).f1)], .int .i64 a1_0] rfl zq4 ?_; (with_reducible refine (sound_high.calls k1 ((rd_T24 l0_0 x19_1).f0) ((rd_T24 l0_0 x19_1).f1) a1_0 t108 _ A15.out).mono ?_); rintro e w23 ⟨rfl, hb⟩; refine ⟨_, rfl, ?_⟩; have n0_ := zam (Kd.R_below (by (with_reducible repeat (first | apply zRa | apply zRn | apply zRd)); exact (Kd.R_mono (Kd.R_far (p := ⟨gb107, 1, none⟩) (Kd.R_far (p := ⟨gb107, 0, none⟩) (Kd.R_types HO_5.out BK107.out (by decide)) (fun _ hk => hk.2) (.int .i64 ((rd_T24 l0_0 x19_1).f0))) (fun _ hk => hk.2) (.int .i64 ((rd_T24 l0_0 x19_1).f1))) (fun _ h_ => h_.1))) hb); have n1_ := zam (zkb (g := gb101) (o := .cells #[.slice (some ad106) l0_0.length c0_0] 45 (0, 0)) (by (with_reducible repeat (first | refine zkn ?_ _ | refine zkd ?_ | refine zka ?_ _)); refine zkf ?_ NB101_107.out _; (with_reducible repeat (first | refine zkn ?_ _ | refine zkd ?_ | refine zka ?_ _)); refine zkf ?_ NB101_107.out _; (with_reducible repeat (first | refine zkn ?_ _ | refine zkd ?_ | refine zka ?_ _)); exact BK101.out) hb); have n2_ := zam (zkb (g := gb102) (o := .cells #[.int .i64 a1_0, .int .i64 a1_1, .int .i64 a1_2] 39 (0, 0)) (by (with_reducible repeat (first | refine zkn ?_ _ | refine zkd ?_ | refine zka ?_ _)); refine zkf ?_ NB102_107.out _; (with_reducible repeat (first | refine zkn ?_ _ | refine zkd ?_ | refine zka ?_ _)); refine zkf ?_ NB102_107.out _; (with_reducible repeat (first | refine zkn ?_ _ | refine zkd ?_ | refine zka ?_ _)); exact BK102.out) hb); have n3_ := zam (zkb (g := gb107) (o := .cells #[.int .i64 ((rd_T24 l0_0 x19_1).f0), .int .i64 ((rd_T24 l0_0 x19_1).f1)] 24 (0, 0)) (by (with_reducible repeat (first | refine zkn ?_ _ | refine zkd ?_ | refine zka ?_ _)); refine blk_put (cs := #[.int .i64 ((rd_T24 l0_0 x19_1).f0), .int .i64 0]) ?_ 1 _ rfl; (with_reducible repeat (first | refine zkn ?_ _ | refine zkd ?_ | refine zka ?_ _)); refine blk_put (cs := #[.int .i64 0, .int .i64 0]) ?_ 0 _ rfl; (with_reducible repeat (first | refine zkn ?_ _ | refine zkd ?_ | refine zka ?_ _)); exact BK107.out) hb); have n4_ := zam (zbt (by repeat (first | (with_reducible first | exact HB.out | apply zba | apply zbn | apply zb1 | refine zbs ?_ GE101.out | refine zbs ?_ GE102.out | refine zbs ?_ GE107.out) | exact HB.out)) hb); clear HO_5; clear BK101; clear BK102; clear BK107; clear HB; have HO_5 := n0_; have BK101 := n1_; have BK102 := n2_; have BK107 := n3_; have HB := n4_; clear n0_ n1_ n2_ n3_ n4_; (try clear hb); (try clear hb2); (try clear hk); (try clear hi)))
        (try simp only [Act.put, zsa, zsz, zss])
        go_cut [6] (fun v6 wc => ∃ (kq : Nat) (x6_15 : Int), v6 = .int .i64 x6_15 ∧ Aside0 (sound_risen.j1 kq x5_1 x6_15 (wrap64 (x7_1 + 1)) x8_1 x19_1 t108 l0_0 (l0_0.length : Int) x19_1 a1_0 a1_1 a1_2 = some r) ∧ Aside0 (kq ≤ k1) ∧ Aside0 (Kd.R (Kd.int .i64) 50 wc w.heap.size (fun _ => True) v104 x5_1) ∧ Aside0 (wc.heap[gb101]? = some (.cells #[(.slice (some ad106) l0_0.length c0_0)] 45 (0, 0))) ∧ Aside0 (wc.heap[gb102]? = some (.cells #[.int .i64 a1_0, .int .i64 a1_1, .int .i64 a1_2] 39 (0, 0))) ∧ Aside0 (wc.heap[gb107]? = some (.cells #[.int .i64 ((rd_T24 l0_0 x19_1).f0), .int .i64 ((rd_T24 l0_0 x19_1).f1)] 24 (0, 0))) ∧ Aside0 (Below w.heap.size w wc))
        case first =>
         have H := HC16.out
         clear HC16
         by_cases c24 : t108 = 2
         ·rw [if_pos c24] at H
          have c24b0 : (t108 == 2) = true := beq_iff_eq.mpr c24
          have c24b1 : (t108 != 2) = false := bne_eq_false_iff_eq.mpr c24
          clear c24
          (first | rw [c24b0] | (simp only [i64_w, i32_w]; rw [c24b0]) | skip)
          have H' := zam H
          clear H
          go_wp2
          go_meet
          case rel => exact ⟨_, (wrap64 (x6_1 + 1)), zq9, H', ⟨by have := HK1.out; first | omega | exact Nat.le_refl _⟩, ⟨by (with_reducible repeat (first | apply zRa | apply zRn | apply zRd)); exact HO_5.out⟩, ⟨by (with_reducible repeat (first | refine zkn ?_ _ | refine zkd ?_ | refine zka ?_ _)); exact BK101.out⟩, ⟨by (with_reducible repeat (first | refine zkn ?_ _ | refine zkd ?_ | refine zka ?_ _)); exact BK102.out⟩, ⟨by (with_reducible repeat (first | refine zkn ?_ _ | refine zkd ?_ | refine zka ?_ _)); exact BK107.out⟩, ⟨by repeat (first | (with_reducible first | exact HB.out | apply zba | apply zbn | apply zb1 | refine zbs ?_ GE101.out | refine zbs ?_ GE102.out | refine zbs ?_ GE107.out) | exact HB.out)⟩⟩
         rw [if_neg c24] at H
         have c24b0 : (t108 == 2) = false := beq_eq_false_iff_ne.mpr c24
         have c24b1 : (t108 != 2) = true := bne_iff_ne.mpr c24
         (first | rw [c24b0] | (simp only [i64_w, i32_w]; rw [c24b0]) | skip)
         have H' := zam H
         clear H
         go_wp2
         go_meet
         case rel => exact ⟨_, (0), zq9, H', ⟨by have := HK1.out; first | omega | exact Nat.le_refl _⟩, ⟨by (with_reducible repeat (first | apply zRa | apply zRn | apply zRd)); exact HO_5.out⟩, ⟨by (with_reducible repeat (first | refine zkn ?_ _ | refine zkd ?_ | refine zka ?_ _)); exact BK101.out⟩, ⟨by (with_reducible repeat (first | refine zkn ?_ _ | refine zkd ?_ | refine zka ?_ _)); exact BK102.out⟩, ⟨by (with_reducible repeat (first | refine zkn ?_ _ | refine zkd ?_ | refine zka ?_ _)); exact BK107.out⟩, ⟨by repeat (first | (with_reducible first | exact HB.out | apply zba | apply zbn | apply zb1 | refine zbs ?_ GE101.out | refine zbs ?_ GE102.out | refine zbs ?_ GE107.out) | exact HB.out)⟩⟩
        case rest =>
         clear HC16
         try clear c1
         try clear p1
         try clear q1
         try clear hx1
         try clear c2
         try clear p2
         try clear c3
         try clear c3b0
         try clear c3b1
         try clear c4
         try clear c4b0
         try clear c4b1
         try clear p6
         try clear c7
         try clear c10
         try clear p10
         try clear q10
         try clear hx10
         try clear c12
         try clear c12b0
         try clear c13
         try clear c13b0
         try clear c14
         try clear c14b0
         try clear c18
         try clear c19
         try clear c21
         try clear c24
         try clear c24b0
         try clear c24b1
         try clear hcz11_0
         try clear hcz20_0
         try clear hcz20_1
         try clear hcz22_0
         try clear hcz22_1
         try clear hcz22_2
         try clear hcz8_0
         try clear hfz11_0
         try clear hfz20_0
         try clear hfz20_1
         try clear hfz22_0
         try clear hfz22_1
         try clear hfz22_2
         try clear hfz8_0
         try clear hx106_0
         try clear hx106_1
         try clear p106
         try clear p2
         try clear q106
         obtain ⟨kq, x6_15, rfl, HA, HJ15, HO_5, BK101, BK102, BK107, HB⟩ := hcut
         cases kq with
         | zero => exact absurd HA.out (by simp [sound_risen.j1])
         | succ kj15 =>
          have H := HA.out
          clear HA
          simp only [sound_risen.j1] at H
          have HC25 := zam H
          clear H
          go_upto_if 35 with (fail)
          go_cut [7] (fun v7 wc => ∃ (kq : Nat) (x7_24 : Int), v7 = .int .i64 x7_24 ∧ Aside0 (sound_risen.j2 kq x5_1 x6_15 x7_24 x8_1 x19_1 l0_0 (l0_0.length : Int) x19_1 a1_0 a1_1 a1_2 = some r) ∧ Aside0 (kq ≤ kj15) ∧ Aside0 (Kd.R (Kd.int .i64) 50 wc w.heap.size (fun _ => True) v104 x5_1) ∧ Aside0 (wc.heap[gb101]? = some (.cells #[(.slice (some ad106) l0_0.length c0_0)] 45 (0, 0))) ∧ Aside0 (wc.heap[gb102]? = some (.cells #[.int .i64 a1_0, .int .i64 a1_1, .int .i64 a1_2] 39 (0, 0))) ∧ Aside0 (wc.heap[gb107]? = some (.cells #[.int .i64 ((rd_T24 l0_0 x19_1).f0), .int .i64 ((rd_T24 l0_0 x19_1).f1)] 24 (0, 0))) ∧ Aside0 (Below w.heap.size w wc))
          case first =>
           have H := HC25.out
           clear HC25
           by_cases c26 : t108 = 0
           ·rw [if_pos c26] at H
            have c26b0 : (t108 == 0) = true := beq_iff_eq.mpr c26
            have c26b1 : (t108 != 0) = false := bne_eq_false_iff_eq.mpr c26
            clear c26
            (first | rw [c26b0] | (simp only [i64_w, i32_w]; rw [c26b0]) | skip)
            have H' := zam H
            clear H
            go_wp2
            go_meet
            case rel => exact ⟨_, (0), zq9, H', ⟨by have := HK1.out; have := HJ15.out; first | omega | exact Nat.le_refl _⟩, ⟨by (with_reducible repeat (first | apply zRa | apply zRn | apply zRd)); exact HO_5.out⟩, ⟨by (with_reducible repeat (first | refine zkn ?_ _ | refine zkd ?_ | refine zka ?_ _)); exact BK101.out⟩, ⟨by (with_reducible repeat (first | refine zkn ?_ _ | refine zkd ?_ | refine zka ?_ _)); exact BK102.out⟩, ⟨by (with_reducible repeat (first | refine zkn ?_ _ | refine zkd ?_ | refine zka ?_ _)); exact BK107.out⟩, ⟨by repeat (first | (with_reducible first | exact HB.out | apply zba | apply zbn | apply zb1 | refine zbs ?_ GE101.out | refine zbs ?_ GE102.out | refine zbs ?_ GE107.out) | exact HB.out)⟩⟩
           rw [if_neg c26] at H
           have c26b0 : (t108 == 0) = false := beq_eq_false_iff_ne.mpr c26
           have c26b1 : (t108 != 0) = true := bne_iff_ne.mpr c26
           (first | rw [c26b0] | (simp only [i64_w, i32_w]; rw [c26b0]) | skip)
           have H' := zam H
           clear H
           go_wp2
           go_meet
           case rel => exact ⟨_, ((wrap64 (x7_1 + 1))), zq9, H', ⟨by have := HK1.out; have := HJ15.out; first | omega | exact Nat.le_refl _⟩, ⟨by (with_reducible repeat (first | apply zRa | apply zRn | apply zRd)); exact HO_5.out⟩, ⟨by (with_reducible repeat (first | refine zkn ?_ _ | refine zkd ?_ | refine zka ?_ _)); exact BK101.out⟩, ⟨by (with_reducible repeat (first | refine zkn ?_ _ | refine zkd ?_ | refine zka ?_ _)); exact BK102.out⟩, ⟨by (with_reducible repeat (first | refine zkn ?_ _ | refine zkd ?_ | refine zka ?_ _)); exact BK107.out⟩, ⟨by repeat (first | (with_reducible first | exact HB.out | apply zba | apply zbn | apply zb1 | refine zbs ?_ GE101.out | refine zbs ?_ GE102.out | refine zbs ?_ GE107.out) | exact HB.out)⟩⟩
          case rest =>
           clear HC25
           try clear c1
           try clear p1
           try clear q1
           try clear hx1
           try clear c2
           try clear p2
           try clear c3
           try clear c3b0
           try clear c3b1
           try clear c4
           try clear c4b0
           try clear c4b1
           try clear p6
           try clear c7
           try clear c10
           try clear p10
           try clear q10
           try clear hx10
           try clear c12
           try clear c12b0
           try clear c13
           try clear c13b0
           try clear c14
           try clear c14b0
           try clear c18
           try clear c19
           try clear c21
           try clear c24
           try clear c24b0
           try clear c24b1
           try clear c26
           try clear c26b0
           try clear c26b1
           try clear hcz11_0
           try clear hcz20_0
           try clear hcz20_1
           try clear hcz22_0
           try clear hcz22_1
           try clear hcz22_2
           try clear hcz8_0
           try clear hfz11_0
           try clear hfz20_0
           try clear hfz20_1
           try clear hfz22_0
           try clear hfz22_1
           try clear hfz22_2
           try clear hfz8_0
           try clear hx106_0
           try clear hx106_1
           try clear p1
           try clear p10
           try clear p106
           try clear p2
           try clear p6
           try clear q1
           try clear q10
           try clear q106
           obtain ⟨kq, x7_24, rfl, HA, HJ24, HO_5, BK101, BK102, BK107, HB⟩ := hcut
           cases kq with
           | zero => exact absurd HA.out (by simp [sound_risen.j2])
           | succ kj24 =>
            have H := HA.out
            clear HA
            simp only [sound_risen.j2] at H
            by_cases c27 : x6_15 ≥ a1_1
            ·rw [if_pos c27] at H
             have c27b0 : decide (a1_1 ≤ x6_15) = true := zdt c27
             clear c27
             by_cases c28 : 0 ≤ x19_1
             ·rw [if_pos c28] at H
              have c28b0 : decide (0 ≤ x19_1) = true := zdt c28
              clear c28
              by_cases c29 : x19_1 < (x5_1.length : Int)
              ·rw [if_pos c29] at H
               have c29b0 : decide (x19_1 < (x5_1.length : Int)) = true := zdt c29
               clear c29
               obtain ⟨y109, hy109⟩ : ∃ y_ : List Int, y_ = (x5_1.set (x19_1 : Int).toNat 2) := ⟨_, rfl⟩
               replace H : (sound_risen.l0 kj24 y109 x6_15 x7_24 2 l0_0 (l0_0.length : Int) (wrap64 (x19_1 + 1)) a1_0 a1_1 a1_2) = some r := by first | (rw [hy109]; with_reducible exact H) | (have H2_ := (Option.bind_some _ _).symm.trans H; rw [hy109]; with_reducible exact H2_) | (have H2_ := (Option.bind_some _ _).symm.trans H; with_reducible exact H2_) | with_reducible exact H | (rw [hy109]; exact H) | exact H
               have Ny109 := zam hy109
               clear hy109
               have H' := zam H
               clear H
               have hnb31 := NB102_101.out
               have hnc31 := NB101_102.out
               have hnb32 := NB102_107.out
               have hnc32 := NB107_102.out
               have hcz33_0 : wc.cell? ⟨gb102, 0, none⟩ = some (.int .i64 a1_0) := (zkc BK102.out 0).trans rfl
               have hcz33_1 : wc.cell? ⟨gb102, 1, none⟩ = some (.int .i64 a1_1) := (zkc BK102.out 1).trans rfl
               have hcz33_2 : wc.cell? ⟨gb102, 2, none⟩ = some (.int .i64 a1_2) := (zkc BK102.out 2).trans rfl
               have hfz33_0 := zkz BK102.out 0
               have hfz33_1 := zkz BK102.out 1
               have hfz33_2 := zkz BK102.out 2
               have p30 : 0 ≤ (x19_1 : Int) := zod zq8
               have q30 : (x19_1 : Int) < ((x5_1.length : Int) : Int) := zod zq8
               obtain ⟨go30, co30, eo30, gb30, gl30, cl30, HG30⟩ := Kd.R_form HO_5.out (by omega)
               (first | cases eo30 | (injection eo30 with ea_ en_ ec_; (first | subst ea_ | (injection ea_ with ea_; subst ea_)); subst ec_; clear en_))
               have GB30 := zam gb30
               have GG30 := zam HG30
               clear gb30 gl30 HG30
               obtain ⟨hx30_0, hf30_0⟩ := Kd.R_celln 0 HO_5.out (x19_1 : Int) p30 q30
               replace p30 := eq_true p30
               replace q30 := eq_true q30
               have HP34 := Kd.R_putg HO_5.out (x19_1 : Int) 2
               go_wp2_with (first | ((with_reducible refine gate_store (t := 50) (p := 49) rfl ?_); refine store_event (t := 50) (p := 49) (v := ?vo_w35) (w1 := (wc.setCell ⟨go30, (x19_1 : Int).toNat, none⟩ (.int .i64 2))) ?hg ?ho ?hn ?hr ?_; (case ho => rfl); (case hg => rfl); (case hn => rfl); (case hr => first | (go_simp; done) | (go_simp; rfl)); intro w35 hw; have hg : wc.grownBy w35 (some go30) := (by rw [hw]; exact HP34.2); have hp_ : Kd.R (Kd.int .i64) 50 w35 w.heap.size (fun _ => True) (.slice (some ⟨go30, 0, none⟩) x5_1.length co30) y109 := (by rw [hw, Ny109.out]; exact HP34.1); clear HP34; have n0_ := zam (hp_); have n1_ := zam (blk_grown (g := gb101) (o := .cells #[.slice (some ad106) l0_0.length c0_0] 45 (0, 0)) zq0 hg (Kd.R_ne HO_5.out BK101.out (by decide))); have n2_ := zam (blk_grown (g := gb102) (o := .cells #[.int .i64 a1_0, .int .i64 a1_1, .int .i64 a1_2] 39 (0, 0)) zq6 hg (Kd.R_ne HO_5.out BK102.out (by decide))); have n3_ := zam (blk_grown (g := gb107) (o := .cells #[.int .i64 ((rd_T24 l0_0 x19_1).f0), .int .i64 ((rd_T24 l0_0 x19_1).f1)] 24 (0, 0)) zq18 hg (Kd.R_ne HO_5.out BK107.out (by decide))); have n4_ := zam ((by rw [hw]; exact zbs (HB.out) GB30.out : Below w.heap.size w w35)); clear HO_5; clear BK101; clear BK102; clear BK107; clear HB; have HO_5 := n0_; have BK101 := n1_; have BK102 := n2_; have BK107 := n3_; have HB := n4_; clear n0_ n1_ n2_ n3_ n4_; clear hg hw hp_))
               go_roundg kj24
               case measure => have := HK1.out; have := HJ15.out; have := HJ24.out; omega
               case rel => exact ⟨(y109), (x6_15), (x7_24), (2), (wrap64 (x19_1 + 1)), zq9, zq9, zq9, zq9, H', ⟨by have := HK1.out; have := HJ15.out; have := HJ24.out; omega⟩, ⟨by (with_reducible repeat (first | apply zRa | apply zRn | apply zRd)); exact HO_5.out⟩, ⟨by (with_reducible repeat (first | refine zkn ?_ _ | refine zkd ?_ | refine zka ?_ _)); exact BK101.out⟩, ⟨by (with_reducible repeat (first | refine zkn ?_ _ | refine zkd ?_ | refine zka ?_ _)); exact BK102.out⟩, ⟨by repeat (first | (with_reducible first | exact HB.out | apply zba | apply zbn | apply zb1 | refine zbs ?_ GE101.out | refine zbs ?_ GE102.out | refine zbs ?_ GE107.out) | exact HB.out)⟩⟩
              rw [if_neg c29] at H
              exact absurd H (by simp)
             rw [if_neg c28] at H
             exact absurd H (by simp)
            rw [if_neg c27] at H
            have c27b0 : decide (a1_1 ≤ x6_15) = false := zdf c27
            clear c27
            by_cases c36 : x7_24 ≥ a1_1
            ·rw [if_pos c36] at H
             have c36b0 : decide (a1_1 ≤ x7_24) = true := zdt c36
             clear c36
             obtain ⟨ji37, hji37⟩ : ∃ j_ : Int, (mx x8_1 1) = j_ := ⟨_, rfl⟩
             replace H : (if 0 ≤ x19_1 then (if x19_1 < (x5_1.length : Int) then (sound_risen.l0 kj24 (x5_1.set (x19_1 : Int).toNat (ji37)) x6_15 x7_24 ji37 l0_0 (l0_0.length : Int) (wrap64 (x19_1 + 1)) a1_0 a1_1 a1_2) else (none)) else (none)) = some r := by first | (rw [hji37] at H; exact H) | (simp only [hji37] at H ⊢; exact H)
             have hji37_ : (if x8_1 < 1 then 1 else x8_1) = ji37 := hji37
             by_cases c38 : 0 ≤ x19_1
             ·rw [if_pos c38] at H
              have c38b0 : decide (0 ≤ x19_1) = true := zdt c38
              clear c38
              by_cases c39 : x19_1 < (x5_1.length : Int)
              ·rw [if_pos c39] at H
               have c39b0 : decide (x19_1 < (x5_1.length : Int)) = true := zdt c39
               clear c39
               obtain ⟨y110, hy110⟩ : ∃ y_ : List Int, y_ = (x5_1.set (x19_1 : Int).toNat (ji37)) := ⟨_, rfl⟩
               replace H : (sound_risen.l0 kj24 y110 x6_15 x7_24 ji37 l0_0 (l0_0.length : Int) (wrap64 (x19_1 + 1)) a1_0 a1_1 a1_2) = some r := by first | (rw [hy110]; with_reducible exact H) | (have H2_ := (Option.bind_some _ _).symm.trans H; rw [hy110]; with_reducible exact H2_) | (have H2_ := (Option.bind_some _ _).symm.trans H; with_reducible exact H2_) | with_reducible exact H | (rw [hy110]; exact H) | exact H
               have Ny110 := zam hy110
               clear hy110
               have H' := zam H
               clear H
               have hnb41 := NB102_101.out
               have hnc41 := NB101_102.out
               have hnb42 := NB102_107.out
               have hnc42 := NB107_102.out
               have hcz43_0 : wc.cell? ⟨gb102, 0, none⟩ = some (.int .i64 a1_0) := (zkc BK102.out 0).trans rfl
               have hcz43_1 : wc.cell? ⟨gb102, 1, none⟩ = some (.int .i64 a1_1) := (zkc BK102.out 1).trans rfl
               have hcz43_2 : wc.cell? ⟨gb102, 2, none⟩ = some (.int .i64 a1_2) := (zkc BK102.out 2).trans rfl
               have hfz43_0 := zkz BK102.out 0
               have hfz43_1 := zkz BK102.out 1
               have hfz43_2 := zkz BK102.out 2
               have p40 : 0 ≤ (x19_1 : Int) := zod zq8
               have q40 : (x19_1 : Int) < ((x5_1.length : Int) : Int) := zod zq8
               obtain ⟨go40, co40, eo40, gb40, gl40, cl40, HG40⟩ := Kd.R_form HO_5.out (by omega)
               (first | cases eo40 | (injection eo40 with ea_ en_ ec_; (first | subst ea_ | (injection ea_ with ea_; subst ea_)); subst ec_; clear en_))
               have GB40 := zam gb40
               have GG40 := zam HG40
               clear gb40 gl40 HG40
               obtain ⟨hx40_0, hf40_0⟩ := Kd.R_celln 0 HO_5.out (x19_1 : Int) p40 q40
               replace p40 := eq_true p40
               replace q40 := eq_true q40
               have HP44 := Kd.R_putg HO_5.out (x19_1 : Int) ji37
               go_wp2_with (first | ((with_reducible refine gate_store (t := 50) (p := 49) rfl ?_); refine store_event (t := 50) (p := 49) (v := ?vo_w45) (w1 := (wc.setCell ⟨go40, (x19_1 : Int).toNat, none⟩ (.int .i64 ji37))) ?hg ?ho ?hn ?hr ?_; (case ho => rfl); (case hg => rfl); (case hn => rfl); (case hr => first | (go_simp; done) | (go_simp; rfl)); intro w45 hw; have hg : wc.grownBy w45 (some go40) := (by rw [hw]; exact HP44.2); have hp_ : Kd.R (Kd.int .i64) 50 w45 w.heap.size (fun _ => True) (.slice (some ⟨go40, 0, none⟩) x5_1.length co40) y110 := (by rw [hw, Ny110.out]; exact HP44.1); clear HP44; have n0_ := zam (hp_); have n1_ := zam (blk_grown (g := gb101) (o := .cells #[.slice (some ad106) l0_0.length c0_0] 45 (0, 0)) zq0 hg (Kd.R_ne HO_5.out BK101.out (by decide))); have n2_ := zam (blk_grown (g := gb102) (o := .cells #[.int .i64 a1_0, .int .i64 a1_1, .int .i64 a1_2] 39 (0, 0)) zq6 hg (Kd.R_ne HO_5.out BK102.out (by decide))); have n3_ := zam (blk_grown (g := gb107) (o := .cells #[.int .i64 ((rd_T24 l0_0 x19_1).f0), .int .i64 ((rd_T24 l0_0 x19_1).f1)] 24 (0, 0)) zq18 hg (Kd.R_ne HO_5.out BK107.out (by decide))); have n4_ := zam ((by rw [hw]; exact zbs (HB.out) GB40.out : Below w.heap.size w w45)); clear HO_5; clear BK101; clear BK102; clear BK107; clear HB; have HO_5 := n0_; have BK101 := n1_; have BK102 := n2_; have BK107 := n3_; have HB := n4_; clear n0_ n1_ n2_ n3_ n4_; clear hg hw hp_))
               go_roundg kj24
               case measure => have := HK1.out; have := HJ15.out; have := HJ24.out; omega
               case rel => exact ⟨(y110), (x6_15), (x7_24), (ji37), (wrap64 (x19_1 + 1)), zq9, zq9, (by first | rfl | (simp; done) | (simp only [← hji37] <;> (first | rfl | simp)) | (simp [*]; done)), zq9, H', ⟨by have := HK1.out; have := HJ15.out; have := HJ24.out; omega⟩, ⟨by (with_reducible repeat (first | apply zRa | apply zRn | apply zRd)); exact HO_5.out⟩, ⟨by (with_reducible repeat (first | refine zkn ?_ _ | refine zkd ?_ | refine zka ?_ _)); exact BK101.out⟩, ⟨by (with_reducible repeat (first | refine zkn ?_ _ | refine zkd ?_ | refine zka ?_ _)); exact BK102.out⟩, ⟨by repeat (first | (with_reducible first | exact HB.out | apply zba | apply zbn | apply zb1 | refine zbs ?_ GE101.out | refine zbs ?_ GE102.out | refine zbs ?_ GE107.out) | exact HB.out)⟩⟩
              rw [if_neg c39] at H
              exact absurd H (by simp)
             rw [if_neg c38] at H
             exact absurd H (by simp)
            rw [if_neg c36] at H
            have c36b0 : decide (a1_1 ≤ x7_24) = false := zdf c36
            clear c36
            by_cases c46 : 0 ≤ x19_1
            ·rw [if_pos c46] at H
             have c46b0 : decide (0 ≤ x19_1) = true := zdt c46
             clear c46
             by_cases c47 : x19_1 < (x5_1.length : Int)
             ·rw [if_pos c47] at H
              have c47b0 : decide (x19_1 < (x5_1.length : Int)) = true := zdt c47
              clear c47
              obtain ⟨y111, hy111⟩ : ∃ y_ : List Int, y_ = (x5_1.set (x19_1 : Int).toNat x8_1) := ⟨_, rfl⟩
              replace H : (sound_risen.l0 kj24 y111 x6_15 x7_24 x8_1 l0_0 (l0_0.length : Int) (wrap64 (x19_1 + 1)) a1_0 a1_1 a1_2) = some r := by first | (rw [hy111]; with_reducible exact H) | (have H2_ := (Option.bind_some _ _).symm.trans H; rw [hy111]; with_reducible exact H2_) | (have H2_ := (Option.bind_some _ _).symm.trans H; with_reducible exact H2_) | with_reducible exact H | (rw [hy111]; exact H) | exact H
              have Ny111 := zam hy111
              clear hy111
              have H' := zam H
              clear H
              have hnb49 := NB102_101.out
              have hnc49 := NB101_102.out
              have hnb50 := NB102_107.out
              have hnc50 := NB107_102.out
              have hcz51_0 : wc.cell? ⟨gb102, 0, none⟩ = some (.int .i64 a1_0) := (zkc BK102.out 0).trans rfl
              have hcz51_1 : wc.cell? ⟨gb102, 1, none⟩ = some (.int .i64 a1_1) := (zkc BK102.out 1).trans rfl
              have hcz51_2 : wc.cell? ⟨gb102, 2, none⟩ = some (.int .i64 a1_2) := (zkc BK102.out 2).trans rfl
              have hfz51_0 := zkz BK102.out 0
              have hfz51_1 := zkz BK102.out 1
              have hfz51_2 := zkz BK102.out 2
              have p48 : 0 ≤ (x19_1 : Int) := zod zq8
              have q48 : (x19_1 : Int) < ((x5_1.length : Int) : Int) := zod zq8
              obtain ⟨go48, co48, eo48, gb48, gl48, cl48, HG48⟩ := Kd.R_form HO_5.out (by omega)
              (first | cases eo48 | (injection eo48 with ea_ en_ ec_; (first | subst ea_ | (injection ea_ with ea_; subst ea_)); subst ec_; clear en_))
              have GB48 := zam gb48
              have GG48 := zam HG48
              clear gb48 gl48 HG48
              obtain ⟨hx48_0, hf48_0⟩ := Kd.R_celln 0 HO_5.out (x19_1 : Int) p48 q48
              replace p48 := eq_true p48
              replace q48 := eq_true q48
              have HP52 := Kd.R_putg HO_5.out (x19_1 : Int) x8_1
              go_wp2_with (first | ((with_reducible refine gate_store (t := 50) (p := 49) rfl ?_); refine store_event (t := 50) (p := 49) (v := ?vo_w53) (w1 := (wc.setCell ⟨go48, (x19_1 : Int).toNat, none⟩ (.int .i64 x8_1))) ?hg ?ho ?hn ?hr ?_; (case ho => rfl); (case hg => rfl); (case hn => rfl); (case hr => first | (go_simp; done) | (go_simp; rfl)); intro w53 hw; have hg : wc.grownBy w53 (some go48) := (by rw [hw]; exact HP52.2); have hp_ : Kd.R (Kd.int .i64) 50 w53 w.heap.size (fun _ => True) (.slice (some ⟨go48, 0, none⟩) x5_1.length co48) y111 := (by rw [hw, Ny111.out]; exact HP52.1); clear HP52; have n0_ := zam (hp_); have n1_ := zam (blk_grown (g := gb101) (o := .cells #[.slice (some ad106) l0_0.length c0_0] 45 (0, 0)) zq0 hg (Kd.R_ne HO_5.out BK101.out (by decide))); have n2_ := zam (blk_grown (g := gb102) (o := .cells #[.int .i64 a1_0, .int .i64 a1_1, .int .i64 a1_2] 39 (0, 0)) zq6 hg (Kd.R_ne HO_5.out BK102.out (by decide))); have n3_ := zam (blk_grown (g := gb107) (o := .cells #[.int .i64 ((rd_T24 l0_0 x19_1).f0), .int .i64 ((rd_T24 l0_0 x19_1).f1)] 24 (0, 0)) zq18 hg (Kd.R_ne HO_5.out BK107.out (by decide))); have n4_ := zam ((by rw [hw]; exact zbs (HB.out) GB48.out : Below w.heap.size w w53)); clear HO_5; clear BK101; clear BK102; clear BK107; clear HB; have HO_5 := n0_; have BK101 := n1_; have BK102 := n2_; have BK107 := n3_; have HB := n4_; clear n0_ n1_ n2_ n3_ n4_; clear hg hw hp_))
              go_roundg kj24
              case measure => have := HK1.out; have := HJ15.out; have := HJ24.out; omega
              case rel => exact ⟨(y111), (x6_15), (x7_24), (x8_1), (wrap64 (x19_1 + 1)), zq9, zq9, zq9, zq9, H', ⟨by have := HK1.out; have := HJ15.out; have := HJ24.out; omega⟩, ⟨by (with_reducible repeat (first | apply zRa | apply zRn | apply zRd)); exact HO_5.out⟩, ⟨by (with_reducible repeat (first | refine zkn ?_ _ | refine zkd ?_ | refine zka ?_ _)); exact BK101.out⟩, ⟨by (with_reducible repeat (first | refine zkn ?_ _ | refine zkd ?_ | refine zka ?_ _)); exact BK102.out⟩, ⟨by repeat (first | (with_reducible first | exact HB.out | apply zba | apply zbn | apply zb1 | refine zbs ?_ GE101.out | refine zbs ?_ GE102.out | refine zbs ?_ GE107.out) | exact HB.out)⟩⟩
             rw [if_neg c47] at H
             exact absurd H (by simp)
            rw [if_neg c46] at H
            exact absurd H (by simp)
       rw [if_neg c14] at H
       exact absurd H (by simp)
      rw [if_neg c13] at H
      exact absurd H (by simp)
     rw [if_neg c12] at H
     have c12b0 : decide (x19_1 < (l0_0.length : Int)) = false := zdf c12
     clear c12
     obtain rfl := zsi H
     go_wp2
     go_ret
     exact ⟨_, by first | rfl | (simp [errW_none, errW_some] <;> rfl) | (simp [*, errW_none, errW_some] <;> rfl), by (with_reducible repeat (first | apply zRa | apply zRn | apply zRd)); exact HO_5.out, by repeat (first | (with_reducible first | exact HB.out | apply zba | apply zbn | apply zb1 | refine zbs ?_ GE101.out | refine zbs ?_ GE102.out) | exact HB.out)⟩
  rw [if_neg c4] at H
  exact absurd H (by simp)
 rw [if_neg c3] at H
 exact absurd H (by simp)
mutual
def sound_alarm.l0 : Nat → List (S45) → List (List Int) → List (S45) → Int → Int → Int → Int → Int → Option (List Int)
 | 0, _, _, _, _, _, _, _, _ => none
 | k + 1, x0, x5, x13, x14, x15, x102000, x102001, x102002 => if x15 < x14 then (if 0 ≤ x15 then (if x15 < (x13.length : Int) then ((sound_risen.f k ((rd_T45 x13 x15).f0) x102000 x102001 x102002).bind fun t104 => (if x5.length < 5864062014805 then (sound_alarm.l0 k x0 (x5 ++ [t104]) x13 x14 (wrap64 (x15 + 1)) x102000 x102001 x102002) else (none))) else (none)) else (none)) else (if 0 < (x0.length : Int) then (if 0 ≤ (((rd_T45 x0 0).f0).length : Int) then (if ((((rd_T45 x0 0).f0).length : Int) : Int).toNat ≤ 35184372088832 then ((some (List.replicate ((((rd_T45 x0 0).f0).length : Int) : Int).toNat 0 : List Int)).bind fun y111 => (sound_alarm.l1 k x5 y111 (y111.length : Int) 0 x102000 x102001 x102002)) else (none)) else (none)) else (none))
def sound_alarm.l1 : Nat → List (List Int) → List Int → Int → Int → Int → Int → Int → Option (List Int)
 | 0, _, _, _, _, _, _, _ => none
 | k + 1, x5, x8, x33, x34, x102000, x102001, x102002 => if x34 < x33 then (sound_alarm.l2 k x5 x8 x34 ([] : List Int) x33 x34 x5 (x5.length : Int) 0 x102000 x102001 x102002) else (some x8)
def sound_alarm.l2 : Nat → List (List Int) → List Int → Int → List Int → Int → Int → List (List Int) → Int → Int → Int → Int → Int → Option (List Int)
 | 0, _, _, _, _, _, _, _, _, _, _, _, _ => none
 | k + 1, x5, x8, x9, x10, x33, x34, x37, x38, x39, x102000, x102001, x102002 => if x39 < x38 then (if 0 ≤ x39 then (if x39 < (x37.length : Int) then (if 0 ≤ x9 then (if x9 < ((rd_L4 x37 x39).length : Int) then (if x10.length < 17592186044416 then (sound_alarm.l2 k x5 x8 x9 (x10 ++ [rd (rd_L4 x37 x39) x9]) x33 x34 x37 x38 (wrap64 (x39 + 1)) x102000 x102001 x102002) else (none)) else (none)) else (none)) else (none)) else (none)) else ((sound_enough.f k x102002 x10).bind fun t119 => (if 0 ≤ x9 then (if x9 < (x8.length : Int) then (sound_alarm.l1 k x5 (x8.set (x9 : Int).toNat t119) x33 (wrap64 (x34 + 1)) x102000 x102001 x102002) else (none)) else (none)))
end
def sound_alarm.f (k : Nat) (l0 : List (S45)) (a1_0 : Int) (a1_1 : Int) (a1_2 : Int) : Option (List Int) := sound_alarm.l0 k l0 ([] : List (List Int)) l0 (l0.length : Int) 0 a1_0 a1_1 a1_2
theorem sound_alarm.mono_l : ∀ k, (∀ y0 y1 y2 y3 y4 y5 y6 y7, LeO (sound_alarm.l0 k y0 y1 y2 y3 y4 y5 y6 y7) (sound_alarm.l0 (k + 1) y0 y1 y2 y3 y4 y5 y6 y7)) ∧ (∀ y0 y1 y2 y3 y4 y5 y6, LeO (sound_alarm.l1 k y0 y1 y2 y3 y4 y5 y6) (sound_alarm.l1 (k + 1) y0 y1 y2 y3 y4 y5 y6)) ∧ (∀ y0 y1 y2 y3 y4 y5 y6 y7 y8 y9 y10 y11, LeO (sound_alarm.l2 k y0 y1 y2 y3 y4 y5 y6 y7 y8 y9 y10 y11) (sound_alarm.l2 (k + 1) y0 y1 y2 y3 y4 y5 y6 y7 y8 y9 y10 y11))
 | 0 => ⟨fun _ _ _ _ _ _ _ _ r h => by simp [sound_alarm.l0] at h, fun _ _ _ _ _ _ _ r h => by simp [sound_alarm.l1] at h, fun _ _ _ _ _ _ _ _ _ _ _ _ r h => by simp [sound_alarm.l2] at h⟩
 | k + 1 => by
  obtain ⟨ih0, ih1, ih2⟩ := sound_alarm.mono_l k
  refine ⟨?_, ?_, ?_⟩
  ·intro y0 y1 y2 y3 y4 y5 y6 y7
   unfold sound_alarm.l0
   repeat' first
   | (with_reducible exact ih0 _ _ _ _ _ _ _ _)
   | (with_reducible exact ih1 _ _ _ _ _ _ _)
   | (with_reducible exact ih2 _ _ _ _ _ _ _ _ _ _ _ _)
   | (with_reducible exact sound_enough.mono _ _ _)
   | (with_reducible exact sound_risen.mono _ _ _ _ _)
   | (with_reducible exact LeO.refl _)
   | (with_reducible exact LeO.none _)
   | (with_reducible refine LeO.ite ?_ ?_)
   | (with_reducible refine LeO.bind ?_ (fun _ => ?_))
   | exact ih0 _ _ _ _ _ _ _ _
   | exact ih1 _ _ _ _ _ _ _
   | exact ih2 _ _ _ _ _ _ _ _ _ _ _ _
   | exact sound_enough.mono _ _ _
   | exact sound_risen.mono _ _ _ _ _
   | exact LeO.none _
   | refine LeO.ite ?_ ?_
   | refine LeO.bind ?_ (fun _ => ?_)
  ·intro y0 y1 y2 y3 y4 y5 y6
   unfold sound_alarm.l1
   repeat' first
   | (with_reducible exact ih0 _ _ _ _ _ _ _ _)
   | (with_reducible exact ih1 _ _ _ _ _ _ _)
   | (with_reducible exact ih2 _ _ _ _ _ _ _ _ _ _ _ _)
   | (with_reducible exact sound_enough.mono _ _ _)
   | (with_reducible exact sound_risen.mono _ _ _ _ _)
   | (with_reducible exact LeO.refl _)
   | (with_reducible exact LeO.none _)
   | (with_reducible refine LeO.ite ?_ ?_)
   | (with_reducible refine LeO.bind ?_ (fun _ => ?_))
   | exact ih0 _ _ _ _ _ _ _ _
   | exact ih1 _ _ _ _ _ _ _
   | exact ih2 _ _ _ _ _ _ _ _ _ _ _ _
   | exact sound_enough.mono _ _ _
   | exact sound_risen.mono _ _ _ _ _
   | exact LeO.none _
   | refine LeO.ite ?_ ?_
   | refine LeO.bind ?_ (fun _ => ?_)
  intro y0 y1 y2 y3 y4 y5 y6 y7 y8 y9 y10 y11
  unfold sound_alarm.l2
  repeat' first
  | (with_reducible exact ih0 _ _ _ _ _ _ _ _)
  | (with_reducible exact ih1 _ _ _ _ _ _ _)
  | (with_reducible exact ih2 _ _ _ _ _ _ _ _ _ _ _ _)
  | (with_reducible exact sound_enough.mono _ _ _)
  | (with_reducible exact sound_risen.mono _ _ _ _ _)
  | (with_reducible exact LeO.refl _)
  | (with_reducible exact LeO.none _)
  | (with_reducible refine LeO.ite ?_ ?_)
  | (with_reducible refine LeO.bind ?_ (fun _ => ?_))
  | exact ih0 _ _ _ _ _ _ _ _
  | exact ih1 _ _ _ _ _ _ _
  | exact ih2 _ _ _ _ _ _ _ _ _ _ _ _
  | exact sound_enough.mono _ _ _
  | exact sound_risen.mono _ _ _ _ _
  | exact LeO.none _
  | refine LeO.ite ?_ ?_
  | refine LeO.bind ?_ (fun _ => ?_)
theorem sound_alarm.mono : ∀ a0 a1 a2 a3 k, LeO (sound_alarm.f k a0 a1 a2 a3) (sound_alarm.f (k + 1) a0 a1 a2 a3) := by
 intro a0 a1 a2 a3 k
 obtain ⟨ih0, ih1, ih2⟩ := sound_alarm.mono_l k
 unfold sound_alarm.f
 repeat' first
   | (with_reducible exact ih0 _ _ _ _ _ _ _ _)
   | (with_reducible exact ih1 _ _ _ _ _ _ _)
   | (with_reducible exact ih2 _ _ _ _ _ _ _ _ _ _ _ _)
   | (with_reducible exact sound_enough.mono _ _ _)
   | (with_reducible exact sound_risen.mono _ _ _ _ _)
   | (with_reducible exact LeO.refl _)
   | (with_reducible exact LeO.none _)
   | (with_reducible refine LeO.ite ?_ ?_)
   | (with_reducible refine LeO.bind ?_ (fun _ => ?_))
   | exact ih0 _ _ _ _ _ _ _ _
   | exact ih1 _ _ _ _ _ _ _
   | exact ih2 _ _ _ _ _ _ _ _ _ _ _ _
   | exact sound_enough.mono _ _ _
   | exact sound_risen.mono _ _ _ _ _
   | exact LeO.none _
   | refine LeO.ite ?_ ?_
   | refine LeO.bind ?_ (fun _ => ?_)
set_option maxHeartbeats 8000000 in
set_option maxRecDepth 100000 in
theorem sound_alarm.calls (k : Nat) (A0 : Option Addr) (c0 : Nat) (l0 : List (S45)) (a1_0 : Int) (a1_1 : Int) (a1_2 : Int) (r : List Int) (w : World) (hr0 : Kd.C k45 w A0 l0.length l0) (hc0 : l0.length ≤ c0) (h : sound_alarm.f k l0 a1_0 a1_1 a1_2 = some r) :
  Calls Try.prog 62 #[.slice A0 l0.length c0, .agg #[.int .i64 a1_0, .int .i64 a1_1, .int .i64 a1_2]] w fun e w' => ∃ v0_ : Value, e = .returned (v0_) ∧ Kd.R (Kd.int .i64) 50 w' w.heap.size (fun _ => True) v0_ r ∧ Below w.heap.size w w' := by
 have hu39 := Try.underlying39
 have hu45 := Try.underlying45
 have HR0 := zam hr0
 have HC0 := zam hc0
 clear hr0 hc0
 have HB := zam (Below.refl w.heap.size w)
 have H : (sound_alarm.l0 k l0 ([] : List (List Int)) l0 (l0.length : Int) 0 a1_0 a1_1 a1_2) = some r := h
 clear h
 have H' := zam H
 clear H
 go_enter Try.func62, Try.ntmps62
 go_wp2_with (first | ((with_reducible refine zgd (N := 3) rfl ?_); refine box_event ?hg (N := 3) ?hd (cs := #[.int .i64 a1_0, .int .i64 a1_1, .int .i64 a1_2]) (t := 39) ?hr ?_; (case hd => rfl); (case hg => rfl); (case hr => first | (go_simp; done) | (go_simp; rfl)); intro gb101 hg w3 hbox hb; have n0_ := zam (zbt zq1 hb); have n1_ := zam (hbox); have n2_ := zam ((by rw [hg]; exact (zbz zq1) : w.heap.size ≤ gb101)); have n3_ := zam ((by rw [hg]; exact (zbz zq1) : w.heap.size ≤ gb101)); clear HB; have HB := n0_; have BK101 := n1_; have GW101 := n2_; have GE101 := n3_; clear n0_ n1_ n2_ n3_; clear hb hbox hg))
 go_loopg [5, 15] k (fun kq v5 v15 w' => ∃ (x5_1 : List (List Int)) (x15_1 : Int), v15 = .int .i64 x15_1 ∧ Aside0 (sound_alarm.l0 kq l0 x5_1 l0 (l0.length : Int) x15_1 a1_0 a1_1 a1_2 = some r) ∧ Aside0 (kq ≤ k) ∧ Aside0 (Kd.S (Kd.slice 50 (Kd.int .i64)) 66 w' w.heap.size (fun _ => True) v5 x5_1) ∧ Aside0 (w'.heap[gb101]? = some (.cells #[.int .i64 a1_0, .int .i64 a1_1, .int .i64 a1_2] 39 (0, 0))) ∧ Aside0 (Below w.heap.size w w'))
 case atStart => exact ⟨(([] : List (List Int))), (0), zq9, H', ⟨Nat.le_refl _⟩, ⟨by first | exact Kd.S_nil _ _ _ _ _ | exact Kd.N_nil _ _ _ _ _ | exact Kd.V_nil _ _ _ _ _ | exact Kd.Q_nil _ _ _ _ _ | exact Kd.R_nil _ _ _ _ _⟩, ⟨by (with_reducible repeat (first | refine zkn ?_ _ | refine zkd ?_ | refine zka ?_ _)); exact BK101.out⟩, ⟨by repeat (first | (with_reducible first | exact HB.out | apply zba | apply zbn | apply zb1 | refine zbs ?_ GE101.out) | exact HB.out)⟩⟩
 case round =>
  clear H'
  try clear p2
  obtain ⟨x5_1, x15_1, rfl, HA, HK1, HO_5, BK101, HB⟩ := hrel
  cases gk with
  | zero => exact absurd HA.out (by simp [sound_alarm.l0])
  | succ k1 =>
   have H := HA.out
   clear HA
   simp only [sound_alarm.l0] at H
   by_cases c4 : x15_1 < (l0.length : Int)
   ·rw [if_pos c4] at H
    have c4b0 : decide (x15_1 < (l0.length : Int)) = true := zdt c4
    clear c4
    by_cases c5 : 0 ≤ x15_1
    ·rw [if_pos c5] at H
     have c5b0 : decide (0 ≤ x15_1) = true := zdt c5
     clear c5
     by_cases c6 : x15_1 < (l0.length : Int)
     ·rw [if_pos c6] at H
      have c6b0 : decide (x15_1 < (l0.length : Int)) = true := zdt c6
      clear c6
      replace H := Option.bind_eq_some_iff.mp H
      obtain ⟨t104, A70, H⟩ := H
      replace H : (if x5_1.length < 5864062014805 then (sound_alarm.l0 k1 l0 (x5_1 ++ [t104]) l0 (l0.length : Int) (wrap64 (x15_1 + 1)) a1_0 a1_1 a1_2) else (none)) = some r := H
      have A7 := zam A70
      clear A70
      by_cases c8 : x5_1.length < 5864062014805
      ·rw [if_pos c8] at H
       have LMc8 := zam c8
       clear c8
       obtain ⟨y107, hy107⟩ : ∃ y_ : List (List Int), y_ = (x5_1 ++ [t104]) := ⟨_, rfl⟩
       replace H : (sound_alarm.l0 k1 l0 y107 l0 (l0.length : Int) (wrap64 (x15_1 + 1)) a1_0 a1_1 a1_2) = some r := by first | (rw [hy107]; with_reducible exact H) | (have H2_ := (Option.bind_some _ _).symm.trans H; rw [hy107]; with_reducible exact H2_) | (have H2_ := (Option.bind_some _ _).symm.trans H; with_reducible exact H2_) | with_reducible exact H | (rw [hy107]; exact H) | exact H
       have Ny107 := zam hy107
       clear hy107
       have H' := zam H
       clear H
       have p102 : 0 ≤ (x15_1 : Int) := zod zq8
       have q102 : x15_1 < (l0.length : Int) := zod zq8
       obtain ⟨ad102, A102_0, c102_0, e102, hx102_0, hl102_0, hi102_0⟩ := at_T45 HR0.out x15_1 p102 q102
       cases e102
       replace hx102_0 := (HB.out.cell (zwb w _ hx102_0)).trans hx102_0
       have HR102_0 := zam hi102_0
       have HC102_0 := zam hl102_0
       clear hi102_0 hl102_0
       replace p102 := eq_true p102
       replace q102 := eq_true q102
       go_wp2_with (first | ((with_reducible refine zgd (N := 7) rfl ?_); refine box_event ?hg (N := 7) ?hd (cs := #[.slice none 0 0]) (t := 45) ?hr ?_; (case hd => rfl); (case hg => rfl); (case hr => first | (go_simp; done) | (go_simp; rfl)); intro gb103 hg w9 hbox hb; have n0_ := zam (Kd.S_below (by (with_reducible repeat (first | apply Kd.S_alloc | apply Kd.S_drewN | apply Kd.S_drew)); exact HO_5.out) hb); have n1_ := zam (zkb (g := gb101) (o := .cells #[.int .i64 a1_0, .int .i64 a1_1, .int .i64 a1_2] 39 (0, 0)) zq0 hb); have n2_ := zam (zbt zq2 hb); have n3_ := zam (hbox); have n4_ := zam ((by rw [hg]; exact (zbz zq2) : w.heap.size ≤ gb103)); have n5_ := zam ((by rw [hg]; exact (zbz zq2) : w.heap.size ≤ gb103)); have n6_ := zam ((by rw [hg]; exact Nat.ne_of_lt (blk_lt (g := gb101) (o := .cells #[.int .i64 a1_0, .int .i64 a1_1, .int .i64 a1_2] 39 (0, 0)) zq0) : gb101 ≠ gb103)); have n7_ := zam ((by rw [hg]; exact Nat.ne_of_gt (blk_lt (g := gb101) (o := .cells #[.int .i64 a1_0, .int .i64 a1_1, .int .i64 a1_2] 39 (0, 0)) zq0) : gb103 ≠ gb101)); clear HO_5; clear BK101; clear HB; have HO_5 := n0_; have BK101 := n1_; have HB := n2_; have BK103 := n3_; have GW103 := n4_; have GE103 := n5_; have NB101_103 := n6_; have NB103_101 := n7_; clear n0_ n1_ n2_ n3_ n4_ n5_ n6_ n7_; clear hb hbox hg; have hnb10 := NB103_101.out; have hnc10 := NB101_103.out; have hcz11_0 : w9.cell? ⟨gb103, 0, none⟩ = some (.slice none 0 0) := (zkc BK103.out 0).trans rfl; have hfz11_0 := zkz BK103.out 0; have hcz12_0 : w9.cell? ⟨gb101, 0, none⟩ = some (.int .i64 a1_0) := (zkc BK101.out 0).trans rfl; have hcz12_1 : w9.cell? ⟨gb101, 1, none⟩ = some (.int .i64 a1_1) := (zkc BK101.out 1).trans rfl; have hcz12_2 : w9.cell? ⟨gb101, 2, none⟩ = some (.int .i64 a1_2) := (zkc BK101.out 2).trans rfl; have hfz12_0 := zkz BK101.out 0; have hfz12_1 := zkz BK101.out 1; have hfz12_2 := zkz BK101.out 2) | ((with_reducible refine zgc (f := 106) rfl ?_); refine goesL_ (some 22) rfl rfl Try.func106 (by kernel_rfl) rfl #[.agg #[.slice A102_0 ((rd_T45 l0 x15_1).f0).length c102_0], .agg #[.int .i64 a1_0, .int .i64 a1_1, .int .i64 a1_2]] rfl zq4 ?_; (with_reducible refine (sound_risen.calls k1 _ _ ((rd_T45 l0 x15_1).f0) a1_0 a1_1 a1_2 t104 _ ?side1 ?side2 A7.out).mono ?_); (case side1 => exact Kd.C_below HR102_0.out zq14); (case side2 => exact HC102_0.out); rintro e w13 ⟨v105, rfl, ho0, hb⟩; refine ⟨_, rfl, ?_⟩; have n0_ := zam (Kd.S_elder' (by (with_reducible repeat (first | apply Kd.S_alloc | apply Kd.S_drewN | apply Kd.S_drew)); exact (Kd.S_mono (Kd.S_far (p := ⟨gb103, 0, none⟩) (Kd.S_types HO_5.out BK103.out (by decide)) (fun _ hk => hk.2) (.slice A102_0 ((rd_T45 l0 x15_1).f0).length c102_0)) (fun _ h_ => h_.1))) (Kd.R_base ho0) hb); have n1_ := zam (Kd.R_lower ho0 (zbz zq14)); have n2_ := zam (zkb (g := gb101) (o := .cells #[.int .i64 a1_0, .int .i64 a1_1, .int .i64 a1_2] 39 (0, 0)) (by (with_reducible repeat (first | refine zkn ?_ _ | refine zkd ?_ | refine zka ?_ _)); refine zkf ?_ NB101_103.out _; (with_reducible repeat (first | refine zkn ?_ _ | refine zkd ?_ | refine zka ?_ _)); exact BK101.out) hb); have n3_ := zam (zkb (g := gb103) (o := .cells #[.slice A102_0 ((rd_T45 l0 x15_1).f0).length c102_0] 45 (0, 0)) (by (with_reducible repeat (first | refine zkn ?_ _ | refine zkd ?_ | refine zka ?_ _)); refine blk_put (cs := #[.slice none 0 0]) ?_ 0 _ rfl; (with_reducible repeat (first | refine zkn ?_ _ | refine zkd ?_ | refine zka ?_ _)); exact BK103.out) hb); have n4_ := zam (zbt zq14 hb); clear HO_5; clear BK101; clear BK103; clear HB; have HO_5 := n0_; have HO106 := n1_; have BK101 := n2_; have BK103 := n3_; have HB := n4_; clear n0_ n1_ n2_ n3_ n4_; (try clear hb); (try clear hb2); (try clear hk); (try clear hi); (try clear ho0); obtain ⟨Ao15, co15, eo15⟩ := Kd.R_slice HO106.out; subst eo15) | ((with_reducible refine gate_builtin (b := .append) (xs := #[.tmp 19, .tmp 23]) rfl ?_); at_builtin; refine Kd.S_append (Kd.slice 50 (Kd.int .i64)) (w0 := w) w.heap.size rfl (.tmp 19) (.tmp 23) 143 66 (.slice none 0 0) 24 rfl Try.underlying143 info66 rfl (by decide) (by omega) u5 x5_1 t104 [.slice Ao15 t104.length co15] (fun _ => True) (fun k_ => some k_ = (.slice Ao15 t104.length co15 : Value).ownBlock) rfl rfl ?aP (fun k_ hk_ => ((Kd.R_mono (ok' := fun k_ => ((fun _ => True)) k_ ∧ some k_ ≠ (u5 : Value).ownBlock) (Kd.R_apart' (HO106.out) (Kd.S_typed HO_5.out) (by decide)) (fun k_ hk => ⟨trivial, hk.2⟩))).1 k_ hk_.symm) ?aF ?aO ?aB ?aS ?aL ?_; (case aP => exact Kd.M_row (Kd.R_mono (Kd.R_tight rfl (Kd.R_mono (ok' := fun k_ => ((fun _ => True)) k_ ∧ some k_ ≠ (u5 : Value).ownBlock) (Kd.R_apart' (HO106.out) (Kd.S_typed HO_5.out) (by decide)) (fun k_ hk => ⟨trivial, hk.2⟩))) (fun _ h_ => h_))); (case aB => exact zq14); (case aF => exact (fun _ _ => trivial)); (case aO => exact (by (with_reducible repeat (first | apply Kd.S_alloc | apply Kd.S_drewN | apply Kd.S_drew)); exact Kd.S_mono HO_5.out (fun k_ hk => ⟨trivial, fun e_ => hk.2 e_⟩))); (case aS => exact (zbz zq14)); (case aL => have := LMc8.out; omega); intro v108 w14 ho hb hg hat; rw [← Ny107.out] at ho; have n0_ := zam (blk_grown (g := gb101) (o := .cells #[.int .i64 a1_0, .int .i64 a1_1, .int .i64 a1_2] 39 (0, 0)) zq0 hg (Kd.S_ne HO_5.out BK101.out (by decide))); have n1_ := zam (blk_grown (g := gb103) (o := .cells #[.slice A102_0 ((rd_T45 l0 x15_1).f0).length c102_0] 45 (0, 0)) zq7 hg (Kd.S_ne HO_5.out BK103.out (by decide))); have n2_ := zam (hb); have n3_ := zam (ho); clear BK101; clear BK103; clear HB; clear HO_5; clear HO106; have BK101 := n0_; have BK103 := n1_; have HB := n2_; have HO109 := n3_; clear n0_ n1_ n2_ n3_; clear ho hb hg hat))
       go_roundg k1
       case measure => have := HK1.out; omega
       case rel => exact ⟨(y107), (wrap64 (x15_1 + 1)), zq9, H', ⟨by have := HK1.out; omega⟩, ⟨by (with_reducible repeat (first | apply Kd.S_alloc | apply Kd.S_drewN | apply Kd.S_drew)); exact HO109.out⟩, ⟨by (with_reducible repeat (first | refine zkn ?_ _ | refine zkd ?_ | refine zka ?_ _)); exact BK101.out⟩, ⟨by repeat (first | (with_reducible first | exact HB.out | apply zba | apply zbn | apply zb1 | refine zbs ?_ GE101.out | refine zbs ?_ GE103.out) | exact HB.out)⟩⟩
      rw [if_neg c8] at H
      exact absurd H (by simp)
     rw [if_neg c6] at H
     exact absurd H (by simp)
    rw [if_neg c5] at H
    exact absurd H (by simp)
   rw [if_neg c4] at H
   have c4b0 : decide (x15_1 < (l0.length : Int)) = false := zdf c4
   clear c4
   by_cases c16 : 0 < (l0.length : Int)
   ·rw [if_pos c16] at H
    have c16b0 : decide (0 < (l0.length : Int)) = true := zdt c16
    have c16b1 : decide (0 < l0.length) = true := zdt (by omega)
    clear c16
    by_cases c17 : 0 ≤ (((rd_T45 l0 0).f0).length : Int)
    ·rw [if_pos c17] at H
     have c17b0 := eq_true c17
     have c17b1 : decide (0 ≤ (((rd_T45 l0 0).f0).length : Int)) = true := zdt c17
     clear c17
     by_cases c18 : ((((rd_T45 l0 0).f0).length : Int) : Int).toNat ≤ 35184372088832
     ·rw [if_pos c18] at H
      have c18b0 := eq_true c18
      have c18b1 : decide (((((rd_T45 l0 0).f0).length : Int) : Int).toNat ≤ 35184372088832) = true := zdt c18
      clear c18
      obtain ⟨y111, hy111⟩ : ∃ y_ : List Int, y_ = (List.replicate ((((rd_T45 l0 0).f0).length : Int) : Int).toNat 0) := ⟨_, rfl⟩
      replace H : (sound_alarm.l1 k1 x5_1 y111 (y111.length : Int) 0 a1_0 a1_1 a1_2) = some r := by first | (rw [hy111]; with_reducible exact H) | (have H2_ := (Option.bind_some _ _).symm.trans H; rw [hy111]; with_reducible exact H2_) | (have H2_ := (Option.bind_some _ _).symm.trans H; with_reducible exact H2_) | with_reducible exact H | (rw [hy111]; exact H) | exact H
      have Ny111 := zam hy111
      clear hy111
      have H' := zam H
      clear H
      have p110 : 0 ≤ (0 : Int) := (by omega)
      have q110 : 0 < (l0.length : Int) := zod zq8
      obtain ⟨ad110, A110_0, c110_0, e110, hx110_0, hl110_0, hi110_0⟩ := at_T45 HR0.out 0 p110 q110
      cases e110
      have qi110 : (0 < l0.length) = True := eq_true (by omega)
      (try rw [show ((0 : Int)).toNat = 0 from rfl] at hx110_0)
      (try rw [Addr.add_zero'] at hx110_0)
      replace hx110_0 := (HB.out.cell (zwb w _ hx110_0)).trans hx110_0
      have HR110_0 := zam hi110_0
      have HC110_0 := zam hl110_0
      clear hi110_0 hl110_0
      replace p110 := eq_true p110
      replace q110 := eq_true q110
      go_wp2_with (first | ((with_reducible refine zgd (N := 31) rfl ?_); refine Kd.R_make (Kd.int .i64) _ 50 rfl (N := 31) rfl 66 _ _ rfl (((rd_T45 l0 0).f0).length : Int) rfl rfl Try.underlying66 (.int .i64 0) 8 info50 rfl (by decide) (by omega) 0 (ok := fun _ => True) (okp := fun _ => True) rfl (fun _ hk => hk) trivial (zod zq8) (Nat.le_trans (Nat.mul_le_mul_right _ (zod zq8 : (((rd_T45 l0 0).f0).length : Int).toNat ≤ 35184372088832)) (by omega)) (Below.refl _ _) (Nat.le_refl _) ?_; intro v112 w19 ho20 hb hg_ hnew_; clear hg_ hnew_; (first | rw [← Ny111.out] at ho20 | (simp only [Int.reduceToNat] at ho20; rw [← Ny111.out] at ho20)); have n0_ := zam (Kd.S_elder' (by (with_reducible repeat (first | apply Kd.S_alloc | apply Kd.S_drewN | apply Kd.S_drew)); exact HO_5.out) (Kd.R_base ho20) hb); have n1_ := zam (Kd.R_lower ho20 (zbz zq2)); have n2_ := zam (zkb (g := gb101) (o := .cells #[.int .i64 a1_0, .int .i64 a1_1, .int .i64 a1_2] 39 (0, 0)) zq0 hb); have n3_ := zam (zbt zq2 hb); clear HO_5; clear BK101; clear HB; have HO_5 := n0_; have HO113 := n1_; have BK101 := n2_; have HB := n3_; clear n0_ n1_ n2_ n3_; clear hb ho20; obtain ⟨Ao21, co21, eo21⟩ := Kd.R_slice HO113.out; subst eo21))
      go_loopg [34] k1 (fun kq v34 w' => ∃ (x8_2 : List Int) (x34_2 : Int), v34 = .int .i64 x34_2 ∧ Aside0 (sound_alarm.l1 kq x5_1 x8_2 (y111.length : Int) x34_2 a1_0 a1_1 a1_2 = some r) ∧ Aside0 (kq ≤ k1) ∧ Aside0 (Kd.S (Kd.slice 50 (Kd.int .i64)) 66 w' w.heap.size (fun k_ => some k_ ≠ ((.slice Ao21 y111.length co21) : Value).ownBlock) u5 x5_1) ∧ Aside0 (Kd.R (Kd.int .i64) 50 w' w.heap.size (fun _ => True) (.slice Ao21 y111.length co21) x8_2) ∧ Aside0 (w'.heap[gb101]? = some (.cells #[.int .i64 a1_0, .int .i64 a1_1, .int .i64 a1_2] 39 (0, 0))) ∧ Aside0 (Below w.heap.size w w'))
      case atStart => exact ⟨(y111), (0), zq9, H', ⟨Nat.le_refl _⟩, ⟨by (with_reducible repeat (first | apply Kd.S_alloc | apply Kd.S_drewN | apply Kd.S_drew)); exact Kd.S_mono HO_5.out (fun _ hk => hk.2)⟩, ⟨by (with_reducible repeat (first | apply zRa | apply zRn | apply zRd)); exact HO113.out⟩, ⟨by (with_reducible repeat (first | refine zkn ?_ _ | refine zkd ?_ | refine zka ?_ _)); exact BK101.out⟩, ⟨by repeat (first | (with_reducible first | exact HB.out | apply zba | apply zbn | apply zb1 | refine zbs ?_ GE101.out) | exact HB.out)⟩⟩
      case round =>
       clear H'
       try clear c1
       try clear p1
       try clear q1
       try clear hx1
       try clear qi1
       try clear p2
       try clear c4
       try clear c4b0
       try clear c5
       try clear c5b0
       try clear c6
       try clear c6b0
       try clear p6
       try clear c8
       try clear c10
       try clear p10
       try clear q10
       try clear hx10
       try clear c11
       try clear p11
       try clear q11
       try clear hx11
       try clear qi11
       try clear c16
       try clear c16b0
       try clear c16b1
       try clear c17
       try clear c17b0
       try clear c17b1
       try clear c18
       try clear c18b0
       try clear c18b1
       try clear hcz11_0
       try clear hcz12_0
       try clear hcz12_1
       try clear hcz12_2
       try clear hfz11_0
       try clear hfz12_0
       try clear hfz12_1
       try clear hfz12_2
       try clear hx102_0
       try clear hx110_0
       try clear p102
       try clear p110
       try clear p2
       try clear q102
       try clear q110
       obtain ⟨x8_2, x34_2, rfl, HA, HK2, HO_5, HO_8, BK101, HB⟩ := hrel
       have hl8_2 := (Kd.R_reads' HO_8.out).1
       rw [hl8_2] at HO_8
       (try simp only [hl8_2])
       (try simp only [hl8_2] at BK101)
       (try simp only [hl8_2] at HO_5)
       cases gk with
       | zero => exact absurd HA.out (by simp [sound_alarm.l1])
       | succ k2 =>
        have H := HA.out
        clear HA
        simp only [sound_alarm.l1] at H
        by_cases c22 : x34_2 < (y111.length : Int)
        ·rw [if_pos c22] at H
         have c22b0 : decide (x34_2 < (y111.length : Int)) = true := zdt c22
         (try (have c22b0y := c22b0; rw [hl8_2] at c22b0y))
         clear c22
         have H' := zam H
         clear H
         obtain ⟨Ao23, co23, eo23⟩ := Kd.S_slice HO_5.out
         subst eo23
         go_wp2
         go_loopg [10, 39] k2 (fun kq v10 v39 w' => ∃ (x10_3 : List Int) (x39_3 : Int), v39 = .int .i64 x39_3 ∧ Aside0 (sound_alarm.l2 kq x5_1 x8_2 x34_2 x10_3 (y111.length : Int) x34_2 x5_1 (x5_1.length : Int) x39_3 a1_0 a1_1 a1_2 = some r) ∧ Aside0 (kq ≤ k2) ∧ Aside0 (Kd.S (Kd.slice 50 (Kd.int .i64)) 66 w' w.heap.size (fun k_ => some k_ ≠ ((.slice Ao21 x8_2.length co21) : Value).ownBlock ∧ some k_ ≠ (v10 : Value).ownBlock) (.slice Ao23 x5_1.length co23) x5_1) ∧ Aside0 (Kd.R (Kd.int .i64) 50 w' w.heap.size (fun k_ => some k_ ≠ (v10 : Value).ownBlock) (.slice Ao21 x8_2.length co21) x8_2) ∧ Aside0 (Kd.R (Kd.int .i64) 50 w' w.heap.size (fun k_ => some k_ ≠ ((.slice Ao21 x8_2.length co21) : Value).ownBlock) v10 x10_3) ∧ Aside0 (Kd.S (Kd.slice 50 (Kd.int .i64)) 66 w' w.heap.size (fun k_ => some k_ ≠ ((.slice Ao21 x8_2.length co21) : Value).ownBlock ∧ some k_ ≠ (v10 : Value).ownBlock) (.slice Ao23 x5_1.length co23) x5_1) ∧ Aside0 (w'.heap[gb101]? = some (.cells #[.int .i64 a1_0, .int .i64 a1_1, .int .i64 a1_2] 39 (0, 0))) ∧ Aside0 (Below w.heap.size w w'))
         case atStart => exact ⟨(([] : List Int)), (0), zq9, H', ⟨Nat.le_refl _⟩, ⟨by (try simp only [hl8_2]); (with_reducible repeat (first | apply Kd.S_alloc | apply Kd.S_drewN | apply Kd.S_drew)); exact Kd.S_mono HO_5.out (fun _ hk => ⟨hk, (by simp [Value.ownBlock])⟩)⟩, ⟨by (try simp only [hl8_2]); (with_reducible repeat (first | apply zRa | apply zRn | apply zRd)); exact Kd.R_mono HO_8.out (fun _ hk => (by simp [Value.ownBlock]))⟩, ⟨by (try simp only [hl8_2]); first | exact Kd.R_nil _ _ _ _ _ | exact Kd.N_nil _ _ _ _ _ | exact Kd.V_nil _ _ _ _ _ | exact Kd.Q_nil _ _ _ _ _ | exact Kd.S_nil _ _ _ _ _⟩, ⟨by (try simp only [hl8_2]); (with_reducible repeat (first | apply Kd.S_alloc | apply Kd.S_drewN | apply Kd.S_drew)); exact Kd.S_mono HO_5.out (fun _ hk => ⟨hk, (by simp [Value.ownBlock])⟩)⟩, ⟨by (try simp only [hl8_2]); (with_reducible repeat (first | refine zkn ?_ _ | refine zkd ?_ | refine zka ?_ _)); exact BK101.out⟩, ⟨by repeat (first | (with_reducible first | exact HB.out | apply zba | apply zbn | apply zb1 | refine zbs ?_ GE101.out) | exact HB.out)⟩⟩
         case round =>
          clear H'
          try clear c1
          try clear p1
          try clear q1
          try clear hx1
          try clear qi1
          try clear c2
          try clear p2
          try clear c4
          try clear c4b0
          try clear c5
          try clear c5b0
          try clear c6
          try clear c6b0
          try clear p6
          try clear c8
          try clear c10
          try clear p10
          try clear q10
          try clear hx10
          try clear c11
          try clear p11
          try clear q11
          try clear hx11
          try clear qi11
          try clear c16
          try clear c16b0
          try clear c16b1
          try clear c17
          try clear c17b0
          try clear c17b1
          try clear c18
          try clear c18b0
          try clear c18b1
          try clear c22
          try clear c22b0
          try clear hcz11_0
          try clear hcz12_0
          try clear hcz12_1
          try clear hcz12_2
          try clear hfz11_0
          try clear hfz12_0
          try clear hfz12_1
          try clear hfz12_2
          try clear hx102_0
          try clear hx110_0
          try clear p1
          try clear p10
          try clear p102
          try clear p11
          try clear p110
          try clear p2
          try clear p6
          try clear q1
          try clear q10
          try clear q102
          try clear q11
          try clear q110
          obtain ⟨x10_3, x39_3, rfl, HA, HK3, HO_5, HO_8, HO_10, HO_37, BK101, HB⟩ := hrel
          cases gk with
          | zero => exact absurd HA.out (by simp [sound_alarm.l2])
          | succ k3 =>
           have H := HA.out
           clear HA
           simp only [sound_alarm.l2] at H
           by_cases c24 : x39_3 < (x5_1.length : Int)
           ·rw [if_pos c24] at H
            have c24b0 : decide (x39_3 < (x5_1.length : Int)) = true := zdt c24
            (try (have c24b0y := c24b0; rw [hl8_2] at c24b0y))
            clear c24
            by_cases c25 : 0 ≤ x39_3
            ·rw [if_pos c25] at H
             have c25b0 : decide (0 ≤ x39_3) = true := zdt c25
             (try (have c25b0y := c25b0; rw [hl8_2] at c25b0y))
             clear c25
             by_cases c26 : x39_3 < (x5_1.length : Int)
             ·rw [if_pos c26] at H
              have c26b0 : decide (x39_3 < (x5_1.length : Int)) = true := zdt c26
              (try (have c26b0y := c26b0; rw [hl8_2] at c26b0y))
              clear c26
              by_cases c27 : 0 ≤ x34_2
              ·rw [if_pos c27] at H
               have c27b0 : decide (0 ≤ x34_2) = true := zdt c27
               (try (have c27b0y := c27b0; rw [hl8_2] at c27b0y))
               clear c27
               by_cases c28 : x34_2 < ((rd_L4 x5_1 x39_3).length : Int)
               ·rw [if_pos c28] at H
                have c28b0 : decide (x34_2 < ((rd_L4 x5_1 x39_3).length : Int)) = true := zdt c28
                (try (have c28b0y := c28b0; rw [hl8_2] at c28b0y))
                clear c28
                by_cases c29 : x10_3.length < 17592186044416
                ·rw [if_pos c29] at H
                 have LMc29 := zam c29
                 clear c29
                 obtain ⟨y116, hy116⟩ : ∃ y_ : List Int, y_ = (x10_3 ++ [rd (rd_L4 x5_1 x39_3) x34_2]) := ⟨_, rfl⟩
                 replace H : (sound_alarm.l2 k3 x5_1 x8_2 x34_2 y116 (y111.length : Int) x34_2 x5_1 (x5_1.length : Int) (wrap64 (x39_3 + 1)) a1_0 a1_1 a1_2) = some r := by first | (rw [hy116]; with_reducible exact H) | (have H2_ := (Option.bind_some _ _).symm.trans H; rw [hy116]; with_reducible exact H2_) | (have H2_ := (Option.bind_some _ _).symm.trans H; with_reducible exact H2_) | with_reducible exact H | (rw [hy116]; exact H) | exact H
                 have Ny116 := zam hy116
                 clear hy116
                 have H' := zam H
                 clear H
                 have p114 : 0 ≤ (x39_3 : Int) := zod zq8
                 have q114 : x39_3 < (x5_1.length : Int) := zod zq8
                 obtain ⟨ad114, A114_0, c114_0, e114, hx114_0, hl114_0, hi114_0⟩ := at_L4 (Kd.S_reads' HO_37.out).2.2 x39_3 p114 q114
                 cases e114
                 obtain ⟨ce114, hce114, hMe114, hcc114⟩ := Kd.S_get HO_37.out [] x39_3 p114 (by first | exact q114 | exact zod zq8 | (have e_ := (Kd.S_reads' HO_37.out).1; omega))
                 obtain ⟨ve114_0, rfl, ge114_0⟩ := hMe114
                 have hv114_0 := hcc114 0 _ rfl
                 rw [Nat.add_zero, show ((Kd.slice 50 (Kd.int .i64))).sz = 1 from rfl, Nat.mul_one] at hv114_0
                 replace hv114_0 := zsi (hv114_0.symm.trans hx114_0)
                 rw [hv114_0] at ge114_0
                 have HL114_0 := zam (show Kd.R (Kd.int .i64) 50 _ _ _ _ (rd_L4 x5_1 x39_3) from ge114_0)
                 clear hv114_0 ge114_0
                 clear hcc114 hce114
                 have HR114_0 := zam hi114_0
                 have HC114_0 := zam hl114_0
                 clear hi114_0 hl114_0
                 replace p114 := eq_true p114
                 replace q114 := eq_true q114
                 have p115 : 0 ≤ (x34_2 : Int) := zod zq8
                 have q115 : x34_2 < ((rd_L4 x5_1 x39_3).length : Int) := zod zq8
                 obtain ⟨ad115, e115, hx115_0⟩ := Kd.at_int (by repeat (first | (with_reducible exact HR114_0.out) | (with_reducible refine Kd.C_alloc ?_ _) | (with_reducible refine Kd.C_drewN ?_ _) | (with_reducible refine Kd.C_drew ?_) | exact HR114_0.out)) x34_2 p115 q115
                 cases e115
                 replace p115 := eq_true p115
                 replace q115 := eq_true q115
                 go_wp2_with (first | ((with_reducible refine gate_builtin (b := .append) (xs := #[.tmp 43, .tmp 48]) rfl ?_); at_builtin; refine Kd.R_append (Kd.int .i64) (w0 := w) w.heap.size rfl (.tmp 43) (.tmp 48) 66 50 (.int .i64 0) 8 rfl Try.underlying66 info50 rfl (by decide) (by omega) u10 x10_3 (rd (rd_L4 x5_1 x39_3) x34_2) [.int .i64 (rd (rd_L4 x5_1 x39_3) x34_2)] (fun k_ => some k_ ≠ (.slice Ao21 x8_2.length co21 : Value).ownBlock) (fun _ => False) rfl rfl ?aP (fun _ hk => hk.elim) ?aF ?aO ?aB ?aS ?aL ?_; (case aP => exact rfl); (case aB => exact zq2); (case aF => exact (fun k_ hk => Kd.fresh' (Kd.R_lt (by (with_reducible repeat (first | apply zRa | apply zRn | apply zRd)); exact HO_8.out)) k_ hk)); (case aO => exact (by (with_reducible repeat (first | apply zRa | apply zRn | apply zRd)); exact HO_10.out)); (case aS => exact (zbz zq2)); (case aL => have := LMc29.out; omega); intro v117 w30 ho hb hg hat; rw [← Ny116.out] at ho; have n0_ := zam (Kd.S_after (ok := (fun k_ => some k_ ≠ (.slice Ao21 x8_2.length co21 : Value).ownBlock)) (by (with_reducible repeat (first | apply Kd.S_alloc | apply Kd.S_drewN | apply Kd.S_drew)); exact HO_5.out) hg hat); have n1_ := zam (Kd.R_after (ok := (fun _ => True)) (by (with_reducible repeat (first | apply zRa | apply zRn | apply zRd)); exact Kd.R_mono HO_8.out (fun _ hk => ⟨trivial, hk⟩)) hg hat); have n2_ := zam (Kd.S_after (ok := (fun k_ => some k_ ≠ (.slice Ao21 x8_2.length co21 : Value).ownBlock)) (by (with_reducible repeat (first | apply Kd.S_alloc | apply Kd.S_drewN | apply Kd.S_drew)); exact HO_37.out) hg hat); have n3_ := zam (blk_grown (g := gb101) (o := .cells #[.int .i64 a1_0, .int .i64 a1_1, .int .i64 a1_2] 39 (0, 0)) zq0 hg (Kd.R_ne HO_10.out BK101.out (by decide))); have n4_ := zam (Kd.R_after (ok := (fun k_ => some k_ ≠ (.slice Ao21 x8_2.length co21 : Value).ownBlock ∧ some k_ ≠ (.slice (some ad114) x5_1.length co23 : Value).ownBlock)) (by (with_reducible repeat (first | apply zRa | apply zRn | apply zRd)); exact Kd.R_mono HL114_0.out (fun _ hk => ⟨⟨hk.1.1, hk.2⟩, hk.1.2⟩)) hg hat); have n5_ := zam (hb); have n6_ := zam (ho); clear HO_5; clear HO_8; clear HO_37; clear BK101; clear HL114_0; clear HB; clear HO_10; have HO_5 := n0_; have HO_8 := n1_; have HO_37 := n2_; have BK101 := n3_; have HL114_0 := n4_; have HB := n5_; have HO118 := n6_; clear n0_ n1_ n2_ n3_ n4_ n5_ n6_; clear ho hb hg hat))
                 go_roundg k3
                 case measure => have := HK1.out; have := HK2.out; have := HK3.out; omega
                 case rel => exact ⟨(y116), (wrap64 (x39_3 + 1)), zq9, H', ⟨by have := HK1.out; have := HK2.out; have := HK3.out; omega⟩, ⟨by (try simp only [hl8_2]); (with_reducible repeat (first | apply Kd.S_alloc | apply Kd.S_drewN | apply Kd.S_drew)); exact HO_5.out⟩, ⟨by (try simp only [hl8_2]); (with_reducible repeat (first | apply zRa | apply zRn | apply zRd)); exact Kd.R_mono HO_8.out (fun _ hk => hk.2)⟩, ⟨by (try simp only [hl8_2]); (with_reducible repeat (first | apply zRa | apply zRn | apply zRd)); exact HO118.out⟩, ⟨by (try simp only [hl8_2]); (with_reducible repeat (first | apply Kd.S_alloc | apply Kd.S_drewN | apply Kd.S_drew)); exact HO_37.out⟩, ⟨by (try simp only [hl8_2]); (with_reducible repeat (first | refine zkn ?_ _ | refine zkd ?_ | refine zka ?_ _)); exact BK101.out⟩, ⟨by repeat (first | (with_reducible first | exact HB.out | apply zba | apply zbn | apply zb1 | refine zbs ?_ GE101.out) | exact HB.out)⟩⟩
                rw [if_neg c29] at H
                exact absurd H (by simp)
               rw [if_neg c28] at H
               exact absurd H (by simp)
              rw [if_neg c27] at H
              exact absurd H (by simp)
             rw [if_neg c26] at H
             exact absurd H (by simp)
            rw [if_neg c25] at H
            exact absurd H (by simp)
           rw [if_neg c24] at H
           have c24b0 : decide (x39_3 < (x5_1.length : Int)) = false := zdf c24
           (try (have c24b0y := c24b0; rw [hl8_2] at c24b0y))
           clear c24
           replace H := Option.bind_eq_some_iff.mp H
           obtain ⟨t119, A310, H⟩ := H
           replace H : (if 0 ≤ x34_2 then (if x34_2 < (x8_2.length : Int) then (sound_alarm.l1 k3 x5_1 (x8_2.set (x34_2 : Int).toNat t119) (y111.length : Int) (wrap64 (x34_2 + 1)) a1_0 a1_1 a1_2) else (none)) else (none)) = some r := H
           have A31 := zam A310
           clear A310
           by_cases c32 : 0 ≤ x34_2
           ·rw [if_pos c32] at H
            have c32b0 : decide (0 ≤ x34_2) = true := zdt c32
            (try (have c32b0y := c32b0; rw [hl8_2] at c32b0y))
            clear c32
            by_cases c33 : x34_2 < (x8_2.length : Int)
            ·rw [if_pos c33] at H
             have c33b0 : decide (x34_2 < (x8_2.length : Int)) = true := zdt c33
             (try (have c33b0y := c33b0; rw [hl8_2] at c33b0y))
             clear c33
             obtain ⟨y120, hy120⟩ : ∃ y_ : List Int, y_ = (x8_2.set (x34_2 : Int).toNat t119) := ⟨_, rfl⟩
             replace H : (sound_alarm.l1 k3 x5_1 y120 (y111.length : Int) (wrap64 (x34_2 + 1)) a1_0 a1_1 a1_2) = some r := by first | (rw [hy120]; with_reducible exact H) | (have H2_ := (Option.bind_some _ _).symm.trans H; rw [hy120]; with_reducible exact H2_) | (have H2_ := (Option.bind_some _ _).symm.trans H; with_reducible exact H2_) | with_reducible exact H | (rw [hy120]; exact H) | exact H
             have Ny120 := zam hy120
             clear hy120
             have H' := zam H
             clear H
             have hcz35_0 : wr.cell? ⟨gb101, 0, none⟩ = some (.int .i64 a1_0) := (zkc BK101.out 0).trans rfl
             have hcz35_1 : wr.cell? ⟨gb101, 1, none⟩ = some (.int .i64 a1_1) := (zkc BK101.out 1).trans rfl
             have hcz35_2 : wr.cell? ⟨gb101, 2, none⟩ = some (.int .i64 a1_2) := (zkc BK101.out 2).trans rfl
             have hfz35_0 := zkz BK101.out 0
             have hfz35_1 := zkz BK101.out 1
             have hfz35_2 := zkz BK101.out 2
             obtain ⟨Ao36, co36, eo36⟩ := Kd.R_slice HO_10.out
             subst eo36
             go_wp2_with (first | ((with_reducible refine zgc (f := 107) rfl ?_); refine goesL_ (some 56) rfl rfl Try.func107 (by kernel_rfl) rfl #[.int .i64 a1_2, .slice Ao36 x10_3.length co36] rfl zq4 ?_; (with_reducible refine (sound_enough.calls k3 a1_2 _ _ x10_3 t119 _ ?side1 ?side2 A31.out).mono ?_); (case side1 => repeat (first | exact (Kd.R_reads' HO_10.out).2.2 | (with_reducible refine Kd.C_alloc ?_ _) | (with_reducible refine Kd.C_drewN ?_ _) | (with_reducible refine Kd.C_drew ?_))); (case side2 => exact (Kd.R_reads' HO_10.out).2.1); rintro e w' ⟨rfl, ⟨nd, rfl⟩⟩; refine ⟨_, rfl, ?_⟩; (try (rw [drewN_self wr]; generalize hq_ : World.drewN wr _ = wr; have n0_ : Aside0 (Kd.R (Kd.int .i64) 50 wr w.heap.size (fun k_ => some k_ ≠ (.slice Ao21 x8_2.length co21 : Value).ownBlock) (.slice Ao36 x10_3.length co36) x10_3) := ⟨by rw [← hq_]; exact (by (with_reducible repeat (first | apply zRa | apply zRn | apply zRd)); exact HO_10.out)⟩; have n1_ : Aside0 (Kd.S (Kd.slice 50 (Kd.int .i64)) 66 wr w.heap.size (fun k_ => some k_ ≠ (.slice Ao36 x10_3.length co36 : Value).ownBlock ∧ some k_ ≠ (.slice Ao21 x8_2.length co21 : Value).ownBlock) (.slice Ao23 x5_1.length co23) x5_1) := ⟨by rw [← hq_]; exact (by (with_reducible repeat (first | apply Kd.S_alloc | apply Kd.S_drewN | apply Kd.S_drew)); exact Kd.S_mono HO_37.out (fun _ hk => by first | exact ⟨hk.2, hk.1⟩ | exact ⟨hk.1, hk.2⟩))⟩; have n2_ : Aside0 (Kd.S (Kd.slice 50 (Kd.int .i64)) 66 wr w.heap.size (fun k_ => some k_ ≠ (.slice Ao36 x10_3.length co36 : Value).ownBlock ∧ some k_ ≠ (.slice Ao21 x8_2.length co21 : Value).ownBlock) (.slice Ao23 x5_1.length co23) x5_1) := ⟨by rw [← hq_]; exact (by (with_reducible repeat (first | apply Kd.S_alloc | apply Kd.S_drewN | apply Kd.S_drew)); exact Kd.S_mono HO_5.out (fun _ hk => by first | exact ⟨hk.2, hk.1⟩ | exact ⟨hk.1, hk.2⟩))⟩; have n3_ : Aside0 (Kd.R (Kd.int .i64) 50 wr w.heap.size (fun k_ => some k_ ≠ (.slice Ao36 x10_3.length co36 : Value).ownBlock) (.slice Ao21 x8_2.length co21) x8_2) := ⟨by rw [← hq_]; exact (by (with_reducible repeat (first | apply zRa | apply zRn | apply zRd)); exact HO_8.out)⟩; have n4_ : Aside0 (wr.heap[gb101]? = some (.cells #[.int .i64 a1_0, .int .i64 a1_1, .int .i64 a1_2] 39 (0, 0))) := ⟨by rw [← hq_]; exact zq0⟩; have n5_ : Aside0 (Below w.heap.size w wr) := ⟨by rw [← hq_]; exact zq2⟩; clear HO_10 HO_37 HO_5 HO_8 BK101 HB hq_; have HO_10 := n0_; have HO_37 := n1_; have HO_5 := n2_; have HO_8 := n3_; have BK101 := n4_; have HB := n5_; clear n0_ n1_ n2_ n3_ n4_ n5_)); have p34 : 0 ≤ (x34_2 : Int) := zod zq8; have q34 : (x34_2 : Int) < ((x8_2.length : Int) : Int) := zod zq8; obtain ⟨go34, co34, eo34, gb34, gl34, cl34, HG34⟩ := Kd.R_form HO_8.out (by omega); (first | cases eo34 | (injection eo34 with ea_ en_ ec_; (first | subst ea_ | (injection ea_ with ea_; subst ea_)); subst ec_; clear en_)); have GB34 := zam gb34; have GG34 := zam HG34; clear gb34 gl34 HG34; obtain ⟨hx34_0, hf34_0⟩ := Kd.R_celln 0 HO_8.out (x34_2 : Int) p34 q34; replace p34 := eq_true p34; replace q34 := eq_true q34; obtain ⟨hy37_, hz37_⟩ := Kd.R_celln 0 HO_8.out (x34_2 : Int) (zod zq8) (zod zq8); have HP37 := Kd.R_putg HO_8.out (x34_2 : Int) t119) | ((with_reducible refine gate_store (t := 50) (p := 57) rfl ?_); refine store_event (t := 50) (p := 57) (v := ?vo_w38) (w1 := (wr.setCell ⟨go34, (x34_2 : Int).toNat, none⟩ (.int .i64 t119))) ?hg ?ho ?hn ?hr ?_; (case ho => rfl); (case hg => rfl); (case hn => rfl); (case hr => first | (go_simp; done) | (go_simp; rfl)); intro w38 hw; have hg : wr.grownBy w38 (some go34) := (by rw [hw]; exact HP37.2); have hp_ : Kd.R (Kd.int .i64) 50 w38 w.heap.size (fun k_ => some k_ ≠ (.slice Ao36 x10_3.length co36 : Value).ownBlock) (.slice (some ⟨go34, 0, none⟩) x8_2.length co21) y120 := (by rw [hw, Ny120.out]; exact HP37.1); clear HP37; have n0_ := zam (Kd.S_after (v := (.slice (some ⟨go34, 0, none⟩) x8_2.length co21)) (v1 := (.slice (some ⟨go34, 0, none⟩) x8_2.length co21)) (ok := (fun k_ => some k_ ≠ (.slice Ao36 x10_3.length co36 : Value).ownBlock)) (by (with_reducible repeat (first | apply Kd.S_alloc | apply Kd.S_drewN | apply Kd.S_drew)); exact Kd.S_mono HO_5.out (fun _ hk => by first | exact ⟨hk.2, hk.1⟩ | exact ⟨hk.1, hk.2⟩)) hg (.inl rfl)); have n1_ := zam (hp_); have n2_ := zam (Kd.R_after (v := (.slice (some ⟨go34, 0, none⟩) x8_2.length co21)) (v1 := (.slice (some ⟨go34, 0, none⟩) x8_2.length co21)) (ok := (fun _ => True)) (by (with_reducible repeat (first | apply zRa | apply zRn | apply zRd)); exact Kd.R_mono HO_10.out (fun _ hk => ⟨trivial, hk⟩)) hg (.inl rfl)); have n3_ := zam (Kd.S_after (v := (.slice (some ⟨go34, 0, none⟩) x8_2.length co21)) (v1 := (.slice (some ⟨go34, 0, none⟩) x8_2.length co21)) (ok := (fun k_ => some k_ ≠ (.slice Ao36 x10_3.length co36 : Value).ownBlock)) (by (with_reducible repeat (first | apply Kd.S_alloc | apply Kd.S_drewN | apply Kd.S_drew)); exact Kd.S_mono HO_37.out (fun _ hk => by first | exact ⟨hk.2, hk.1⟩ | exact ⟨hk.1, hk.2⟩)) hg (.inl rfl)); have n4_ := zam (blk_grown (g := gb101) (o := .cells #[.int .i64 a1_0, .int .i64 a1_1, .int .i64 a1_2] 39 (0, 0)) zq0 hg (Kd.R_ne HO_8.out BK101.out (by decide))); have n5_ := zam ((by rw [hw]; exact zbs (HB.out) GB34.out : Below w.heap.size w w38)); clear HO_5; clear HO_8; clear HO_10; clear HO_37; clear BK101; clear HB; have HO_5 := n0_; have HO_8 := n1_; have HO_10 := n2_; have HO_37 := n3_; have BK101 := n4_; have HB := n5_; clear n0_ n1_ n2_ n3_ n4_ n5_; clear hg hw hp_))
             (try simp only [← hl8_2])
             go_roundg k3
             case measure => have := HK1.out; have := HK2.out; have := HK3.out; omega
             case rel => exact ⟨(y120), (wrap64 (x34_2 + 1)), zq9, H', ⟨by have := HK1.out; have := HK2.out; have := HK3.out; omega⟩, ⟨by (try simp only [hl8_2]); (with_reducible repeat (first | apply Kd.S_alloc | apply Kd.S_drewN | apply Kd.S_drew)); exact Kd.S_mono HO_5.out (fun _ hk => hk.2)⟩, ⟨by (try simp only [hl8_2]); (with_reducible repeat (first | apply zRa | apply zRn | apply zRd)); exact Kd.R_mono HO_8.out (fun _ hk => trivial)⟩, ⟨by (try simp only [hl8_2]); (with_reducible repeat (first | refine zkn ?_ _ | refine zkd ?_ | refine zka ?_ _)); exact BK101.out⟩, ⟨by repeat (first | (with_reducible first | exact HB.out | apply zba | apply zbn | apply zb1 | refine zbs ?_ GE101.out) | exact HB.out)⟩⟩
            rw [if_neg c33] at H
            exact absurd H (by simp)
           rw [if_neg c32] at H
           exact absurd H (by simp)
        rw [if_neg c22] at H
        have c22b0 : decide (x34_2 < (y111.length : Int)) = false := zdf c22
        (try (have c22b0y := c22b0; rw [hl8_2] at c22b0y))
        clear c22
        obtain rfl := zsi H
        go_wp2
        go_ret
        exact ⟨_, by first | rfl | (simp [errW_none, errW_some] <;> rfl) | (simp [*, errW_none, errW_some] <;> rfl), by (with_reducible repeat (first | apply zRa | apply zRn | apply zRd)); exact HO_8.out, by repeat (first | (with_reducible first | exact HB.out | apply zba | apply zbn | apply zb1 | refine zbs ?_ GE101.out) | exact HB.out)⟩
     rw [if_neg c18] at H
     exact absurd H (by simp)
    rw [if_neg c17] at H
    exact absurd H (by simp)
   rw [if_neg c16] at H
   exact absurd H (by simp)
def sound_checkGauges_1.f (l0_0 : List (S24)) : Option (Bool) := some (decide ((l0_0.length : Int) > 256))
set_option maxHeartbeats 8000000 in
set_option maxRecDepth 100000 in
theorem sound_checkGauges_1.calls (A0_0 : Option Addr) (c0_0 : Nat) (l0_0 : List (S24)) (r : Bool) (w : World) (hr0_0 : Kd.C k24 w A0_0 l0_0.length l0_0) (hc0_0 : l0_0.length ≤ c0_0) (h : sound_checkGauges_1.f l0_0 = some r) :
  Calls Try.prog 103 #[.agg #[.slice A0_0 l0_0.length c0_0]] w fun e w' => e = .returned (.bool r) ∧ Below w.heap.size w w' := by
 have hu45 := Try.underlying45
 have HR0_0 := zam hr0_0
 have HC0_0 := zam hc0_0
 clear hr0_0 hc0_0
 have HB := zam (Below.refl w.heap.size w)
 have H : (some (decide ((l0_0.length : Int) > 256))) = some r := h
 clear h
 obtain rfl := zsi H
 go_enter Try.func103, Try.ntmps103
 go_wp2_with (first | ((with_reducible refine zgd (N := 1) rfl ?_); refine box_event ?hg (N := 1) ?hd (cs := #[.slice A0_0 l0_0.length c0_0]) (t := 45) ?hr ?_; (case hd => rfl); (case hg => rfl); (case hr => first | (go_simp; done) | (go_simp; rfl)); intro gb101 hg w2 hbox hb; have n0_ := zam (zbt zq1 hb); have n1_ := zam (hbox); have n2_ := zam ((by rw [hg]; exact (zbz zq1) : w.heap.size ≤ gb101)); have n3_ := zam ((by rw [hg]; exact (zbz zq1) : w.heap.size ≤ gb101)); clear HB; have HB := n0_; have BK101 := n1_; have GW101 := n2_; have GE101 := n3_; clear n0_ n1_ n2_ n3_; clear hb hbox hg; have hcz3_0 : w2.cell? ⟨gb101, 0, none⟩ = some (.slice A0_0 l0_0.length c0_0) := (zkc BK101.out 0).trans rfl; have hfz3_0 := zkz BK101.out 0))
 go_ret
 exact ⟨by first | rfl | (simp [errW_none, errW_some] <;> rfl) | (simp [*, errW_none, errW_some] <;> rfl), by repeat (first | (with_reducible first | exact HB.out | apply zba | apply zbn | apply zb1 | refine zbs ?_ GE101.out) | exact HB.out)⟩
def slices_IndexFunc_Gauge_sound_checkGauges_1.l0 : Nat → List (S45) → Int → Int → Option (Int)
 | 0, _, _, _ => none
 | k + 1, x0, x7, x8 => if x8 < x7 then (if 0 ≤ x8 then (if x8 < (x0.length : Int) then ((sound_checkGauges_1.f ((rd_T45 x0 x8).f0)).bind fun t102 => (if t102 = true then (some x8) else (slices_IndexFunc_Gauge_sound_checkGauges_1.l0 k x0 x7 (wrap64 (x8 + 1))))) else (none)) else (none)) else (some (-1))
def slices_IndexFunc_Gauge_sound_checkGauges_1.f (k : Nat) (l0 : List (S45))  : Option (Int) := slices_IndexFunc_Gauge_sound_checkGauges_1.l0 k l0 (l0.length : Int) 0
theorem slices_IndexFunc_Gauge_sound_checkGauges_1.mono_l : ∀ k, (∀ y0 y1 y2, LeO (slices_IndexFunc_Gauge_sound_checkGauges_1.l0 k y0 y1 y2) (slices_IndexFunc_Gauge_sound_checkGauges_1.l0 (k + 1) y0 y1 y2))
 | 0 => fun _ _ _ r h => by simp [slices_IndexFunc_Gauge_sound_checkGauges_1.l0] at h
 | k + 1 => by
  have ih0 := slices_IndexFunc_Gauge_sound_checkGauges_1.mono_l k
  intro y0 y1 y2
  unfold slices_IndexFunc_Gauge_sound_checkGauges_1.l0
  repeat' first
  | (with_reducible exact ih0 _ _ _)
  | (with_reducible exact LeO.refl _)
  | (with_reducible exact LeO.none _)
  | (with_reducible refine LeO.ite ?_ ?_)
  | (with_reducible refine LeO.bind ?_ (fun _ => ?_))
  | exact ih0 _ _ _
  | exact LeO.none _
  | refine LeO.ite ?_ ?_
  | refine LeO.bind ?_ (fun _ => ?_)
theorem slices_IndexFunc_Gauge_sound_checkGauges_1.mono : ∀ a0 k, LeO (slices_IndexFunc_Gauge_sound_checkGauges_1.f k a0) (slices_IndexFunc_Gauge_sound_checkGauges_1.f (k + 1) a0) := by
 intro a0 k
 have ih0 := slices_IndexFunc_Gauge_sound_checkGauges_1.mono_l k
 unfold slices_IndexFunc_Gauge_sound_checkGauges_1.f
 repeat' first
   | (with_reducible exact ih0 _ _ _)
   | (with_reducible exact LeO.refl _)
   | (with_reducible exact LeO.none _)
   | (with_reducible refine LeO.ite ?_ ?_)
   | (with_reducible refine LeO.bind ?_ (fun _ => ?_))
   | exact ih0 _ _ _
   | exact LeO.none _
   | refine LeO.ite ?_ ?_
   | refine LeO.bind ?_ (fun _ => ?_)
set_option maxHeartbeats 8000000 in
set_option maxRecDepth 100000 in
theorem slices_IndexFunc_Gauge_sound_checkGauges_1.calls (k : Nat) (A0 : Option Addr) (c0 : Nat) (l0 : List (S45))  (r : Int) (w : World) (hr0 : Kd.C k45 w A0 l0.length l0) (hc0 : l0.length ≤ c0) (h : slices_IndexFunc_Gauge_sound_checkGauges_1.f k l0 = some r) :
  Calls Try.prog 128 #[.slice A0 l0.length c0, .func (.func 103) #[] #[]] w fun e w' => e = .returned (.int .i64 r) ∧ Below w.heap.size w w' := by
 have hu45 := Try.underlying45
 have HR0 := zam hr0
 have HC0 := zam hc0
 clear hr0 hc0
 have HB := zam (Below.refl w.heap.size w)
 have H : (slices_IndexFunc_Gauge_sound_checkGauges_1.l0 k l0 (l0.length : Int) 0) = some r := h
 clear h
 have H' := zam H
 clear H
 go_enter Try.func128, Try.ntmps128
 go_wp2
 go_loopg [8] k (fun kq v8 w' => ∃ (x8_1 : Int), v8 = .int .i64 x8_1 ∧ Aside0 (slices_IndexFunc_Gauge_sound_checkGauges_1.l0 kq l0 (l0.length : Int) x8_1 = some r) ∧ Aside0 (kq ≤ k) ∧ Aside0 (Below w.heap.size w w'))
 case atStart => exact ⟨(0), zq9, H', ⟨Nat.le_refl _⟩, ⟨by repeat (first | (with_reducible first | exact HB.out | apply zba | apply zbn | apply zb1) | exact HB.out)⟩⟩
 case round =>
  clear H'
  try clear p2
  obtain ⟨x8_1, rfl, HA, HK1, HB⟩ := hrel
  cases gk with
  | zero => exact absurd HA.out (by simp [slices_IndexFunc_Gauge_sound_checkGauges_1.l0])
  | succ k1 =>
   have H := HA.out
   clear HA
   simp only [slices_IndexFunc_Gauge_sound_checkGauges_1.l0] at H
   by_cases c3 : x8_1 < (l0.length : Int)
   ·rw [if_pos c3] at H
    have c3b0 : decide (x8_1 < (l0.length : Int)) = true := zdt c3
    clear c3
    by_cases c4 : 0 ≤ x8_1
    ·rw [if_pos c4] at H
     have c4b0 : decide (0 ≤ x8_1) = true := zdt c4
     clear c4
     by_cases c5 : x8_1 < (l0.length : Int)
     ·rw [if_pos c5] at H
      have c5b0 : decide (x8_1 < (l0.length : Int)) = true := zdt c5
      clear c5
      replace H := Option.bind_eq_some_iff.mp H
      obtain ⟨t102, A60, H⟩ := H
      replace H : (if t102 = true then (some x8_1) else (slices_IndexFunc_Gauge_sound_checkGauges_1.l0 k1 l0 (l0.length : Int) (wrap64 (x8_1 + 1)))) = some r := H
      have A6 := zam A60
      clear A60
      by_cases c7 : t102 = true
      ·subst c7
       have H1 : (some x8_1) = some r := by rw [if_pos rfl] at H; exact H
       clear H
       have H := H1
       clear H1
       obtain rfl := zsi H
       have p101 : 0 ≤ (x8_1 : Int) := zod zq8
       have q101 : x8_1 < (l0.length : Int) := zod zq8
       obtain ⟨ad101, A101_0, c101_0, e101, hx101_0, hl101_0, hi101_0⟩ := at_T45 HR0.out x8_1 p101 q101
       cases e101
       replace hx101_0 := (HB.out.cell (zwb w _ hx101_0)).trans hx101_0
       have HR101_0 := zam hi101_0
       have HC101_0 := zam hl101_0
       clear hi101_0 hl101_0
       replace p101 := eq_true p101
       replace q101 := eq_true q101
       go_wp2_with (first | (go_at_call 103; (with_reducible refine (sound_checkGauges_1.calls _ _ ((rd_T45 l0 x8_1).f0) true _ ?side1 ?side2 A6.out).mono ?_); (case side1 => repeat (first | exact (Kd.C_below HR101_0.out HB.out) | (with_reducible refine Kd.C_alloc ?_ _) | (with_reducible refine Kd.C_drewN ?_ _) | (with_reducible refine Kd.C_drew ?_))); (case side2 => exact HC101_0.out); rintro e w8 ⟨rfl, hb⟩; have n0_ := zam (zbt zq1 hb); clear HB; have HB := n0_; clear n0_; (try clear hb); (try clear hb2); (try clear hk); (try clear hi)))
       go_ret
       exact ⟨by first | rfl | (simp [errW_none, errW_some] <;> rfl) | (simp [*, errW_none, errW_some] <;> rfl), by repeat (first | (with_reducible first | exact HB.out | apply zba | apply zbn | apply zb1) | exact HB.out)⟩
      replace c7 := Bool.eq_false_iff.mpr c7
      subst c7
      have H1 : (slices_IndexFunc_Gauge_sound_checkGauges_1.l0 k1 l0 (l0.length : Int) (wrap64 (x8_1 + 1))) = some r := by rw [if_neg (show ¬ (false = true) by decide)] at H; exact H
      clear H
      have H := H1
      clear H1
      have H' := zam H
      clear H
      have p101 : 0 ≤ (x8_1 : Int) := zod zq8
      have q101 : x8_1 < (l0.length : Int) := zod zq8
      obtain ⟨ad101, A101_0, c101_0, e101, hx101_0, hl101_0, hi101_0⟩ := at_T45 HR0.out x8_1 p101 q101
      cases e101
      replace hx101_0 := (HB.out.cell (zwb w _ hx101_0)).trans hx101_0
      have HR101_0 := zam hi101_0
      have HC101_0 := zam hl101_0
      clear hi101_0 hl101_0
      replace p101 := eq_true p101
      replace q101 := eq_true q101
      go_wp2_with (first | (go_at_call 103; (with_reducible refine (sound_checkGauges_1.calls _ _ ((rd_T45 l0 x8_1).f0) false _ ?side1 ?side2 A6.out).mono ?_); (case side1 => repeat (first | exact (Kd.C_below HR101_0.out HB.out) | (with_reducible refine Kd.C_alloc ?_ _) | (with_reducible refine Kd.C_drewN ?_ _) | (with_reducible refine Kd.C_drew ?_))); (case side2 => exact HC101_0.out); rintro e w9 ⟨rfl, hb⟩; have n0_ := zam (zbt zq1 hb); clear HB; have HB := n0_; clear n0_; (try clear hb); (try clear hb2); (try clear hk); (try clear hi)))
      go_roundg k1
      case measure => have := HK1.out; omega
      case rel => exact ⟨(wrap64 (x8_1 + 1)), zq9, H', ⟨by have := HK1.out; omega⟩, ⟨by repeat (first | (with_reducible first | exact HB.out | apply zba | apply zbn | apply zb1) | exact HB.out)⟩⟩
     rw [if_neg c5] at H
     exact absurd H (by simp)
    rw [if_neg c4] at H
    exact absurd H (by simp)
   rw [if_neg c3] at H
   have c3b0 : decide (x8_1 < (l0.length : Int)) = false := zdf c3
   clear c3
   obtain rfl := zsi H
   go_wp2
   go_ret
   exact ⟨by first | rfl | (simp [errW_none, errW_some] <;> rfl) | (simp [*, errW_none, errW_some] <;> rfl), by repeat (first | (with_reducible first | exact HB.out | apply zba | apply zbn | apply zb1) | exact HB.out)⟩
def slices_ContainsFunc_Gauge_sound_checkGauges_1.f (k : Nat) (l0 : List (S45))  : Option (Bool) := (slices_IndexFunc_Gauge_sound_checkGauges_1.f k l0).bind fun t101 => (some (decide (t101 ≥ 0)))
theorem slices_ContainsFunc_Gauge_sound_checkGauges_1.mono : ∀ a0 k, LeO (slices_ContainsFunc_Gauge_sound_checkGauges_1.f k a0) (slices_ContainsFunc_Gauge_sound_checkGauges_1.f (k + 1) a0) := by
 intro a0 k
 unfold slices_ContainsFunc_Gauge_sound_checkGauges_1.f
 repeat' first
   | (with_reducible exact slices_IndexFunc_Gauge_sound_checkGauges_1.mono _ _)
   | (with_reducible exact LeO.refl _)
   | (with_reducible exact LeO.none _)
   | (with_reducible refine LeO.ite ?_ ?_)
   | (with_reducible refine LeO.bind ?_ (fun _ => ?_))
   | exact slices_IndexFunc_Gauge_sound_checkGauges_1.mono _ _
   | exact LeO.none _
   | refine LeO.ite ?_ ?_
   | refine LeO.bind ?_ (fun _ => ?_)
set_option maxHeartbeats 8000000 in
set_option maxRecDepth 100000 in
theorem slices_ContainsFunc_Gauge_sound_checkGauges_1.calls (k : Nat) (A0 : Option Addr) (c0 : Nat) (l0 : List (S45))  (r : Bool) (w : World) (hr0 : Kd.C k45 w A0 l0.length l0) (hc0 : l0.length ≤ c0) (h : slices_ContainsFunc_Gauge_sound_checkGauges_1.f k l0 = some r) :
  Calls Try.prog 102 #[.slice A0 l0.length c0, .func (.func 103) #[] #[]] w fun e w' => e = .returned (.bool r) ∧ Below w.heap.size w w' := by
 have HR0 := zam hr0
 have HC0 := zam hc0
 clear hr0 hc0
 have HB := zam (Below.refl w.heap.size w)
 have H : ((slices_IndexFunc_Gauge_sound_checkGauges_1.f k l0).bind fun t101 => (some (decide (t101 ≥ 0)))) = some r := h
 clear h
 replace H := Option.bind_eq_some_iff.mp H
 obtain ⟨t101, A30, H⟩ := H
 replace H : (some (decide (t101 ≥ 0))) = some r := H
 have A3 := zam A30
 clear A30
 obtain rfl := zsi H
 go_enter Try.func102, Try.ntmps102
 go_wp2_with (first | ((with_reducible refine zgc (f := 128) rfl ?_); refine goesL_ (some 7) rfl rfl Try.func128 (by kernel_rfl) rfl #[.slice A0 l0.length c0, .func (.func 103) #[] #[]] rfl zq4 ?_; (with_reducible refine (slices_IndexFunc_Gauge_sound_checkGauges_1.calls k _ _ l0  t101 _ ?side1 ?side2 A3.out).mono ?_); (case side1 => repeat (first | exact HR0.out | (with_reducible refine Kd.C_alloc ?_ _) | (with_reducible refine Kd.C_drewN ?_ _) | (with_reducible refine Kd.C_drew ?_))); (case side2 => exact HC0.out); rintro e w4 ⟨rfl, hb⟩; refine ⟨_, rfl, ?_⟩; have n0_ := zam (zbt zq1 hb); clear HB; have HB := n0_; clear n0_; (try clear hb); (try clear hb2); (try clear hk); (try clear hi)))
 go_ret
 exact ⟨by first | rfl | (simp [errW_none, errW_some] <;> rfl) | (simp [*, errW_none, errW_some] <;> rfl), by repeat (first | (with_reducible first | exact HB.out | apply zba | apply zbn | apply zb1) | exact HB.out)⟩
def sound_checkGauges_3.f (k : Nat) (l0_0 : List (S24)) : Option (Bool) := (sound_checkTrack.f k l0_0).bind fun t102 => (some (t102 != 0))
theorem sound_checkGauges_3.mono : ∀ a0 k, LeO (sound_checkGauges_3.f k a0) (sound_checkGauges_3.f (k + 1) a0) := by
 intro a0 k
 unfold sound_checkGauges_3.f
 repeat' first
   | (with_reducible exact sound_checkTrack.mono _ _)
   | (with_reducible exact LeO.refl _)
   | (with_reducible exact LeO.none _)
   | (with_reducible refine LeO.ite ?_ ?_)
   | (with_reducible refine LeO.bind ?_ (fun _ => ?_))
   | exact sound_checkTrack.mono _ _
   | exact LeO.none _
   | refine LeO.ite ?_ ?_
   | refine LeO.bind ?_ (fun _ => ?_)
set_option maxHeartbeats 8000000 in
set_option maxRecDepth 100000 in
theorem sound_checkGauges_3.calls (k : Nat) (A0_0 : Option Addr) (c0_0 : Nat) (l0_0 : List (S24)) (r : Bool) (w : World) (hr0_0 : Kd.C k24 w A0_0 l0_0.length l0_0) (hc0_0 : l0_0.length ≤ c0_0) (h : sound_checkGauges_3.f k l0_0 = some r) :
  Calls Try.prog 105 #[.agg #[.slice A0_0 l0_0.length c0_0]] w fun e w' => e = .returned (.bool r) ∧ Below w.heap.size w w' := by
 have hu45 := Try.underlying45
 have HR0_0 := zam hr0_0
 have HC0_0 := zam hc0_0
 clear hr0_0 hc0_0
 have HB := zam (Below.refl w.heap.size w)
 have H : ((sound_checkTrack.f k l0_0).bind fun t102 => (some (t102 != 0))) = some r := h
 clear h
 replace H := Option.bind_eq_some_iff.mp H
 obtain ⟨t102, A20, H⟩ := H
 replace H : (some (t102 != 0)) = some r := H
 have A2 := zam A20
 clear A20
 obtain rfl := zsi H
 go_enter Try.func105, Try.ntmps105
 go_wp2_with (first | ((with_reducible refine zgd (N := 1) rfl ?_); refine box_event ?hg (N := 1) ?hd (cs := #[.slice A0_0 l0_0.length c0_0]) (t := 45) ?hr ?_; (case hd => rfl); (case hg => rfl); (case hr => first | (go_simp; done) | (go_simp; rfl)); intro gb101 hg w3 hbox hb; have n0_ := zam (zbt zq1 hb); have n1_ := zam (hbox); have n2_ := zam ((by rw [hg]; exact (zbz zq1) : w.heap.size ≤ gb101)); have n3_ := zam ((by rw [hg]; exact (zbz zq1) : w.heap.size ≤ gb101)); clear HB; have HB := n0_; have BK101 := n1_; have GW101 := n2_; have GE101 := n3_; clear n0_ n1_ n2_ n3_; clear hb hbox hg; have hcz4_0 : w3.cell? ⟨gb101, 0, none⟩ = some (.slice A0_0 l0_0.length c0_0) := (zkc BK101.out 0).trans rfl; have hfz4_0 := zkz BK101.out 0) | ((with_reducible refine zgc (f := 71) rfl ?_); refine goesL_ (some 5) rfl rfl Try.func71 (by kernel_rfl) rfl #[.slice A0_0 l0_0.length c0_0] rfl zq4 ?_; (with_reducible refine (sound_checkTrack.calls k _ _ l0_0 t102 _ ?side1 ?side2 A2.out).mono ?_); (case side1 => repeat (first | exact (Kd.C_below HR0_0.out HB.out) | (with_reducible refine Kd.C_alloc ?_ _) | (with_reducible refine Kd.C_drewN ?_ _) | (with_reducible refine Kd.C_drew ?_))); (case side2 => exact HC0_0.out); rintro e w5 ⟨rfl, hb⟩; refine ⟨_, rfl, ?_⟩; have n0_ := zam (zkb (g := gb101) (o := .cells #[.slice A0_0 l0_0.length c0_0] 45 (0, 0)) zq0 hb); have n1_ := zam (zbt zq2 hb); clear BK101; clear HB; have BK101 := n0_; have HB := n1_; clear n0_ n1_; (try clear hb); (try clear hb2); (try clear hk); (try clear hi)))
 go_ret
 exact ⟨by first | rfl | (simp [errW_none, errW_some] <;> rfl) | (simp [*, errW_none, errW_some] <;> rfl), by repeat (first | (with_reducible first | exact HB.out | apply zba | apply zbn | apply zb1 | refine zbs ?_ GE101.out) | exact HB.out)⟩
def slices_IndexFunc_Gauge_sound_checkGauges_3.l0 : Nat → List (S45) → Int → Int → Option (Int)
 | 0, _, _, _ => none
 | k + 1, x0, x7, x8 => if x8 < x7 then (if 0 ≤ x8 then (if x8 < (x0.length : Int) then ((sound_checkGauges_3.f k ((rd_T45 x0 x8).f0)).bind fun t102 => (if t102 = true then (some x8) else (slices_IndexFunc_Gauge_sound_checkGauges_3.l0 k x0 x7 (wrap64 (x8 + 1))))) else (none)) else (none)) else (some (-1))
def slices_IndexFunc_Gauge_sound_checkGauges_3.f (k : Nat) (l0 : List (S45))  : Option (Int) := slices_IndexFunc_Gauge_sound_checkGauges_3.l0 k l0 (l0.length : Int) 0
theorem slices_IndexFunc_Gauge_sound_checkGauges_3.mono_l : ∀ k, (∀ y0 y1 y2, LeO (slices_IndexFunc_Gauge_sound_checkGauges_3.l0 k y0 y1 y2) (slices_IndexFunc_Gauge_sound_checkGauges_3.l0 (k + 1) y0 y1 y2))
 | 0 => fun _ _ _ r h => by simp [slices_IndexFunc_Gauge_sound_checkGauges_3.l0] at h
 | k + 1 => by
  have ih0 := slices_IndexFunc_Gauge_sound_checkGauges_3.mono_l k
  intro y0 y1 y2
  unfold slices_IndexFunc_Gauge_sound_checkGauges_3.l0
  repeat' first
  | (with_reducible exact ih0 _ _ _)
  | (with_reducible exact sound_checkGauges_3.mono _ _)
  | (with_reducible exact LeO.refl _)
  | (with_reducible exact LeO.none _)
  | (with_reducible refine LeO.ite ?_ ?_)
  | (with_reducible refine LeO.bind ?_ (fun _ => ?_))
  | exact ih0 _ _ _
  | exact sound_checkGauges_3.mono _ _
  | exact LeO.none _
  | refine LeO.ite ?_ ?_
  | refine LeO.bind ?_ (fun _ => ?_)
theorem slices_IndexFunc_Gauge_sound_checkGauges_3.mono : ∀ a0 k, LeO (slices_IndexFunc_Gauge_sound_checkGauges_3.f k a0) (slices_IndexFunc_Gauge_sound_checkGauges_3.f (k + 1) a0) := by
 intro a0 k
 have ih0 := slices_IndexFunc_Gauge_sound_checkGauges_3.mono_l k
 unfold slices_IndexFunc_Gauge_sound_checkGauges_3.f
 repeat' first
   | (with_reducible exact ih0 _ _ _)
   | (with_reducible exact sound_checkGauges_3.mono _ _)
   | (with_reducible exact LeO.refl _)
   | (with_reducible exact LeO.none _)
   | (with_reducible refine LeO.ite ?_ ?_)
   | (with_reducible refine LeO.bind ?_ (fun _ => ?_))
   | exact ih0 _ _ _
   | exact sound_checkGauges_3.mono _ _
   | exact LeO.none _
   | refine LeO.ite ?_ ?_
   | refine LeO.bind ?_ (fun _ => ?_)
set_option maxHeartbeats 8000000 in
set_option maxRecDepth 100000 in
theorem slices_IndexFunc_Gauge_sound_checkGauges_3.calls (k : Nat) (A0 : Option Addr) (c0 : Nat) (l0 : List (S45))  (r : Int) (w : World) (hr0 : Kd.C k45 w A0 l0.length l0) (hc0 : l0.length ≤ c0) (h : slices_IndexFunc_Gauge_sound_checkGauges_3.f k l0 = some r) :
  Calls Try.prog 128 #[.slice A0 l0.length c0, .func (.func 105) #[] #[]] w fun e w' => e = .returned (.int .i64 r) ∧ Below w.heap.size w w' := by
 have hu45 := Try.underlying45
 have HR0 := zam hr0
 have HC0 := zam hc0
 clear hr0 hc0
 have HB := zam (Below.refl w.heap.size w)
 have H : (slices_IndexFunc_Gauge_sound_checkGauges_3.l0 k l0 (l0.length : Int) 0) = some r := h
 clear h
 have H' := zam H
 clear H
 go_enter Try.func128, Try.ntmps128
 go_wp2
 go_loopg [8] k (fun kq v8 w' => ∃ (x8_1 : Int), v8 = .int .i64 x8_1 ∧ Aside0 (slices_IndexFunc_Gauge_sound_checkGauges_3.l0 kq l0 (l0.length : Int) x8_1 = some r) ∧ Aside0 (kq ≤ k) ∧ Aside0 (Below w.heap.size w w'))
 case atStart => exact ⟨(0), zq9, H', ⟨Nat.le_refl _⟩, ⟨by repeat (first | (with_reducible first | exact HB.out | apply zba | apply zbn | apply zb1) | exact HB.out)⟩⟩
 case round =>
  clear H'
  try clear p2
  obtain ⟨x8_1, rfl, HA, HK1, HB⟩ := hrel
  cases gk with
  | zero => exact absurd HA.out (by simp [slices_IndexFunc_Gauge_sound_checkGauges_3.l0])
  | succ k1 =>
   have H := HA.out
   clear HA
   simp only [slices_IndexFunc_Gauge_sound_checkGauges_3.l0] at H
   by_cases c3 : x8_1 < (l0.length : Int)
   ·rw [if_pos c3] at H
    have c3b0 : decide (x8_1 < (l0.length : Int)) = true := zdt c3
    clear c3
    by_cases c4 : 0 ≤ x8_1
    ·rw [if_pos c4] at H
     have c4b0 : decide (0 ≤ x8_1) = true := zdt c4
     clear c4
     by_cases c5 : x8_1 < (l0.length : Int)
     ·rw [if_pos c5] at H
      have c5b0 : decide (x8_1 < (l0.length : Int)) = true := zdt c5
      clear c5
      replace H := Option.bind_eq_some_iff.mp H
      obtain ⟨t102, A60, H⟩ := H
      replace H : (if t102 = true then (some x8_1) else (slices_IndexFunc_Gauge_sound_checkGauges_3.l0 k1 l0 (l0.length : Int) (wrap64 (x8_1 + 1)))) = some r := H
      have A6 := zam A60
      clear A60
      by_cases c7 : t102 = true
      ·subst c7
       have H1 : (some x8_1) = some r := by rw [if_pos rfl] at H; exact H
       clear H
       have H := H1
       clear H1
       obtain rfl := zsi H
       have p101 : 0 ≤ (x8_1 : Int) := zod zq8
       have q101 : x8_1 < (l0.length : Int) := zod zq8
       obtain ⟨ad101, A101_0, c101_0, e101, hx101_0, hl101_0, hi101_0⟩ := at_T45 HR0.out x8_1 p101 q101
       cases e101
       replace hx101_0 := (HB.out.cell (zwb w _ hx101_0)).trans hx101_0
       have HR101_0 := zam hi101_0
       have HC101_0 := zam hl101_0
       clear hi101_0 hl101_0
       replace p101 := eq_true p101
       replace q101 := eq_true q101
       go_wp2_with (first | (go_at_call 105; (with_reducible refine (sound_checkGauges_3.calls k1 _ _ ((rd_T45 l0 x8_1).f0) true _ ?side1 ?side2 A6.out).mono ?_); (case side1 => repeat (first | exact (Kd.C_below HR101_0.out HB.out) | (with_reducible refine Kd.C_alloc ?_ _) | (with_reducible refine Kd.C_drewN ?_ _) | (with_reducible refine Kd.C_drew ?_))); (case side2 => exact HC101_0.out); rintro e w8 ⟨rfl, hb⟩; have n0_ := zam (zbt zq1 hb); clear HB; have HB := n0_; clear n0_; (try clear hb); (try clear hb2); (try clear hk); (try clear hi)))
       go_ret
       exact ⟨by first | rfl | (simp [errW_none, errW_some] <;> rfl) | (simp [*, errW_none, errW_some] <;> rfl), by repeat (first | (with_reducible first | exact HB.out | apply zba | apply zbn | apply zb1) | exact HB.out)⟩
      replace c7 := Bool.eq_false_iff.mpr c7
      subst c7
      have H1 : (slices_IndexFunc_Gauge_sound_checkGauges_3.l0 k1 l0 (l0.length : Int) (wrap64 (x8_1 + 1))) = some r := by rw [if_neg (show ¬ (false = true) by decide)] at H; exact H
      clear H
      have H := H1
      clear H1
      have H' := zam H
      clear H
      have p101 : 0 ≤ (x8_1 : Int) := zod zq8
      have q101 : x8_1 < (l0.length : Int) := zod zq8
      obtain ⟨ad101, A101_0, c101_0, e101, hx101_0, hl101_0, hi101_0⟩ := at_T45 HR0.out x8_1 p101 q101
      cases e101
      replace hx101_0 := (HB.out.cell (zwb w _ hx101_0)).trans hx101_0
      have HR101_0 := zam hi101_0
      have HC101_0 := zam hl101_0
      clear hi101_0 hl101_0
      replace p101 := eq_true p101
      replace q101 := eq_true q101
      go_wp2_with (first | (go_at_call 105; (with_reducible refine (sound_checkGauges_3.calls k1 _ _ ((rd_T45 l0 x8_1).f0) false _ ?side1 ?side2 A6.out).mono ?_); (case side1 => repeat (first | exact (Kd.C_below HR101_0.out HB.out) | (with_reducible refine Kd.C_alloc ?_ _) | (with_reducible refine Kd.C_drewN ?_ _) | (with_reducible refine Kd.C_drew ?_))); (case side2 => exact HC101_0.out); rintro e w9 ⟨rfl, hb⟩; have n0_ := zam (zbt zq1 hb); clear HB; have HB := n0_; clear n0_; (try clear hb); (try clear hb2); (try clear hk); (try clear hi)))
      go_roundg k1
      case measure => have := HK1.out; omega
      case rel => exact ⟨(wrap64 (x8_1 + 1)), zq9, H', ⟨by have := HK1.out; omega⟩, ⟨by repeat (first | (with_reducible first | exact HB.out | apply zba | apply zbn | apply zb1) | exact HB.out)⟩⟩
     rw [if_neg c5] at H
     exact absurd H (by simp)
    rw [if_neg c4] at H
    exact absurd H (by simp)
   rw [if_neg c3] at H
   have c3b0 : decide (x8_1 < (l0.length : Int)) = false := zdf c3
   clear c3
   obtain rfl := zsi H
   go_wp2
   go_ret
   exact ⟨by first | rfl | (simp [errW_none, errW_some] <;> rfl) | (simp [*, errW_none, errW_some] <;> rfl), by repeat (first | (with_reducible first | exact HB.out | apply zba | apply zbn | apply zb1) | exact HB.out)⟩
def slices_ContainsFunc_Gauge_sound_checkGauges_3.f (k : Nat) (l0 : List (S45))  : Option (Bool) := (slices_IndexFunc_Gauge_sound_checkGauges_3.f k l0).bind fun t101 => (some (decide (t101 ≥ 0)))
theorem slices_ContainsFunc_Gauge_sound_checkGauges_3.mono : ∀ a0 k, LeO (slices_ContainsFunc_Gauge_sound_checkGauges_3.f k a0) (slices_ContainsFunc_Gauge_sound_checkGauges_3.f (k + 1) a0) := by
 intro a0 k
 unfold slices_ContainsFunc_Gauge_sound_checkGauges_3.f
 repeat' first
   | (with_reducible exact slices_IndexFunc_Gauge_sound_checkGauges_3.mono _ _)
   | (with_reducible exact LeO.refl _)
   | (with_reducible exact LeO.none _)
   | (with_reducible refine LeO.ite ?_ ?_)
   | (with_reducible refine LeO.bind ?_ (fun _ => ?_))
   | exact slices_IndexFunc_Gauge_sound_checkGauges_3.mono _ _
   | exact LeO.none _
   | refine LeO.ite ?_ ?_
   | refine LeO.bind ?_ (fun _ => ?_)
set_option maxHeartbeats 8000000 in
set_option maxRecDepth 100000 in
theorem slices_ContainsFunc_Gauge_sound_checkGauges_3.calls (k : Nat) (A0 : Option Addr) (c0 : Nat) (l0 : List (S45))  (r : Bool) (w : World) (hr0 : Kd.C k45 w A0 l0.length l0) (hc0 : l0.length ≤ c0) (h : slices_ContainsFunc_Gauge_sound_checkGauges_3.f k l0 = some r) :
  Calls Try.prog 102 #[.slice A0 l0.length c0, .func (.func 105) #[] #[]] w fun e w' => e = .returned (.bool r) ∧ Below w.heap.size w w' := by
 have HR0 := zam hr0
 have HC0 := zam hc0
 clear hr0 hc0
 have HB := zam (Below.refl w.heap.size w)
 have H : ((slices_IndexFunc_Gauge_sound_checkGauges_3.f k l0).bind fun t101 => (some (decide (t101 ≥ 0)))) = some r := h
 clear h
 replace H := Option.bind_eq_some_iff.mp H
 obtain ⟨t101, A30, H⟩ := H
 replace H : (some (decide (t101 ≥ 0))) = some r := H
 have A3 := zam A30
 clear A30
 obtain rfl := zsi H
 go_enter Try.func102, Try.ntmps102
 go_wp2_with (first | ((with_reducible refine zgc (f := 128) rfl ?_); refine goesL_ (some 7) rfl rfl Try.func128 (by kernel_rfl) rfl #[.slice A0 l0.length c0, .func (.func 105) #[] #[]] rfl zq4 ?_; (with_reducible refine (slices_IndexFunc_Gauge_sound_checkGauges_3.calls k _ _ l0  t101 _ ?side1 ?side2 A3.out).mono ?_); (case side1 => repeat (first | exact HR0.out | (with_reducible refine Kd.C_alloc ?_ _) | (with_reducible refine Kd.C_drewN ?_ _) | (with_reducible refine Kd.C_drew ?_))); (case side2 => exact HC0.out); rintro e w4 ⟨rfl, hb⟩; refine ⟨_, rfl, ?_⟩; have n0_ := zam (zbt zq1 hb); clear HB; have HB := n0_; clear n0_; (try clear hb); (try clear hb2); (try clear hk); (try clear hi)))
 go_ret
 exact ⟨by first | rfl | (simp [errW_none, errW_some] <;> rfl) | (simp [*, errW_none, errW_some] <;> rfl), by repeat (first | (with_reducible first | exact HB.out | apply zba | apply zbn | apply zb1) | exact HB.out)⟩
end Go.Proofs.Ytaheamdoldiojaa.P
