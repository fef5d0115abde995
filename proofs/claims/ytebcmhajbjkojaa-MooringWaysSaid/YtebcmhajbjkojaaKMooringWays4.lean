/- wherever an object drifts without being found, the cell where it is after each hour is one of Where, or it has left the area, which is told. (as MooringSearches) Part 5 of 7. -/
-- Put together by wip/tools/shake.py, a program of this work: out of the words that the kit's print tool (print.sh) writes for a claim and what wip/tools/xprint.py prints, those that this claim reaches, and this work's own texts.
import Derived.RangeFuncBox
import Derived.RangeFuncNested
import Derived.RangeFuncBound
import Derived.RangeFuncCalls
import Derived.RangeFuncLeaves
import Derived.Shelf.Abstract
import Derived.Shelf.RegionOpen
import Derived.OwnWalkIn
import Derived.TacticsInMore
import Derived.LoopNIn
import Derived.LoopIn
import Derived.Sort.QuietIn
import Derived.Maps.AppendAt
import Derived.Sort.LoopGhostIn
import Derived.Laws.EntriesVeiled
import Derived.Test.YtebcmhajbjkojaaKMooringWays3
namespace Go.Proofs.Ytebcmhajbjkojaa.P
open Go.RowKit Go.Proofs.YtebcmhajbjkojaaW.PrintWords Go.Proofs.YtebcmhajbjkojaaW.PrintLast Go.Proofs.YtebcmhajbjkojaaW.PrintMore
attribute [local go_sem] max2_int min2_int max_two min_two max_three min_three max_four min_four   -- for this text's walks alone
set_option linter.unusedVariables false
set_option linter.unusedSimpArgs false
open Go.Shelf
attribute [local go_sem] Oper.semAt_some
def Srch.mark (mk : List Bool) (x : Int) : List Bool := if x < 0 then mk else mk.set x.toNat true
def Srch.marks (mk : List Bool) (xs : List Int) : List Bool := xs.foldl Srch.mark mk
def Srch.out (xs : List Int) : Bool := xs.any fun x => decide (x < 0)
def Srch.unmark (mk : List Bool) (xs : List Int) : List Bool := xs.foldl (fun mk x => mk.set x.toNat false) mk
theorem Srch.unmark_snoc (mk : List Bool) (xs : List Int) (x : Int) : Srch.unmark mk (xs ++ [x]) = (Srch.unmark mk xs).set x.toNat false := by simp [Srch.unmark]
def Srch.hourMk (wd hg e0 e1 n0 n1 : Int) (mk : List Bool) (xs : List Int) : List Bool := xs.foldl (fun mk c => Srch.marks mk (Srch.reach wd hg c e0 e1 n0 n1)) mk
def Srch.hourLf (wd hg e0 e1 n0 n1 : Int) (xs : List Int) : Bool := xs.any fun c => Srch.out (Srch.reach wd hg c e0 e1 n0 n1)
theorem Srch.hourMk_snoc (wd hg e0 e1 n0 n1 : Int) (mk : List Bool) (xs : List Int) (c : Int) : Srch.hourMk wd hg e0 e1 n0 n1 mk (xs ++ [c]) = Srch.marks (Srch.hourMk wd hg e0 e1 n0 n1 mk xs) (Srch.reach wd hg c e0 e1 n0 n1) := by simp [Srch.hourMk]
theorem Srch.hourLf_snoc (wd hg e0 e1 n0 n1 : Int) (xs : List Int) (c : Int) : Srch.hourLf wd hg e0 e1 n0 n1 (xs ++ [c]) = (Srch.hourLf wd hg e0 e1 n0 n1 xs || Srch.out (Srch.reach wd hg c e0 e1 n0 n1)) := by simp [Srch.hourLf]
def markOf (D : Nat) : Deferred := { target := .collected D, args := #[] }
def Shut (ds : List Nat) (W : World) : World := ds.foldl (fun W D => W.putObj D (.deferred none)) W
theorem leaves_marks {F : Fence} {n : Nat} {P : Program} {fn : Func} {tmps : Array Value} {R : Ending → World → Prop} : ∀ (ds : List Nat) (W : World), ds.Nodup → (∀ D ∈ ds, W.heap[D]? = some (.deferred (some []))) →
  LeavesIn F n P fn tmps R [] .returning (Shut ds W) → LeavesInM F n P fn tmps R (ds.map markOf) .returning W
 | [], W, _, _, h => h
 | D :: ds, W, hn, hd, h => by
  rw [List.nodup_cons] at hn
  refine ⟨by simp, .inl ⟨D, W.putObj D (.deferred none), rfl, run_takeDeferred (hd D List.mem_cons_self), ?_⟩⟩
  refine leaves_marks ds _ hn.2 (fun E hE => ?_) h
  have hne : D ≠ E := fun e => hn.1 (e ▸ hE)
  have := hd E (List.mem_cons_of_mem _ hE)
  simpa [World.putObj, hne] using this
theorem info_bool : (Try.prog.info? 4).map (fun i => (i.zero, i.size, i.bytes)) = some (some (.bool false), 1, 1) := by kernel_rfl
theorem made_bools (m : Nat) : madeCells (Value.bool false).cells (m * 1) = ((List.replicate m false).map Value.bool).toArray := by
 apply Array.ext
 ·simp [madeCells]
 intro i h1 h2
 simp [madeCells, Value.cells, Nat.mod_one]
theorem hour_make (W : World) (m : Nat) (hm : m ≤ 576) : (Instr.makeSlice 114 (.int .i64 (m : Int)) (.int .i64 (m : Int))).run Try.prog W = .ok (.slice (some ⟨W.heap.size, 0, none⟩) m m) (W.alloc (.cells (((List.replicate m false).map Value.bool).toArray) 4)) := by
 obtain ⟨i0, hi, hz0, hz1, hz2⟩ := info_parts info_bool
 have h := run_makeSlice (P := Try.prog) W 114 4 i0 (.bool false) Try.underlying114 hi hz0 .i64 .i64 (m : Int) (m : Int) (by omega) (by omega) (by rw [hz1]; omega) (by rw [hz2]; omega) (by omega)
 rw [hz1, Int.toNat_natCast, made_bools] at h
 exact h
theorem own_at {B k : Nat} {o : Obj} {W W' : World} {row : Option Nat} (hk : k < B) (h : W.heap[k]? = some o) (hg : W.grownBy W' row) (hr : ∀ r, row = some r → B ≤ r ∧ ∃ o : Obj, W.heap[r]? = some o ∧ o.isCells = false) : W'.heap[k]? = some o := by
 refine (hg.block k (blk_lt h) (fun e => ?_)).trans h
 have := (hr k e.symm).1
 omega
theorem Srch.Keep.putObj {Bh Bc Ba l : Nat} (W : World) (o : Obj) (h1 : Bh < l) (h2 : Bc < l) (h3 : Ba < l) : Srch.Keep Bh Bc Ba W (W.putObj l o) := by
 have e : ∀ k, k < l → (W.putObj l o).heap[k]? = W.heap[k]? := fun k hk => by
  have : l ≠ k := by omega
  simp [World.putObj, this]
 exact ⟨e _ h1, e _ h2, e _ h3⟩
theorem three_boxes (W : World) (a b c : Array Value) (ta tb tc : TypeId) :
  (((W.alloc (.cells a ta)).alloc (.cells b tb)).alloc (.cells c tc)).heap[W.heap.size + 1 + 1]? = some (.cells c tc (0, 0)) ∧ (((W.alloc (.cells a ta)).alloc (.cells b tb)).alloc (.cells c tc)).heap[W.heap.size + 1]? = some (.cells b tb (0, 0)) ∧ (((W.alloc (.cells a ta)).alloc (.cells b tb)).alloc (.cells c tc)).heap[W.heap.size]? = some (.cells a ta (0, 0)) := by
 have h2 := blk_new (W.alloc (.cells a ta)) (.cells b tb)
 have h3 := blk_new ((W.alloc (.cells a ta)).alloc (.cells b tb)) (.cells c tc)
 rw [World.size_alloc] at h2
 rw [World.size_alloc, World.size_alloc] at h3
 exact ⟨h3, zka h2 _, zka (zka (blk_new W _) _) _⟩
theorem five_boxes (W : World) (a b c d e : Array Value) (ta tb tc td te : TypeId) (V : World) (hV : V = ((((W.alloc (.cells a ta)).alloc (.cells b tb)).alloc (.cells c tc)).alloc (.cells d td)).alloc (.cells e te)) :
  V.heap[W.heap.size]? = some (.cells a ta (0, 0)) ∧ V.heap[W.heap.size + 1]? = some (.cells b tb (0, 0)) ∧ V.heap[W.heap.size + 1 + 1]? = some (.cells c tc (0, 0)) ∧ V.heap[W.heap.size + 1 + 1 + 1]? = some (.cells d td (0, 0)) ∧ V.heap[W.heap.size + 1 + 1 + 1 + 1]? = some (.cells e te (0, 0)) := by
 subst hV
 have h1 := blk_new W (.cells a ta)
 have h2 := blk_new (W.alloc (.cells a ta)) (.cells b tb)
 have h3 := blk_new ((W.alloc (.cells a ta)).alloc (.cells b tb)) (.cells c tc)
 have h4 := blk_new (((W.alloc (.cells a ta)).alloc (.cells b tb)).alloc (.cells c tc)) (.cells d td)
 have h5 := blk_new ((((W.alloc (.cells a ta)).alloc (.cells b tb)).alloc (.cells c tc)).alloc (.cells d td)) (.cells e te)
 simp only [World.size_alloc] at h2 h3 h4 h5
 exact ⟨zka (zka (zka (zka h1 _) _) _) _, zka (zka (zka h2 _) _) _, zka (zka h3 _) _, zka h4 _, h5⟩
structure HourIn (w : World) (wd hg e0 e1 n0 n1 : Int) (sv : Value) (m : Nat) (mk : List Bool) (lf : Bool) (ds : List Nat) (W : World) : Prop where
 ka : W.heap[w.heap.size]? = some (.cells #[.int .i64 wd, .int .i64 hg] 120 (0, 0))
 kh : W.heap[w.heap.size + 1]? = some (.cells #[.int .i64 e0, .int .i64 e1, .int .i64 n0, .int .i64 n1, sv] 79 (0, 0))
 km : W.heap[w.heap.size + 2]? = some (.cells ((mk.map Value.bool).toArray) 4 (0, 0))
 k3 : W.heap[w.heap.size + 3]? = some (.cells #[.slice (some ⟨w.heap.size + 2, 0, none⟩) m m] 114 (0, 0))
 k4 : W.heap[w.heap.size + 4]? = some (.cells #[.bool lf] 4 (0, 0))
 len : mk.length = m
 nd : ds.Nodup
 ds : ∀ D ∈ ds, w.heap.size ≤ D ∧ W.heap[D]? = some (.deferred (some []))
 below : Below w.heap.size w W
theorem other_obj {V : World} {D k : Nat} {o : Obj} {cs : Array Value} {ty : TypeId} {fz : Nat × Nat} (hD : V.heap[D]? = some o) (hk : V.heap[k]? = some (.cells cs ty fz)) (ho : o.isCells = false) : D ≠ k := by
 intro e
 subst e
 rw [hD] at hk
 cases hk
 cases ho
section
variable {w : World} {wd hg e0 e1 n0 n1 : Int} {sv : Value} {m : Nat} {mk : List Bool} {lf : Bool} {ds : List Nat} {V : World}
theorem HourIn.set_mark (h : HourIn w wd hg e0 e1 n0 n1 sv m mk lf ds V) (j : Nat) (b : Bool) : HourIn w wd hg e0 e1 n0 n1 sv m (mk.set j b) lf ds (V.setCell ⟨w.heap.size + 2, j, none⟩ (.bool b)) where
 ka := zkf h.ka (by show w.heap.size ≠ w.heap.size + 2; omega) _
 kh := zkf h.kh (by show w.heap.size + 1 ≠ w.heap.size + 2; omega) _
 km := blk_put h.km j (.bool b) (by simp [List.map_set])
 k3 := zkf h.k3 (by show w.heap.size + 3 ≠ w.heap.size + 2; omega) _
 k4 := zkf h.k4 (by show w.heap.size + 4 ≠ w.heap.size + 2; omega) _
 len := by rw [List.length_set]; exact h.len
 nd := h.nd
 ds := fun D hD => ⟨(h.ds D hD).1, (Below.heap_setCell V ⟨w.heap.size + 2, j, none⟩ (.bool b) D (other_obj (h.ds D hD).2 h.km rfl)).trans (h.ds D hD).2⟩
 below := zbs h.below (by omega)
theorem HourIn.set_left (h : HourIn w wd hg e0 e1 n0 n1 sv m mk lf ds V) (b : Bool) : HourIn w wd hg e0 e1 n0 n1 sv m mk b ds (V.setCell ⟨w.heap.size + 4, 0, none⟩ (.bool b)) where
 ka := zkf h.ka (by show w.heap.size ≠ w.heap.size + 4; omega) _
 kh := zkf h.kh (by show w.heap.size + 1 ≠ w.heap.size + 4; omega) _
 km := zkf h.km (by show w.heap.size + 2 ≠ w.heap.size + 4; omega) _
 k3 := zkf h.k3 (by show w.heap.size + 3 ≠ w.heap.size + 4; omega) _
 k4 := blk_put h.k4 0 (.bool b) rfl
 len := h.len
 nd := h.nd
 ds := fun D hD => ⟨(h.ds D hD).1, (Below.heap_setCell V ⟨w.heap.size + 4, 0, none⟩ (.bool b) D (other_obj (h.ds D hD).2 h.k4 rfl)).trans (h.ds D hD).2⟩
 below := zbs h.below (by omega)
end
theorem HourIn.grown {w : World} {wd hg e0 e1 n0 n1 : Int} {sv : Value} {m : Nat} {mk : List Bool} {lf : Bool} {ds : List Nat} {V V' : World} (h : HourIn w wd hg e0 e1 n0 n1 sv m mk lf ds V) {v : Value} {n ty sz : Nat} {xs : List Value} (hr : V.ownsRow (w.heap.size + 5) ty sz v n xs) (hgr : V.grownBy V' v.ownBlock) : HourIn w wd hg e0 e1 n0 n1 sv m mk lf ds V' := by
 have hb : ∀ k, v.ownBlock = some k → w.heap.size + 5 ≤ k := fun k hk => own_base hr k hk
 have hc : ∀ k, v.ownBlock = some k → ∃ cs ty fz, V.heap[k]? = some (.cells cs ty fz) := by
  intro k hk
  rcases hr.2 with ⟨e, _⟩ | ⟨g, cap, cur, e, _, hcur, _⟩
  ·rw [e] at hk
   cases hk
  rw [e] at hk
  simp only [Value.ownBlock, Option.some.injEq] at hk
  subst hk
  exact ⟨_, _, _, hcur⟩
 have keep : ∀ (k : Nat) (o : Obj), k < w.heap.size + 5 → V.heap[k]? = some o → V'.heap[k]? = some o := fun k o hk ho => (hgr.block k (blk_lt ho) (fun e => by have := hb k e.symm; omega)).trans ho
 exact ⟨keep _ _ (by omega) h.ka, keep _ _ (by omega) h.kh, keep _ _ (by omega) h.km, keep _ _ (by omega) h.k3, keep _ _ (by omega) h.k4, h.len, h.nd,
  fun D hD => ⟨(h.ds D hD).1, (hgr.block D (blk_lt (h.ds D hD).2) (fun e => by
   obtain ⟨cs, ty, fz, hk⟩ := hc D e.symm
   exact other_obj (h.ds D hD).2 hk rfl rfl)).trans (h.ds D hD).2⟩,
  h.below.grown hgr (Nat.le_of_lt (Nat.lt_of_le_of_lt (by omega) (blk_lt h.k4))) (fun k e => by have := hb k e; omega)⟩
theorem HourIn.alloc {w : World} {wd hg e0 e1 n0 n1 : Int} {sv : Value} {m : Nat} {mk : List Bool} {lf : Bool} {ds : List Nat} {V : World} (h : HourIn w wd hg e0 e1 n0 n1 sv m mk lf ds V) (o : Obj) : HourIn w wd hg e0 e1 n0 n1 sv m mk lf ds (V.alloc o) :=
 ⟨zka h.ka _, zka h.kh _, zka h.km _, zka h.k3 _, zka h.k4 _, h.len, h.nd, fun D hD => ⟨(h.ds D hD).1, zka (h.ds D hD).2 _⟩, zba h.below _⟩
def Srch.list (mk : List Bool) (j : Nat) : List Int := ((List.range j).filter fun i => mk[i]?.getD false).map fun i : Nat => (i : Int)
theorem Srch.list_hit {mk : List Bool} {j : Nat} (h : mk[j]?.getD false = true) : Srch.list mk (j + 1) = Srch.list mk j ++ [(j : Int)] := by simp [Srch.list, List.range_succ, List.filter_append, h]
theorem Srch.list_miss {mk : List Bool} {j : Nat} (h : mk[j]?.getD false = false) : Srch.list mk (j + 1) = Srch.list mk j := by simp [Srch.list, List.range_succ, List.filter_append, h]
theorem Srch.list_le (mk : List Bool) (j : Nat) : (Srch.list mk j).length ≤ j := by
 unfold Srch.list
 rw [List.length_map]
 exact Nat.le_trans (List.length_filter_le _ _) (by rw [List.length_range]; exact Nat.le_refl _)
theorem Srch.Keep.setCell {Bh Bc Ba : Nat} (V : World) (p : Addr) (u : Value) (h1 : Bh ≠ p.block) (h2 : Bc ≠ p.block) (h3 : Ba ≠ p.block) : Srch.Keep Bh Bc Ba V (V.setCell p u) :=
 ⟨Below.heap_setCell V p u _ h1, Below.heap_setCell V p u _ h2, Below.heap_setCell V p u _ h3⟩
theorem Srch.marks_snoc (mk : List Bool) (xs : List Int) (x : Int) : Srch.marks mk (xs ++ [x]) = Srch.mark (Srch.marks mk xs) x := by simp [Srch.marks]
theorem Srch.out_snoc (xs : List Int) (x : Int) : Srch.out (xs ++ [x]) = (Srch.out xs || decide (x < 0)) := by simp [Srch.out]
theorem shut_below {B : Nat} {w : World} : ∀ (ds : List Nat) (W : World), Below B w W → (∀ D ∈ ds, B ≤ D) → Below B w (Shut ds W)
 | [], _, h, _ => h
 | D :: ds, W, h, hd => by
  refine shut_below ds (W.putObj D (.deferred none)) (h.trans ⟨rfl, rfl, rfl, ?_, fun k hk => ?_⟩) fun E hE => hd E (List.mem_cons_of_mem _ hE)
  ·simp [World.putObj]
  have h1 : D ≠ k := by
   have := hd D List.mem_cons_self
   omega
  simp [World.putObj, h1]
theorem shut_row {base e size : Nat} {v : Value} {n : Nat} {xs : List Value} : ∀ (ds : List Nat) (W : World), W.ownsRow base e size v n xs → ds.Nodup → (∀ D ∈ ds, W.heap[D]? = some (.deferred (some []))) → (Shut ds W).ownsRow base e size v n xs
 | [], _, h, _, _ => h
 | D :: ds, W, h, hn, hd => by
  rw [List.nodup_cons] at hn
  refine shut_row ds (W.putObj D (.deferred none)) (ownsRow_putObj h _ (hd D List.mem_cons_self) rfl) hn.2 fun E hE => ?_
  have hne : D ≠ E := fun e => hn.1 (e ▸ hE)
  have := hd E (List.mem_cons_of_mem _ hE)
  simpa [World.putObj, hne] using this
theorem ownsRow_base {W : World} {b b' e size : Nat} {v : Value} {n : Nat} {xs : List Value} (h : W.ownsRow b e size v n xs) (hb : b' ≤ b) : W.ownsRow b' e size v n xs :=
 ⟨h.1, h.2.imp id fun ⟨g, cap, cur, h1, h2, h3⟩ => ⟨g, cap, cur, h1, Nat.le_trans hb h2, h3⟩⟩
theorem shut_drawn (k : Nat) : ∀ (ds : List Nat) (W : World), Shut ds (W.drewN k) = (Shut ds W).drewN k
 | [], _ => rfl
 | D :: ds, W => shut_drawn k ds (W.putObj D (.deferred none))
theorem below_drew0 {B : Nat} {w W : World} {k : Nat} (ds : List Nat) (h : Below B w (Shut ds W)) : Below B w (Shut ds (W.drewN k)) := by
 rw [shut_drawn]
 exact ⟨h.os, h.tape, h.output, h.size, h.block⟩
theorem ownsRow_drew0 {W : World} {k base e size : Nat} {v : Value} {n : Nat} {xs : List Value} (ds : List Nat) (h : (Shut ds W).ownsRow base e size v n xs) : (Shut ds (W.drewN k)).ownsRow base e size v n xs := by
 rw [shut_drawn]
 exact h
def HourPost (wd hg e0 e1 n0 n1 : Int) (at_ se : List Int) (w : World) (e : Ending) (W' : World) : Prop := ∃ v0_ : Value, e = .returned (.tuple #[v0_, .bool (Srch.hourLf wd hg e0 e1 n0 n1 at_)]) ∧ Kd.R (Kd.int .i64) 3 W' w.heap.size (fun _ => True) v0_ (Srch.list (Srch.unmark (Srch.hourMk wd hg e0 e1 n0 n1 (List.replicate (wd * hg).toNat false) at_) se) (wd * hg).toNat) ∧ Below w.heap.size w W'
def hourAct (wd hg e0 e1 n0 n1 : Int) (A : Option Addr) (ln ca : Nat) (sv : Value) (g m i : Nat) (ds : List Nat) (u11 u29 u30 u31 u32 u33 u34 u35 u42 : Value) : Act := { tmps := #[.agg #[.int .i64 wd, .int .i64 hg], .slice A ln ca, .agg #[.int .i64 e0, .int .i64 e1, .int .i64 n0, .int .i64 n1, sv], .pointer (some ⟨g, 0, none⟩), undef, .pointer (some ⟨g + 1, 0, none⟩), .slice none 0 0, .bool false, .pointer (some ⟨g + 3, 0, none⟩), .pointer (some ⟨g + 4, 0, none⟩), undef, u11, undef, undef, undef, undef, undef, undef, .pointer (some ⟨g, 0, none⟩), .pointer (some ⟨g, 0, none⟩), .int .i64 wd, .pointer (some ⟨g, 0, none⟩), .pointer (some ⟨g, 1, none⟩), .int .i64 hg, .int .i64 (m : Int), .slice (some ⟨g + 2, 0, none⟩) m m, .slice A ln ca, .int .i64 (ln : Int), .int .i64 (i : Int), u29, u30, u31, u32, u33, u34, u35, undef, undef, undef, undef, undef, undef, u42, undef, undef, undef, undef, undef, undef, undef, undef, undef, undef, undef, undef, undef, undef, undef, undef, undef, undef, undef, undef, undef, undef, undef, undef, undef, undef], defers := ds.map markOf }
set_option maxRecDepth 100000 in
set_option maxHeartbeats 4000000 in
theorem mooring_hour_in (fn0 : FuncId → Prop) (dep : Option Nat) (al : Bool) (n : Nat) (h1 : fn0 85) (h2 : fn0 95) (h3 : fn0 102) (hn : 3 ≤ n) (wd hg e0 e1 n0 n1 : Int) (A : Option Addr) (ca : Nat) (at_ : List Int) (B : Option Addr) (cb : Nat) (se : List Int)
  (hw0 : 1 ≤ wd) (hw1 : wd ≤ 24) (hh0 : 1 ≤ hg) (hh1 : hg ≤ 24) (he0 : -4 ≤ e0) (he1 : e0 ≤ e1) (he2 : e1 ≤ 4) (hn0 : -4 ≤ n0) (hn1_ : n0 ≤ n1) (hn2 : n1 ≤ 4) (hA48 : Aside0 (at_.length ≤ 1000000)) (hat : ∀ x ∈ at_, 0 ≤ x ∧ x < wd * hg) (hse : ∀ x ∈ se, 0 ≤ x ∧ x < wd * hg) (hS48 : Aside0 (se.length ≤ 1000000)) (w : World) (hrA : Kd.C (Kd.int .i64) w A at_.length at_) (hrB : Kd.C (Kd.int .i64) w B se.length se) :
  CallsIn (Fence.mk fn0 dep al none) n Try.prog 85 #[.agg #[.int .i64 wd, .int .i64 hg], .slice A at_.length ca, .agg #[.int .i64 e0, .int .i64 e1, .int .i64 n0, .int .i64 n1, .slice B se.length cb]] w (HourPost wd hg e0 e1 n0 n1 at_ se w) := by
 obtain ⟨m, hm⟩ : ∃ m : Nat, wd * hg = (m : Int) := ⟨(wd * hg).toNat, by have := Int.mul_nonneg (show 0 ≤ wd by omega) (show 0 ≤ hg by omega); omega⟩
 have hm1 : m ≤ 576 := by
  have := Int.mul_le_mul hw1 hh1 (show (0 : Int) ≤ hg by omega) (by decide)
  omega
 have dm : IntKind.i64.wrap (wd * hg) = (m : Int) := by rw [i64_w, hm, wrap_id (by omega) (by omega)]
 refine callsIn_of_wp_marks Try.func85 rfl h1 ?_ rfl
 simp only [Try.ntmps85, List.size_toArray, List.length_cons, List.length_nil, Nat.reduceAdd, Nat.reduceSub, Array.replicate_succ, Array.replicate_zero, List.push_toArray, List.append_toArray, List.nil_append, List.cons_append]
 have hmk := fun W => hour_make W m hm1
 gi_wp2
 refine wpIn_loop_ghost (fun k a W => ∃ (i : Nat) (ds : List Nat) (u11 u29 u30 u31 u32 u33 u34 u35 u42 : Value), k + i = at_.length ∧ a = hourAct wd hg e0 e1 n0 n1 A at_.length ca (.slice B se.length cb) w.heap.size m i ds u11 u29 u30 u31 u32 u33 u34 u35 u42 ∧
  HourIn w wd hg e0 e1 n0 n1 (.slice B se.length cb) m (Srch.hourMk wd hg e0 e1 n0 n1 (List.replicate m false) (at_.take i)) (Srch.hourLf wd hg e0 e1 n0 n1 (at_.take i)) ds W) at_.length ?start ?round
 case start =>
  refine ⟨0, [], _, _, _, _, _, _, _, _, _, rfl, rfl, ?_, ?_, ?_, ?_, ?_, (by simp [Srch.hourMk]), List.nodup_nil, fun _ h => (by cases h), ?_⟩
  ·exact (five_boxes w _ _ _ _ _ _ _ _ _ _ _ rfl).1
  ·exact (five_boxes w _ _ _ _ _ _ _ _ _ _ _ rfl).2.1
  ·have e : (((List.replicate m false).map Value.bool).toArray) = Array.replicate m (Value.bool false) := by simp
   have h := (five_boxes w #[.int .i64 wd, .int .i64 hg] #[.int .i64 e0, .int .i64 e1, .int .i64 n0, .int .i64 n1, .slice B se.length cb] (Array.replicate m (Value.bool false)) #[.slice (some ⟨w.heap.size + 1 + 1, 0, none⟩) m m] #[.bool false] 120 79 4 114 4 _ rfl).2.2.1
   rw [← e] at h
   simpa [Srch.hourMk] using h
  ·exact (five_boxes w _ _ _ _ _ _ _ _ _ _ _ rfl).2.2.2.1
  ·exact (five_boxes w _ _ _ _ _ _ _ _ _ _ _ rfl).2.2.2.2
  exact zba (zba (zba (zba (zba (Below.refl _ _) _) _) _) _) _
 case round =>
  rintro k a W ⟨i, ds, u11, u29, u30, u31, u32, u33, u34, u35, u42, hk, rfl, hin⟩
  obtain ⟨mk, hmk⟩ : ∃ mk, Srch.hourMk wd hg e0 e1 n0 n1 (List.replicate m false) (at_.take i) = mk := ⟨_, rfl⟩
  obtain ⟨lf, hlf⟩ : ∃ lf, Srch.hourLf wd hg e0 e1 n0 n1 (at_.take i) = lf := ⟨_, rfl⟩
  rw [hmk, hlf] at hin
  obtain ⟨ka, kh, km, k3, k4, hml, hnd, hds, hB⟩ := hin
  unfold hourAct
  by_cases hlt : i < at_.length
  ·obtain ⟨c, hc⟩ : ∃ c, rd at_ (i : Int) = c := ⟨_, rfl⟩
   have hcr : 0 ≤ c ∧ c < wd * hg := by
    rw [← hc, rd_nat hlt]
    exact hat _ (List.getElem_mem hlt)
   obtain ⟨ad, ead, hx⟩ := Kd.at_int (Kd.C_below hrA hB) (i : Int) (Int.natCast_nonneg _) (by omega)
   cases ead
   rw [hc] at hx
   simp only [Int.toNat_natCast] at hx
   have hz0 := (zkc ka 0).trans rfl
   have hz1 := (zkc ka 1).trans rfl
   have hy0 := (zkc kh 0).trans rfl
   have hy1 := (zkc kh 1).trans rfl
   have hy2 := (zkc kh 2).trans rfl
   have hy3 := (zkc kh 3).trans rfl
   have hy4 := (zkc kh 4).trans rfl
   have hn1 : 1 ≤ n := by omega
   gi_wp2
   refine ⟨h2, (mooring_reach_in fn0 dep al (n - 1) h2 wd hg c e0 e1 n0 n1 (.slice B se.length cb) _).mono ?_⟩
   rintro e w' ⟨rfl, rfl⟩
   gi_wp2
   have c576 : wd * hg ≤ 576 := by rw [hm]; omega
   have sz : w.heap.size + 4 < W.heap.size := blk_lt k4
   refine wpIn_rangeFunc_ownG rfl hn1 (gf := 102) (lb := #[.pointer (some ⟨W.heap.size + 1 + 1, 0, none⟩), .pointer (some ⟨W.heap.size + 1, 0, none⟩), .pointer (some ⟨W.heap.size, 0, none⟩)]) rfl h3 (enters_of Try.func102 (by kernel_rfl) rfl)
    (mooring_reach_stops fn0 dep al (n - 1) h3 (by omega) (W.heap.size + 1 + 1) (W.heap.size + 1) W.heap.size wd hg c e0 e1 n0 n1 (.slice B se.length cb) hw0 hw1 hh0 hh1 hcr.1 (by omega) he0 he1 he2 hn0 hn1_ hn2 _ (three_boxes W _ _ _ _ _ _).1 (three_boxes W _ _ _ _ _ _).2.1 (three_boxes W _ _ _ _ _ _).2.2)
    (fun h k => Srch.Keep.trans h k) (fun V l o o' hl _ _ _ => Srch.Keep.putObj V o' (by simp at hl; omega) (by simp at hl; omega) (by simp at hl; omega)) (Below.refl _ _) (fun _ => rfl)
    (fun (pre : List (Srch.Cell (wd * hg))) V => HourIn w wd hg e0 e1 n0 n1 (.slice B se.length cb) m (Srch.marks mk (pre.map Subtype.val)) (lf || Srch.out (pre.map Subtype.val)) ds V)
    (fun _ _ _ => False)
    (fun pre V V' row hs hg hr => ⟨own_at (by simp; omega) hs.ka hg hr, own_at (by simp; omega) hs.kh hg hr, own_at (by simp; omega) hs.km hg hr, own_at (by simp; omega) hs.k3 hg hr, own_at (by simp; omega) hs.k4 hg hr, hs.len, hs.nd, fun D hD => ⟨(hs.ds D hD).1, own_at (by have := blk_lt (hds D hD).2; simp; omega) (hs.ds D hD).2 hg hr⟩, ownFrom_below (Nat.le_refl _) (by simp; omega) () V V' row hs.below hg hr⟩)
    (fun _ _ _ _ _ hs _ _ => hs)
    ?h0 (fun x => { tmps := #[.agg #[.int .i64 wd, .int .i64 hg], .slice (some ad) at_.length ca, .agg #[.int .i64 e0, .int .i64 e1, .int .i64 n0, .int .i64 n1, .slice B se.length cb], .pointer (some ⟨w.heap.size, 0, none⟩), undef, .pointer (some ⟨w.heap.size + 1, 0, none⟩), .slice none 0 0, .bool false, .pointer (some ⟨w.heap.size + 3, 0, none⟩), .pointer (some ⟨w.heap.size + 4, 0, none⟩), undef, .int .i64 c, .int .i64 x.1, undef, undef, undef, undef, undef, .pointer (some ⟨w.heap.size, 0, none⟩), .pointer (some ⟨w.heap.size, 0, none⟩), .int .i64 wd, .pointer (some ⟨w.heap.size, 0, none⟩), .pointer (some ⟨w.heap.size, 1, none⟩), .int .i64 hg, .int .i64 (m : Int), .slice (some ⟨w.heap.size + 2, 0, none⟩) m m, .slice (some ad) at_.length ca, .int .i64 (at_.length : Int), .int .i64 (i : Int), .bool true, .pointer (some (ad.add i)), .int .i64 c, .agg #[.int .i64 wd, .int .i64 hg], .int .i64 c, .agg #[.int .i64 e0, .int .i64 e1, .int .i64 n0, .int .i64 n1, .slice B se.length cb], .func (.func 102) #[] #[.pointer (some ⟨W.heap.size + 1 + 1, 0, none⟩), .pointer (some ⟨W.heap.size + 1, 0, none⟩), .pointer (some ⟨W.heap.size, 0, none⟩)], .int .i64 x.1, undef, undef, undef, undef, undef, u42, undef, undef, undef, undef, undef, undef, undef, undef, undef, undef, undef, undef, undef, undef, undef, undef, undef, undef, undef, undef, undef, undef, undef, undef, undef, undef], defers := [] }) ?assign ?body ?done ?stop
   case h0 =>
    have hh : HourIn w wd hg e0 e1 n0 n1 (.slice B se.length cb) m mk lf ds (((W.alloc (.cells #[.int .i64 wd, .int .i64 hg] 120)).alloc (.cells #[.int .i64 c] 3)).alloc (.cells #[.int .i64 e0, .int .i64 e1, .int .i64 n0, .int .i64 n1, .slice B se.length cb] 79)) :=
     ⟨zka (zka (zka ka _) _) _, zka (zka (zka kh _) _) _, zka (zka (zka km _) _) _, zka (zka (zka k3 _) _) _, zka (zka (zka k4 _) _) _, hml, hnd, fun D hD => ⟨(hds D hD).1, zka (zka (zka (hds D hD).2 _) _) _⟩, zba (zba (zba hB _) _) _⟩
    simpa [Srch.marks, Srch.out] using hh
   case assign =>
    intro l x V K hK
    gi_wp2
    exact hK
   case body =>
    rintro l pre x V hs hlt2
    have hz9 := (zkc hs.k4 0).trans rfl
    have hf9 := zkz hs.k4 0
    have hz8 := (zkc hs.k3 0).trans rfl
    have hnn : 1 ≤ n - 1 - 1 := by omega
    by_cases hx : x.1 < 0
    ·have dx : decide (x.1 < 0) = true := zdt hx
     gi_wp2
     refine ⟨(KeepsOthers.setCell _ _ _).from _, Srch.Keep.setCell _ _ _ (by show W.heap.size + 1 + 1 ≠ w.heap.size + 4; omega) (by show W.heap.size + 1 ≠ w.heap.size + 4; omega) (by show W.heap.size ≠ w.heap.size + 4; omega), ?_⟩
     have h := hs.set_left true
     have h2 : HourIn w wd hg e0 e1 n0 n1 (.slice B se.length cb) m (Srch.marks mk ((pre ++ [x]).map Subtype.val)) (lf || Srch.out ((pre ++ [x]).map Subtype.val)) ds (V.setCell ⟨w.heap.size + 4, 0, none⟩ (.bool true)) := by
      rw [List.map_append, List.map_cons, List.map_nil, Srch.marks_snoc, Srch.out_snoc]
      unfold Srch.mark
      rw [if_pos hx, zdt hx, Bool.or_true, Bool.or_true]
      exact h
     exact h2
    have dx : decide (x.1 < 0) = false := zdf hx
    have hxm : x.1 < (m : Int) := by have := x.2; omega
    have hjm : x.1.toNat < (Srch.marks mk (pre.map Subtype.val)).length := by rw [hs.len]; omega
    have hzx : V.cell? ⟨w.heap.size + 2, x.1.toNat, none⟩ = some (.bool ((Srch.marks mk (pre.map Subtype.val))[x.1.toNat])) := (zkc hs.km x.1.toNat).trans (by simp [hjm])
    have hfx := zkz hs.km x.1.toNat
    have hx0 : 0 ≤ x.1 := by omega
    have px : (0 ≤ x.1) = True := eq_true hx0
    have qx : (x.1 < (m : Int)) = True := eq_true hxm
    gi_wp2
    refine ⟨(KeepsOthers.setCell _ _ _).from _, Srch.Keep.setCell _ _ _ (by show W.heap.size + 1 + 1 ≠ w.heap.size + 2; omega) (by show W.heap.size + 1 ≠ w.heap.size + 2; omega) (by show W.heap.size ≠ w.heap.size + 2; omega), ?_⟩
    have h := hs.set_mark x.1.toNat true
    have h2 : HourIn w wd hg e0 e1 n0 n1 (.slice B se.length cb) m (Srch.marks mk ((pre ++ [x]).map Subtype.val)) (lf || Srch.out ((pre ++ [x]).map Subtype.val)) ds (V.setCell ⟨w.heap.size + 2, x.1.toNat, none⟩ (.bool true)) := by
     rw [List.map_append, List.map_cons, List.map_nil, Srch.marks_snoc, Srch.out_snoc]
     unfold Srch.mark
     rw [if_neg (show ¬ x.1 < 0 by omega), zdf (show ¬ x.1 < 0 by omega), Bool.or_false]
     exact h
    exact h2
   case done =>
    rintro D ys V hD hys hs hK
    have wi : IntKind.i64.wrap ((i : Int) + 1) = ((i + 1 : Nat) : Int) := by
     have h60 := hA48.out
     rw [i64_w, wrap_id (by omega) (by omega)]
     omega
    gi_wp2
    have hDW : W.heap.size ≤ D := by
     have := hD
     simp at this
     omega
    refine ⟨at_.length - (i + 1), by omega, i + 1, D :: ds, .int .i64 c, _, _, _, _, _, _, _, _, by omega, rfl, ?_⟩
    have eM : Srch.marks mk (ys.map Subtype.val) = Srch.hourMk wd hg e0 e1 n0 n1 (List.replicate m false) (at_.take (i + 1)) := by
     rw [take_snoc hlt, Srch.hourMk_snoc, hmk]
     have hc' : at_[i] = c := by rw [← hc, rd_nat hlt]
     rw [hc', ← hys]
    have eL : (lf || Srch.out (ys.map Subtype.val)) = Srch.hourLf wd hg e0 e1 n0 n1 (at_.take (i + 1)) := by
     rw [take_snoc hlt, Srch.hourLf_snoc, hlf]
     have hc' : at_[i] = c := by rw [← hc, rd_nat hlt]
     rw [hc', ← hys]
    have hs2 : HourIn w wd hg e0 e1 n0 n1 (.slice B se.length cb) m (Srch.marks mk (ys.map Subtype.val)) (lf || Srch.out (ys.map Subtype.val)) ds V := hs
    rw [eM, eL] at hs2
    exact ⟨hs2.ka, hs2.kh, hs2.km, hs2.k3, hs2.k4, hs2.len, List.nodup_cons.2 ⟨fun h => by have := blk_lt (hds D h).2; omega, hs2.nd⟩, fun E hE => (List.mem_cons.1 hE).elim (fun e => e ▸ ⟨by omega, hK⟩) (fun h => hs2.ds E h), hs2.below⟩
   case stop =>
    rintro D c pre V _ _ h _
    exact h.elim
  have hil : ¬ ((i : Int) < (at_.length : Int)) := by omega
  have dil : decide ((i : Int) < (at_.length : Int)) = false := zdf hil
  have hin : HourIn w wd hg e0 e1 n0 n1 (.slice B se.length cb) m mk lf ds W := ⟨ka, kh, km, k3, k4, hml, hnd, hds, hB⟩
  have hy4 := (zkc kh 4).trans rfl
  have MK : Aside0 (mk = Srch.hourMk wd hg e0 e1 n0 n1 (List.replicate m false) at_) := ⟨by rw [← hmk, List.take_of_length_le (by omega)]⟩
  have LF : Aside0 (lf = Srch.hourLf wd hg e0 e1 n0 n1 at_) := ⟨by rw [← hlf, List.take_of_length_le (by omega)]⟩
  clear hmk hlf ka kh km k3 k4 hml hnd hds hB
  gi_wp2
  clear hy4
  gi_loopw [46] (fun v wr => ∃ j : Nat, j ≤ se.length ∧ v = .int .i64 (j : Int) ∧ HourIn w wd hg e0 e1 n0 n1 (.slice B se.length cb) m (Srch.unmark mk (se.take j)) lf ds wr) (fun v _ => se.length - (intOf v).toNat)
  case atStart => exact ⟨0, Nat.zero_le _, rfl, hin⟩
  case round =>
   obtain ⟨j, hj, rfl, hs⟩ := hrel
   by_cases hlt2 : j < se.length
   ·obtain ⟨x, hxv⟩ : ∃ x, rd se (j : Int) = x := ⟨_, rfl⟩
    have hxr : 0 ≤ x ∧ x < wd * hg := by
     rw [← hxv, rd_nat hlt2]
     exact hse _ (List.getElem_mem hlt2)
    have hxe : se[j] = x := by rw [← hxv, rd_nat hlt2]
    obtain ⟨ad, ead, hx⟩ := Kd.at_int (Kd.C_below hrB hs.below) (j : Int) (Int.natCast_nonneg _) (by omega)
    cases ead
    rw [hxv] at hx
    simp only [Int.toNat_natCast] at hx
    have hx0 : 0 ≤ x := hxr.1
    have hxm : x < (m : Int) := by omega
    have hjm : x.toNat < (Srch.unmark mk (se.take j)).length := by rw [hs.len]; omega
    have hz8 := (zkc hs.k3 0).trans rfl
    have hzx : wr.cell? ⟨w.heap.size + 2, x.toNat, none⟩ = some (.bool ((Srch.unmark mk (se.take j))[x.toNat])) := (zkc hs.km x.toNat).trans (by simp [hjm])
    have hfx := zkz hs.km x.toNat
    have px : (0 ≤ x) = True := eq_true hx0
    have qx : (x < (m : Int)) = True := eq_true hxm
    have dj : decide ((j : Int) < (se.length : Int)) = true := zdt (by omega)
    have wi : IntKind.i64.wrap ((j : Int) + 1) = ((j + 1 : Nat) : Int) := by
     have h60 := hS48.out
     rw [i64_w, wrap_id (by omega) (by omega)]
     omega
    gi_wp2
    go_roundw
    case rel => exact ⟨j + 1, by omega, rfl, by rw [take_snoc hlt2, Srch.unmark_snoc, hxe]; exact hs.set_mark x.toNat false⟩
    case measure => (simp only [intOf]; omega)
   have dj : decide ((j : Int) < (se.length : Int)) = false := zdf (by omega)
   have hz8 := (zkc hs.k3 0).trans rfl
   gi_wp2
   have hjl : j = se.length := by omega
   rw [hjl, List.take_length] at hs
   obtain ⟨mf, hmf⟩ : ∃ mf, Srch.unmark mk se = mf := ⟨_, rfl⟩
   rw [hmf] at hs
   clear hz8 dj hjl hj hlt2
   gi_loopw [15, 56] (fun v v2 wr2 => ∃ j : Nat, j ≤ m ∧ v2 = .int .i64 (j : Int) ∧ wr2.ownsRow (w.heap.size + 5) 3 1 v (Srch.list mf j).length ((Srch.list mf j).map (Value.int .i64)) ∧ HourIn w wd hg e0 e1 n0 n1 (.slice B se.length cb) m mf lf ds wr2) (fun _ v2 _ => m - (intOf v2).toNat)
   case atStart => exact ⟨0, Nat.zero_le _, rfl, World.ownsRow_nil _ _ _ _, hs⟩
   case round =>
    clear hs
    obtain ⟨j, hj, rfl, hrow, hs⟩ := hrel
    by_cases hlt2 : j < m
    ·have hjl : j < mf.length := by rw [hs.len]; exact hlt2
     have hll := Srch.list_le mf j
     have hsz := blk_lt hs.k4
     obtain ⟨i0, hi, hzz0, hzz1, hzz2⟩ := info_parts info3
     obtain ⟨b, hb⟩ : ∃ b, mf[j]?.getD false = b := ⟨_, rfl⟩
     have hzj : wr.cell? ⟨w.heap.size + 2, j, none⟩ = some (.bool b) := (zkc hs.km j).trans (by rw [← hb]; simp [hjl])
     have dj : decide ((j : Int) < (m : Int)) = true := zdt (by omega)
     have wi : IntKind.i64.wrap ((j : Int) + 1) = ((j + 1 : Nat) : Int) := by
      rw [i64_w, wrap_id (by omega) (by omega)]
      omega
     cases b with
     | true =>
      have hmax : 1000 ≤ maxLen := by decide
      gi_wp2_with (gi_at_builtin; refine wpListIn_append_own _ rfl _ _ 22 rfl (w.heap.size + 5) 3 i0 (.int .i64 0) 1 8 Try.underlying22 hi hzz0 hzz1 hzz2 rfl (by decide) _ _ _ rfl (hrow.alloc _) ⟨wr.heap.size, 0, none⟩ 1 1 [.int .i64 (j : Int)] rfl rfl (cell_one_new _ _ _) (by simp [Value.oneCell']) (by omega) (by omega) (by simp; omega) ?_; intro v' w1 hown' hgrow _; have h2 := (hs.alloc _).grown (hrow.alloc _) hgrow)
      go_roundw
      case rel => exact ⟨j + 1, by omega, rfl, by rw [Srch.list_hit hb]; simpa using hown', h2⟩
      case measure => (simp only [intOf]; omega)
     | false =>
      gi_wp2
      go_roundw
      case rel => exact ⟨j + 1, by omega, rfl, by rw [Srch.list_miss hb]; exact hrow, hs⟩
      case measure => (simp only [intOf]; omega)
    have hjm : j = m := by omega
    have dj : decide ((j : Int) < (m : Int)) = false := zdf (by omega)
    have hz9 := (zkc hs.k4 0).trans rfl
    gi_wp2
    gi_quiet (fail)
    gi_wp2
    have LE := LF.out
    clear LF
    subst LE
    have hmn : (wd * hg).toNat = m := by omega
    have hmk2 : Srch.unmark (Srch.hourMk wd hg e0 e1 n0 n1 (List.replicate (wd * hg).toNat false) at_) se = mf := by rw [hmn, ← MK.out, hmf]
    have hrow2 := shut_row (W := wr) ds hrow hs.nd (fun D hD => (hs.ds D hD).2)
    rw [hjm] at hrow2
    refine leaves_marks ds _ hs.nd (fun D hD => (hs.ds D hD).2) ⟨_, results_tmp2 rfl _ _ _, _, rfl, ?_, below_drew0 ds (shut_below ds wr hs.below fun D hD => (hs.ds D hD).1)⟩
    rw [hmk2, hmn]
    exact Kd.R_of_own (ownsRow_drew0 ds (ownsRow_base hrow2 (Nat.le_add_right _ 5))) (fun _ _ => trivial)
def Srch.fits (wd hg e0 e1 n0 n1 : Int) (at_ se : List Int) : Bool := decide (1 ≤ wd) && decide (wd ≤ 24) && decide (1 ≤ hg) && decide (hg ≤ 24) && decide (-4 ≤ e0) && decide (e0 ≤ e1) && decide (e1 ≤ 4) && decide (-4 ≤ n0) && decide (n0 ≤ n1) && decide (n1 ≤ 4) && decide (at_.length ≤ 1000000) && decide (se.length ≤ 1000000) && at_.all (fun x => decide (0 ≤ x) && decide (x < wd * hg)) && se.all (fun x => decide (0 ≤ x) && decide (x < wd * hg))
def mooring_area_hour.f (wd hg : Int) (at_ : List Int) (e0 e1 n0 n1 : Int) (se : List Int) : Option (List Int × Bool) := if Srch.fits wd hg e0 e1 n0 n1 at_ se = true then some (Srch.list (Srch.unmark (Srch.hourMk wd hg e0 e1 n0 n1 (List.replicate (wd * hg).toNat false) at_) se) (wd * hg).toNat, Srch.hourLf wd hg e0 e1 n0 n1 at_) else none
theorem mooring_area_hour.calls (wd hg : Int) (A : Option Addr) (ca : Nat) (at_ : List Int) (e0 e1 n0 n1 : Int) (B : Option Addr) (cb : Nat) (se : List Int) (r1 : List Int) (r2 : Bool) (w : World) (hrA : Kd.C (Kd.int .i64) w A at_.length at_) (hcA : at_.length ≤ ca) (hrB : Kd.C (Kd.int .i64) w B se.length se) (hcB : se.length ≤ cb) (h : mooring_area_hour.f wd hg at_ e0 e1 n0 n1 se = some (r1, r2)) :
  Calls Try.prog 85 #[.agg #[.int .i64 wd, .int .i64 hg], .slice A at_.length ca, .agg #[.int .i64 e0, .int .i64 e1, .int .i64 n0, .int .i64 n1, .slice B se.length cb]] w fun e w' => ∃ v0_ : Value, e = .returned (.tuple #[v0_, .bool r2]) ∧ Kd.R (Kd.int .i64) 3 w' w.heap.size (fun _ => True) v0_ r1 ∧ Below w.heap.size w w' := by
 unfold mooring_area_hour.f at h
 by_cases q : Srch.fits wd hg e0 e1 n0 n1 at_ se = true
 ·rw [if_pos q] at h
  unfold Srch.fits at q
  simp only [Bool.and_eq_true, decide_eq_true_eq, List.all_eq_true] at q
  obtain ⟨⟨⟨⟨⟨⟨⟨⟨⟨⟨⟨⟨⟨q1, q2⟩, q3⟩, q4⟩, q5⟩, q6⟩, q7⟩, q8⟩, q9⟩, q10⟩, q11⟩, q12⟩, q13⟩, q14⟩ := q
  obtain ⟨rfl, rfl⟩ := Prod.mk.inj (zsi h)
  exact callsIn_wide.1 (mooring_hour_in (fun _ => True) none false 3 trivial trivial trivial (Nat.le_refl _) wd hg e0 e1 n0 n1 A ca at_ B cb se q1 q2 q3 q4 q5 q6 q7 q8 q9 q10 ⟨q11⟩ q13 q14 ⟨q12⟩ w hrA hrB)
 rw [if_neg q] at h
 cases h
end Go.Proofs.Ytebcmhajbjkojaa.P
namespace Go.Proofs.Ytebcmhajbjkojaa.P
open Go.RowKit Go.Proofs.YtebcmhajbjkojaaW.PrintWords Go.Proofs.YtebcmhajbjkojaaW.PrintLast Go.Proofs.YtebcmhajbjkojaaW.PrintMore
attribute [local go_sem] max2_int min2_int max_two min_two max_three min_three max_four min_four   -- for this text's walks alone
set_option linter.unusedVariables false
set_option linter.unusedSimpArgs false
def slices_Clone_int_int.f (xs : List Int) : Option (List Int) := if xs.length < 17592186044416 then some xs else none
set_option maxHeartbeats 4000000 in
theorem clone_nil (c : Nat) (w : World) : (binOp .eql 22 (.slice none 0 c) (.slice none 0 0)).run Try.prog w = .ok (.bool true) w := by kernel_rfl
theorem clone_some (ad : Addr) (n c : Nat) (w : World) : (binOp .eql 22 (.slice (some ad) n c) (.slice none 0 0)).run Try.prog w = .ok (.bool false) w := by kernel_rfl
attribute [local go_sem] clone_nil clone_some
set_option maxRecDepth 100000 in
theorem slices_Clone_int_int.calls (A : Option Addr) (c : Nat) (xs r : List Int) (w : World) (hr0 : Kd.C (Kd.int .i64) w A xs.length xs) (hc0 : xs.length ≤ c) (h : slices_Clone_int_int.f xs = some r) :
  Calls Try.prog 84 #[.slice A xs.length c] w fun e w' => ∃ v0_ : Value, e = .returned v0_ ∧ Kd.R (Kd.int .i64) 3 w' w.heap.size (fun _ => True) v0_ r ∧ Below w.heap.size w w' := by
 unfold slices_Clone_int_int.f at h
 by_cases hl : xs.length < 17592186044416
 ·rw [if_pos hl] at h
  obtain rfl := zsi h
  have HR := zam hr0
  have LM := zam hl
  clear hr0 hl h
  cases A with
  | none =>
   have hx : xs = [] := by
    cases xs with
    | nil => rfl
    | cons x xs =>
     obtain ⟨ad, e, _⟩ := Kd.at_int HR.out 0 (by decide) (by simp only [List.length_cons]; omega)
     cases e
   subst hx
   go_enter Try.func84, Try.ntmps84
   go_wp2
   go_ret
   exact ⟨_, rfl, Kd.R_nil _ _ _ _ _, Below.refl _ _⟩
  | some ad =>
   go_enter Try.func84, Try.ntmps84
   go_wp2_with (first | ((with_reducible refine zgd (N := 5) rfl ?_); refine Kd.R_lit (Kd.int .i64) _ 3 ?hg (N := 5) ?hd (xs := ([] : List Int)) (inner := []) (ok := fun _ => True) (okp := fun _ => True) ?hr ?hp (fun _ hk => hk) trivial (Below.refl _ _) (Nat.le_refl _) (by simp) ?_; (case hd => rfl); (case hg => rfl); (case hr => first | (go_simp; done) | (go_simp; rfl)); (case hp => exact (Reps.none _ _)); intro v1 w1 ho hb hg_ hnew_; clear hg_ hnew_; have HO := zam ho; have HB := zam hb; have n1 := zam (Kd.C_below HR.out HB.out); clear HR ho hb; have HR := n1; clear n1) | ((with_reducible refine gate_builtin (b := .append) (xs := #[.tmp 5, .tmp 6]) rfl ?_); at_builtin; refine Kd.R_append_rows (Kd.int .i64) (w0 := w) w.heap.size rfl (.tmp 5) (.tmp 6) 22 3 (.int .i64 0) 8 rfl Try.underlying22 info3 rfl (by decide) (by omega) v1 [] xs _ _ _ (fun _ => True) (fun _ => False) rfl rfl HO.out HR.out (fun _ _ h => h) (fun _ h => h.elim) (fun _ _ => trivial) HB.out (zbz HB.out) (by have := LM.out; simp only [List.length_nil]; omega) ?_; intro v2 w2 ho hb hg hat; rw [List.nil_append] at ho; have n2 := zam ho; have n3 := zam hb; clear HO HB ho hb hg hat; have HO := n2; have HB := n3; clear n2 n3))
   go_ret
   exact ⟨_, rfl, HO.out, HB.out⟩
 rw [if_neg hl] at h
 cases h
end Go.Proofs.Ytebcmhajbjkojaa.P
namespace Go.Proofs.Ytebcmhajbjkojaa.P
open Go.RowKit Go.Proofs.YtebcmhajbjkojaaW.PrintWords Go.Proofs.YtebcmhajbjkojaaW.PrintLast Go.Proofs.YtebcmhajbjkojaaW.PrintMore
attribute [local go_sem] max2_int min2_int max_two min_two max_three min_three max_four min_four   -- for this text's walks alone
set_option linter.unusedVariables false
set_option linter.unusedSimpArgs false
def mooring_Where.l0 : Nat → List Int → Bool → List (S79) → Int → Int → Int → Int → Option (List Int × Bool × Int)
 | 0, _, _, _, _, _, _, _ => none
 | k + 1, x11, x12, x28, x29, x30, x103000, x103001 => if x30 < x29 then (if 0 ≤ x30 then (if x30 < (x28.length : Int) then ((mooring_area_hour.f x103000 x103001 x11 ((rd_T79 x28 x30).f0.f0) ((rd_T79 x28 x30).f0.f1) ((rd_T79 x28 x30).f1.f0) ((rd_T79 x28 x30).f1.f1) ((rd_T79 x28 x30).f2)).bind fun bt109 => (if x12 = true then (mooring_Where.l0 k bt109.1 true x28 x29 (wrap64 (x30 + 1)) x103000 x103001) else (mooring_Where.l0 k bt109.1 bt109.2 x28 x29 (wrap64 (x30 + 1)) x103000 x103001))) else (none)) else (none)) else (some (x11, x12, 0))
def mooring_Where.f (k : Nat) (a0_0 : Int) (a0_1 : Int) (l1 : List Int) (l2 : List (S79)) : Option (List Int × Bool × Int) := (mooring_area_check.f k a0_0 a0_1 l1 l2).bind fun t103 => (if t103 = 0 then ((slices_Clone_int_int.f l1).bind fun t104 => (mooring_Where.l0 k t104 false l2 (l2.length : Int) 0 a0_0 a0_1)) else (some (([] : List Int), false, t103)))
set_option maxHeartbeats 8000000 in
set_option maxRecDepth 100000 in
theorem mooring_Where.calls (k : Nat) (a0_0 : Int) (a0_1 : Int) (A1 : Option Addr) (c1 : Nat) (l1 : List Int) (A2 : Option Addr) (c2 : Nat) (l2 : List (S79)) (r1 : List Int) (r2 : Bool) (r3 : Int) (w : World) (hr1 : Kd.C (Kd.int .i64) w A1 l1.length l1) (hc1 : l1.length ≤ c1) (hr2 : Kd.C k79 w A2 l2.length l2) (hc2 : l2.length ≤ c2) (h : mooring_Where.f k a0_0 a0_1 l1 l2 = some (r1, r2, r3)) :
  Calls Try.prog 48 #[.agg #[.int .i64 a0_0, .int .i64 a0_1], .slice A1 l1.length c1, .slice A2 l2.length c2] w fun e w' => ∃ v0_ : Value, e = .returned (.tuple #[v0_, .bool r2, .int .i64 r3]) ∧ Kd.R (Kd.int .i64) 3 w' w.heap.size (fun _ => True) v0_ r1 ∧ Below w.heap.size w w' := by
 have hu72 := Try.underlying72
 have hu120 := Try.underlying120
 have hu79 := Try.underlying79
 have HR1 := zam hr1
 have HC1 := zam hc1
 clear hr1 hc1
 have HR2 := zam hr2
 have HC2 := zam hc2
 clear hr2 hc2
 have HB := zam (Below.refl w.heap.size w)
 have H : ((mooring_area_check.f k a0_0 a0_1 l1 l2).bind fun t103 => (if t103 = 0 then ((slices_Clone_int_int.f l1).bind fun t104 => (mooring_Where.l0 k t104 false l2 (l2.length : Int) 0 a0_0 a0_1)) else (some (([] : List Int), false, t103)))) = some (r1, r2, r3) := h
 clear h
 replace H := Option.bind_eq_some_iff.mp H
 obtain ⟨t103, A40, H⟩ := H
 replace H : (if t103 = 0 then ((slices_Clone_int_int.f l1).bind fun t104 => (mooring_Where.l0 k t104 false l2 (l2.length : Int) 0 a0_0 a0_1)) else (some (([] : List Int), false, t103))) = some (r1, r2, r3) := H
 have A4 := zam A40
 clear A40
 by_cases c5 : t103 = 0
 ·rw [if_pos c5] at H
  have c5b0 : (t103 == 0) = true := beq_iff_eq.mpr c5
  have c5b1 : (t103 != 0) = false := bne_eq_false_iff_eq.mpr c5
  clear c5
  replace H := Option.bind_eq_some_iff.mp H
  obtain ⟨t104, A60, H⟩ := H
  replace H : (mooring_Where.l0 k t104 false l2 (l2.length : Int) 0 a0_0 a0_1) = some (r1, r2, r3) := H
  have A6 := zam A60
  clear A60
  have H' := zam H
  clear H
  go_enter Try.func48, Try.ntmps48
  go_wp2_with (first | ((with_reducible refine zgd (N := 3) rfl ?_); refine box_event ?hg (N := 3) ?hd (cs := #[.int .i64 a0_0, .int .i64 a0_1]) (t := 72) ?hr ?_; (case hd => rfl); (case hg => rfl); (case hr => first | (go_simp; done) | (go_simp; rfl)); intro gb101 hg w7 hbox hb; have n0_ := zam (zbt (by repeat (first | (with_reducible first | exact HB.out | apply zba | apply zbn | apply zb1) | exact HB.out)) hb); have n1_ := zam (hbox); have n2_ := zam ((by rw [hg]; exact (zbz (by repeat (first | (with_reducible first | exact HB.out | apply zba | apply zbn | apply zb1) | exact HB.out))) : w.heap.size ≤ gb101)); have n3_ := zam ((by rw [hg]; exact (zbz (by repeat (first | (with_reducible first | exact HB.out | apply zba | apply zbn | apply zb1) | exact HB.out))) : w.heap.size ≤ gb101)); clear HB; have HB := n0_; have BK101 := n1_; have GW101 := n2_; have GE101 := n3_; clear n0_ n1_ n2_ n3_; clear hb hbox hg; have hcz8_0 : w7.cell? ⟨gb101, 0, none⟩ = some (.int .i64 a0_0) := (zkc BK101.out 0).trans rfl; have hcz8_1 : w7.cell? ⟨gb101, 1, none⟩ = some (.int .i64 a0_1) := (zkc BK101.out 1).trans rfl; have hfz8_0 := zkz BK101.out 0; have hfz8_1 := zkz BK101.out 1) | ((with_reducible refine zgd (N := 9) rfl ?_); refine box_event ?hg (N := 9) ?hd (cs := #[.int .i64 0, .int .i64 0]) (t := 120) ?hr ?_; (case hd => rfl); (case hg => rfl); (case hr => first | (go_simp; done) | (go_simp; rfl)); intro gb102 hg w9 hbox hb; have n0_ := zam (zkb (g := gb101) (o := .cells #[.int .i64 a0_0, .int .i64 a0_1] 72 (0, 0)) (by (with_reducible repeat (first | refine zkn ?_ _ | refine zkd ?_ | refine zka ?_ _)); exact BK101.out) hb); have n1_ := zam (zbt (by repeat (first | (with_reducible first | exact HB.out | apply zba | apply zbn | apply zb1 | refine zbs ?_ GE101.out) | exact HB.out)) hb); have n2_ := zam (hbox); have n3_ := zam ((by rw [hg]; exact (zbz (by repeat (first | (with_reducible first | exact HB.out | apply zba | apply zbn | apply zb1 | refine zbs ?_ GE101.out) | exact HB.out))) : w.heap.size ≤ gb102)); have n4_ := zam ((by rw [hg]; exact (zbz (by repeat (first | (with_reducible first | exact HB.out | apply zba | apply zbn | apply zb1 | refine zbs ?_ GE101.out) | exact HB.out))) : w.heap.size ≤ gb102)); have n5_ := zam ((by rw [hg]; exact Nat.ne_of_lt (blk_lt (g := gb101) (o := .cells #[.int .i64 a0_0, .int .i64 a0_1] 72 (0, 0)) (by (with_reducible repeat (first | refine zkn ?_ _ | refine zkd ?_ | refine zka ?_ _)); exact BK101.out)) : gb101 ≠ gb102)); have n6_ := zam ((by rw [hg]; exact Nat.ne_of_gt (blk_lt (g := gb101) (o := .cells #[.int .i64 a0_0, .int .i64 a0_1] 72 (0, 0)) (by (with_reducible repeat (first | refine zkn ?_ _ | refine zkd ?_ | refine zka ?_ _)); exact BK101.out)) : gb102 ≠ gb101)); clear BK101; clear HB; have BK101 := n0_; have HB := n1_; have BK102 := n2_; have GW102 := n3_; have GE102 := n4_; have NB101_102 := n5_; have NB102_101 := n6_; clear n0_ n1_ n2_ n3_ n4_ n5_ n6_; clear hb hbox hg; have hnb10 := NB102_101.out; have hnc10 := NB101_102.out; have hcz11_0 : w9.cell? ⟨gb102, 0, none⟩ = some (.int .i64 0) := (zkc BK102.out 0).trans rfl; have hcz11_1 : w9.cell? ⟨gb102, 1, none⟩ = some (.int .i64 0) := (zkc BK102.out 1).trans rfl; have hfz11_0 := zkz BK102.out 0; have hfz11_1 := zkz BK102.out 1) | ((with_reducible refine zgc (f := 83) rfl ?_); refine goesL_ (some 22) rfl rfl Try.func83 (by kernel_rfl) rfl #[.agg #[.int .i64 a0_0, .int .i64 a0_1], .slice A1 l1.length c1, .slice A2 l2.length c2] rfl (by (try simp only [zmt, List.map_cons, List.map_nil]); first | done | rfl | (simp only [zld, zlt]; rfl)) ?_; (with_reducible refine (mooring_area_check.calls k a0_0 a0_1 _ _ l1 _ _ l2 t103 _ ?side1 ?side2 ?side3 ?side4 A4.out).mono ?_); (case side1 => exact Kd.C_below HR1.out (by repeat (first | (with_reducible first | exact HB.out | apply zba | apply zbn | apply zb1 | refine zbs ?_ GE101.out | refine zbs ?_ GE102.out) | exact HB.out))); (case side2 => exact HC1.out); (case side3 => exact Kd.C_below HR2.out (by repeat (first | (with_reducible first | exact HB.out | apply zba | apply zbn | apply zb1 | refine zbs ?_ GE101.out | refine zbs ?_ GE102.out) | exact HB.out))); (case side4 => exact HC2.out); rintro e w12 ⟨rfl, hb⟩; refine ⟨_, rfl, ?_⟩; have n0_ := zam (zkb (g := gb101) (o := .cells #[.int .i64 a0_0, .int .i64 a0_1] 72 (0, 0)) (by (with_reducible repeat (first | refine zkn ?_ _ | refine zkd ?_ | refine zka ?_ _)); refine zkf ?_ NB101_102.out _; (with_reducible repeat (first | refine zkn ?_ _ | refine zkd ?_ | refine zka ?_ _)); refine zkf ?_ NB101_102.out _; (with_reducible repeat (first | refine zkn ?_ _ | refine zkd ?_ | refine zka ?_ _)); exact BK101.out) hb); have n1_ := zam (zkb (g := gb102) (o := .cells #[.int .i64 a0_0, .int .i64 a0_1] 120 (0, 0)) (by (with_reducible repeat (first | refine zkn ?_ _ | refine zkd ?_ | refine zka ?_ _)); refine blk_put (cs := #[.int .i64 a0_0, .int .i64 0]) ?_ 1 _ rfl; (with_reducible repeat (first | refine zkn ?_ _ | refine zkd ?_ | refine zka ?_ _)); refine blk_put (cs := #[.int .i64 0, .int .i64 0]) ?_ 0 _ rfl; (with_reducible repeat (first | refine zkn ?_ _ | refine zkd ?_ | refine zka ?_ _)); exact BK102.out) hb); have n2_ := zam (zbt (by repeat (first | (with_reducible first | exact HB.out | apply zba | apply zbn | apply zb1 | refine zbs ?_ GE101.out | refine zbs ?_ GE102.out) | exact HB.out)) hb); clear BK101; clear BK102; clear HB; have BK101 := n0_; have BK102 := n1_; have HB := n2_; clear n0_ n1_ n2_; (try clear hb); (try clear hb2); (try clear hk); (try clear hi)) | ((with_reducible refine zgc (f := 84) rfl ?_); refine goesL_ (some 27) rfl rfl Try.func84 (by kernel_rfl) rfl #[.slice A1 l1.length c1] rfl (by (try simp only [zmt, List.map_cons, List.map_nil]); first | done | rfl | (simp only [zld, zlt]; rfl)) ?_; (with_reducible refine (slices_Clone_int_int.calls _ _ l1 t104 _ ?side1 ?side2 A6.out).mono ?_); (case side1 => repeat (first | exact (Kd.C_below HR1.out HB.out) | (with_reducible refine Kd.C_alloc ?_ _) | (with_reducible refine Kd.C_drewN ?_ _) | (with_reducible refine Kd.C_drew ?_))); (case side2 => exact HC1.out); rintro e w13 ⟨v105, rfl, ho0, hb⟩; refine ⟨_, rfl, ?_⟩; have n0_ := zam (Kd.R_lower ho0 (zbz (by repeat (first | (with_reducible first | exact HB.out | apply zba | apply zbn | apply zb1 | refine zbs ?_ GE101.out | refine zbs ?_ GE102.out) | exact HB.out)))); have n1_ := zam (zkb (g := gb101) (o := .cells #[.int .i64 a0_0, .int .i64 a0_1] 72 (0, 0)) (by (with_reducible repeat (first | refine zkn ?_ _ | refine zkd ?_ | refine zka ?_ _)); exact BK101.out) hb); have n2_ := zam (zkb (g := gb102) (o := .cells #[.int .i64 a0_0, .int .i64 a0_1] 120 (0, 0)) (by (with_reducible repeat (first | refine zkn ?_ _ | refine zkd ?_ | refine zka ?_ _)); exact BK102.out) hb); have n3_ := zam (zbt (by repeat (first | (with_reducible first | exact HB.out | apply zba | apply zbn | apply zb1 | refine zbs ?_ GE101.out | refine zbs ?_ GE102.out) | exact HB.out)) hb); clear BK101; clear BK102; clear HB; have HO106 := n0_; have BK101 := n1_; have BK102 := n2_; have HB := n3_; clear n0_ n1_ n2_ n3_; (try clear hb); (try clear hb2); (try clear hk); (try clear hi); (try clear ho0)))
  go_loopg [11, 12, 30] k (fun kq v11 v12 v30 w' => ∃ (x11_1 : List Int) (x12_1 : Bool) (x30_1 : Int), v12 = .bool x12_1 ∧ v30 = .int .i64 x30_1 ∧ Aside0 (mooring_Where.l0 kq x11_1 x12_1 l2 (l2.length : Int) x30_1 a0_0 a0_1 = some (r1, r2, r3)) ∧ Aside0 (kq ≤ k) ∧ Aside0 (Kd.R (Kd.int .i64) 3 w' w.heap.size (fun _ => True) v11 x11_1) ∧ Aside0 (w'.heap[gb101]? = some (.cells #[.int .i64 a0_0, .int .i64 a0_1] 72 (0, 0))) ∧ Aside0 (w'.heap[gb102]? = some (.cells #[.int .i64 a0_0, .int .i64 a0_1] 120 (0, 0))) ∧ Aside0 (Below w.heap.size w w'))
  case atStart => exact ⟨(t104), (false), (0), (by first | rfl | (simp; done) | (simp [*]; done)), (by first | rfl | (simp; done) | (simp [*]; done)), H', ⟨Nat.le_refl _⟩, ⟨by (with_reducible repeat (first | apply zRa | apply zRn | apply zRd)); exact HO106.out⟩, ⟨by (with_reducible repeat (first | refine zkn ?_ _ | refine zkd ?_ | refine zka ?_ _)); exact BK101.out⟩, ⟨by (with_reducible repeat (first | refine zkn ?_ _ | refine zkd ?_ | refine zka ?_ _)); exact BK102.out⟩, ⟨by repeat (first | (with_reducible first | exact HB.out | apply zba | apply zbn | apply zb1 | refine zbs ?_ GE101.out | refine zbs ?_ GE102.out) | exact HB.out)⟩⟩
  case round =>
   clear H'
   try clear c1
   try clear c2
   try clear p2
   try clear c4
   try clear c5
   try clear c5b0
   try clear c5b1
   try clear c8
   try clear c10
   try clear hcz11_0
   try clear hcz11_1
   try clear hcz8_0
   try clear hcz8_1
   try clear hfz11_0
   try clear hfz11_1
   try clear hfz8_0
   try clear hfz8_1
   obtain ⟨x11_1, x12_1, x30_1, rfl, rfl, HA, HK1, HO_11, BK101, BK102, HB⟩ := hrel
   cases gk with
   | zero => exact absurd HA.out (by simp [mooring_Where.l0])
   | succ k1 =>
    have H := HA.out
    clear HA
    simp only [mooring_Where.l0] at H
    by_cases c14 : x30_1 < (l2.length : Int)
    ·rw [if_pos c14] at H
     have c14b0 : decide (x30_1 < (l2.length : Int)) = true := zdt c14
     clear c14
     by_cases c15 : 0 ≤ x30_1
     ·rw [if_pos c15] at H
      have c15b0 : decide (0 ≤ x30_1) = true := zdt c15
      clear c15
      by_cases c16 : x30_1 < (l2.length : Int)
      ·rw [if_pos c16] at H
       have c16b0 : decide (x30_1 < (l2.length : Int)) = true := zdt c16
       clear c16
       replace H := Option.bind_eq_some_iff.mp H
       obtain ⟨⟨t109, t112⟩, A170, H⟩ := H
       replace H : (if x12_1 = true then (mooring_Where.l0 k1 t109 true l2 (l2.length : Int) (wrap64 (x30_1 + 1)) a0_0 a0_1) else (mooring_Where.l0 k1 t109 t112 l2 (l2.length : Int) (wrap64 (x30_1 + 1)) a0_0 a0_1)) = some (r1, r2, r3) := H
       have A17 := zam A170
       clear A170
       by_cases c18 : x12_1 = true
       ·subst c18
        have H1 : (mooring_Where.l0 k1 t109 true l2 (l2.length : Int) (wrap64 (x30_1 + 1)) a0_0 a0_1) = some (r1, r2, r3) := by rw [if_pos rfl] at H; exact H
        clear H
        have H := H1
        clear H1
        have H' := zam H
        clear H
        have p107 : 0 ≤ (x30_1 : Int) := zod (by first | (with_reducible assumption) | assumption)
        have q107 : x30_1 < (l2.length : Int) := zod (by first | (with_reducible assumption) | assumption)
        obtain ⟨ad107, A107_4, c107_4, e107, hx107_0, hx107_1, hx107_2, hx107_3, hx107_4, hl107_4, hi107_4⟩ := at_T79 HR2.out x30_1 p107 q107
        cases e107
        replace hx107_0 := (HB.out.cell (zwb w _ hx107_0)).trans hx107_0
        replace hx107_1 := (HB.out.cell (zwb w _ hx107_1)).trans hx107_1
        replace hx107_2 := (HB.out.cell (zwb w _ hx107_2)).trans hx107_2
        replace hx107_3 := (HB.out.cell (zwb w _ hx107_3)).trans hx107_3
        replace hx107_4 := (HB.out.cell (zwb w _ hx107_4)).trans hx107_4
        have HR107_4 := zam hi107_4
        have HC107_4 := zam hl107_4
        clear hi107_4 hl107_4
        replace p107 := eq_true p107
        replace q107 := eq_true q107
        go_wp2_with (first | ((with_reducible refine zgd (N := 14) rfl ?_); refine box_event ?hg (N := 14) ?hd (cs := #[.int .i64 0, .int .i64 0, .int .i64 0, .int .i64 0, .slice none 0 0]) (t := 79) ?hr ?_; (case hd => rfl); (case hg => rfl); (case hr => first | (go_simp; done) | (go_simp; rfl)); intro gb108 hg w19 hbox hb; have n0_ := zam (Kd.R_below (by (with_reducible repeat (first | apply zRa | apply zRn | apply zRd)); exact HO_11.out) hb); have n1_ := zam (zkb (g := gb101) (o := .cells #[.int .i64 a0_0, .int .i64 a0_1] 72 (0, 0)) (by (with_reducible repeat (first | refine zkn ?_ _ | refine zkd ?_ | refine zka ?_ _)); exact BK101.out) hb); have n2_ := zam (zkb (g := gb102) (o := .cells #[.int .i64 a0_0, .int .i64 a0_1] 120 (0, 0)) (by (with_reducible repeat (first | refine zkn ?_ _ | refine zkd ?_ | refine zka ?_ _)); exact BK102.out) hb); have n3_ := zam (zbt (by repeat (first | (with_reducible first | exact HB.out | apply zba | apply zbn | apply zb1 | refine zbs ?_ GE101.out | refine zbs ?_ GE102.out) | exact HB.out)) hb); have n4_ := zam (hbox); have n5_ := zam ((by rw [hg]; exact (zbz (by repeat (first | (with_reducible first | exact HB.out | apply zba | apply zbn | apply zb1 | refine zbs ?_ GE101.out | refine zbs ?_ GE102.out) | exact HB.out))) : w.heap.size ≤ gb108)); have n6_ := zam ((by rw [hg]; exact (zbz (by repeat (first | (with_reducible first | exact HB.out | apply zba | apply zbn | apply zb1 | refine zbs ?_ GE101.out | refine zbs ?_ GE102.out) | exact HB.out))) : w.heap.size ≤ gb108)); have n7_ := zam ((by rw [hg]; exact Nat.ne_of_lt (blk_lt (g := gb101) (o := .cells #[.int .i64 a0_0, .int .i64 a0_1] 72 (0, 0)) (by (with_reducible repeat (first | refine zkn ?_ _ | refine zkd ?_ | refine zka ?_ _)); exact BK101.out)) : gb101 ≠ gb108)); have n8_ := zam ((by rw [hg]; exact Nat.ne_of_gt (blk_lt (g := gb101) (o := .cells #[.int .i64 a0_0, .int .i64 a0_1] 72 (0, 0)) (by (with_reducible repeat (first | refine zkn ?_ _ | refine zkd ?_ | refine zka ?_ _)); exact BK101.out)) : gb108 ≠ gb101)); have n9_ := zam ((by rw [hg]; exact Nat.ne_of_lt (blk_lt (g := gb102) (o := .cells #[.int .i64 a0_0, .int .i64 a0_1] 120 (0, 0)) (by (with_reducible repeat (first | refine zkn ?_ _ | refine zkd ?_ | refine zka ?_ _)); exact BK102.out)) : gb102 ≠ gb108)); have n10_ := zam ((by rw [hg]; exact Nat.ne_of_gt (blk_lt (g := gb102) (o := .cells #[.int .i64 a0_0, .int .i64 a0_1] 120 (0, 0)) (by (with_reducible repeat (first | refine zkn ?_ _ | refine zkd ?_ | refine zka ?_ _)); exact BK102.out)) : gb108 ≠ gb102)); clear HO_11; clear BK101; clear BK102; clear HB; have HO_11 := n0_; have BK101 := n1_; have BK102 := n2_; have HB := n3_; have BK108 := n4_; have GW108 := n5_; have GE108 := n6_; have NB101_108 := n7_; have NB108_101 := n8_; have NB102_108 := n9_; have NB108_102 := n10_; clear n0_ n1_ n2_ n3_ n4_ n5_ n6_ n7_ n8_ n9_ n10_; clear hb hbox hg; have hnb20 := NB108_101.out; have hnc20 := NB101_108.out; have hnb21 := NB108_102.out; have hnc21 := NB102_108.out; have hcz22_0 : w19.cell? ⟨gb108, 0, none⟩ = some (.int .i64 0) := (zkc BK108.out 0).trans rfl; have hcz22_1 : w19.cell? ⟨gb108, 1, none⟩ = some (.int .i64 0) := (zkc BK108.out 1).trans rfl; have hcz22_2 : w19.cell? ⟨gb108, 2, none⟩ = some (.int .i64 0) := (zkc BK108.out 2).trans rfl; have hcz22_3 : w19.cell? ⟨gb108, 3, none⟩ = some (.int .i64 0) := (zkc BK108.out 3).trans rfl; have hcz22_4 : w19.cell? ⟨gb108, 4, none⟩ = some (.slice none 0 0) := (zkc BK108.out 4).trans rfl; have hfz22_0 := zkz BK108.out 0; have hfz22_1 := zkz BK108.out 1; have hfz22_2 := zkz BK108.out 2; have hfz22_3 := zkz BK108.out 3; have hfz22_4 := zkz BK108.out 4; have hnb23 := NB102_101.out; have hnc23 := NB101_102.out; have hcz24_0 : w19.cell? ⟨gb102, 0, none⟩ = some (.int .i64 a0_0) := (zkc BK102.out 0).trans rfl; have hcz24_1 : w19.cell? ⟨gb102, 1, none⟩ = some (.int .i64 a0_1) := (zkc BK102.out 1).trans rfl; have hfz24_0 := zkz BK102.out 0; have hfz24_1 := zkz BK102.out 1; obtain ⟨Ao25, co25, eo25⟩ := Kd.R_slice HO_11.out; subst eo25) | ((with_reducible refine zgc (f := 85) rfl ?_); refine goesL_ (some 38) rfl rfl Try.func85 (by kernel_rfl) rfl #[.agg #[.int .i64 a0_0, .int .i64 a0_1], .slice Ao25 x11_1.length co25, .agg #[.int .i64 ((rd_T79 l2 x30_1).f0.f0), .int .i64 ((rd_T79 l2 x30_1).f0.f1), .int .i64 ((rd_T79 l2 x30_1).f1.f0), .int .i64 ((rd_T79 l2 x30_1).f1.f1), .slice A107_4 ((rd_T79 l2 x30_1).f2).length c107_4]] rfl (by (try simp only [zmt, List.map_cons, List.map_nil]); first | done | rfl | (simp only [zld, zlt]; rfl)) ?_; (with_reducible refine (mooring_area_hour.calls a0_0 a0_1 _ _ x11_1 ((rd_T79 l2 x30_1).f0.f0) ((rd_T79 l2 x30_1).f0.f1) ((rd_T79 l2 x30_1).f1.f0) ((rd_T79 l2 x30_1).f1.f1) _ _ ((rd_T79 l2 x30_1).f2) t109 t112 _ ?side1 ?side2 ?side3 ?side4 A17.out).mono ?_); (case side1 => refine (Kd.R_reads' (e := 3) (base := w.heap.size) (ok := fun k_ => True) (n := x11_1.length) (c := co25) ?_).2.2; exact (by (with_reducible repeat (first | apply zRa | apply zRn | apply zRd)); exact (Kd.R_mono (Kd.R_far (p := ⟨gb108, 4, none⟩) (Kd.R_far (p := ⟨gb108, 3, none⟩) (Kd.R_far (p := ⟨gb108, 2, none⟩) (Kd.R_far (p := ⟨gb108, 1, none⟩) (Kd.R_far (p := ⟨gb108, 0, none⟩) (Kd.R_types HO_11.out BK108.out (by decide)) (fun _ hk => hk.2) (.int .i64 ((rd_T79 l2 x30_1).f0.f0))) (fun _ hk => hk.2) (.int .i64 ((rd_T79 l2 x30_1).f0.f1))) (fun _ hk => hk.2) (.int .i64 ((rd_T79 l2 x30_1).f1.f0))) (fun _ hk => hk.2) (.int .i64 ((rd_T79 l2 x30_1).f1.f1))) (fun _ hk => hk.2) (.slice A107_4 ((rd_T79 l2 x30_1).f2).length c107_4)) (fun _ h_ => h_.1)))); (case side2 => exact (Kd.R_reads' HO_11.out).2.1); (case side3 => exact Kd.C_below HR107_4.out (by repeat (first | (with_reducible first | exact HB.out | apply zba | apply zbn | apply zb1 | refine zbs ?_ GE101.out | refine zbs ?_ GE102.out | refine zbs ?_ GE108.out) | exact HB.out))); (case side4 => exact HC107_4.out); rintro e w26 ⟨v110, rfl, ho0, hb⟩; refine ⟨_, rfl, ?_⟩; have n0_ := zam (Kd.R_elder' (by (with_reducible repeat (first | apply zRa | apply zRn | apply zRd)); exact (Kd.R_mono (Kd.R_far (p := ⟨gb108, 4, none⟩) (Kd.R_far (p := ⟨gb108, 3, none⟩) (Kd.R_far (p := ⟨gb108, 2, none⟩) (Kd.R_far (p := ⟨gb108, 1, none⟩) (Kd.R_far (p := ⟨gb108, 0, none⟩) (Kd.R_types HO_11.out BK108.out (by decide)) (fun _ hk => hk.2) (.int .i64 ((rd_T79 l2 x30_1).f0.f0))) (fun _ hk => hk.2) (.int .i64 ((rd_T79 l2 x30_1).f0.f1))) (fun _ hk => hk.2) (.int .i64 ((rd_T79 l2 x30_1).f1.f0))) (fun _ hk => hk.2) (.int .i64 ((rd_T79 l2 x30_1).f1.f1))) (fun _ hk => hk.2) (.slice A107_4 ((rd_T79 l2 x30_1).f2).length c107_4)) (fun _ h_ => h_.1))) (Kd.R_base ho0) hb); have n1_ := zam (Kd.R_lower (Kd.R_new' ho0 (Kd.R_lt (by (with_reducible repeat (first | apply zRa | apply zRn | apply zRd)); exact (Kd.R_mono (Kd.R_far (p := ⟨gb108, 4, none⟩) (Kd.R_far (p := ⟨gb108, 3, none⟩) (Kd.R_far (p := ⟨gb108, 2, none⟩) (Kd.R_far (p := ⟨gb108, 1, none⟩) (Kd.R_far (p := ⟨gb108, 0, none⟩) (Kd.R_types HO_11.out BK108.out (by decide)) (fun _ hk => hk.2) (.int .i64 ((rd_T79 l2 x30_1).f0.f0))) (fun _ hk => hk.2) (.int .i64 ((rd_T79 l2 x30_1).f0.f1))) (fun _ hk => hk.2) (.int .i64 ((rd_T79 l2 x30_1).f1.f0))) (fun _ hk => hk.2) (.int .i64 ((rd_T79 l2 x30_1).f1.f1))) (fun _ hk => hk.2) (.slice A107_4 ((rd_T79 l2 x30_1).f2).length c107_4)) (fun _ h_ => h_.1))))) (zbz (by repeat (first | (with_reducible first | exact HB.out | apply zba | apply zbn | apply zb1 | refine zbs ?_ GE101.out | refine zbs ?_ GE102.out | refine zbs ?_ GE108.out) | exact HB.out)))); have n2_ := zam (zkb (g := gb101) (o := .cells #[.int .i64 a0_0, .int .i64 a0_1] 72 (0, 0)) (by (with_reducible repeat (first | refine zkn ?_ _ | refine zkd ?_ | refine zka ?_ _)); refine zkf ?_ NB101_108.out _; (with_reducible repeat (first | refine zkn ?_ _ | refine zkd ?_ | refine zka ?_ _)); refine zkf ?_ NB101_108.out _; (with_reducible repeat (first | refine zkn ?_ _ | refine zkd ?_ | refine zka ?_ _)); refine zkf ?_ NB101_108.out _; (with_reducible repeat (first | refine zkn ?_ _ | refine zkd ?_ | refine zka ?_ _)); refine zkf ?_ NB101_108.out _; (with_reducible repeat (first | refine zkn ?_ _ | refine zkd ?_ | refine zka ?_ _)); refine zkf ?_ NB101_108.out _; (with_reducible repeat (first | refine zkn ?_ _ | refine zkd ?_ | refine zka ?_ _)); exact BK101.out) hb); have n3_ := zam (zkb (g := gb102) (o := .cells #[.int .i64 a0_0, .int .i64 a0_1] 120 (0, 0)) (by (with_reducible repeat (first | refine zkn ?_ _ | refine zkd ?_ | refine zka ?_ _)); refine zkf ?_ NB102_108.out _; (with_reducible repeat (first | refine zkn ?_ _ | refine zkd ?_ | refine zka ?_ _)); refine zkf ?_ NB102_108.out _; (with_reducible repeat (first | refine zkn ?_ _ | refine zkd ?_ | refine zka ?_ _)); refine zkf ?_ NB102_108.out _; (with_reducible repeat (first | refine zkn ?_ _ | refine zkd ?_ | refine zka ?_ _)); refine zkf ?_ NB102_108.out _; (with_reducible repeat (first | refine zkn ?_ _ | refine zkd ?_ | refine zka ?_ _)); refine zkf ?_ NB102_108.out _; (with_reducible repeat (first | refine zkn ?_ _ | refine zkd ?_ | refine zka ?_ _)); exact BK102.out) hb); have n4_ := zam (zkb (g := gb108) (o := .cells #[.int .i64 ((rd_T79 l2 x30_1).f0.f0), .int .i64 ((rd_T79 l2 x30_1).f0.f1), .int .i64 ((rd_T79 l2 x30_1).f1.f0), .int .i64 ((rd_T79 l2 x30_1).f1.f1), .slice A107_4 ((rd_T79 l2 x30_1).f2).length c107_4] 79 (0, 0)) (by (with_reducible repeat (first | refine zkn ?_ _ | refine zkd ?_ | refine zka ?_ _)); refine blk_put (cs := #[.int .i64 ((rd_T79 l2 x30_1).f0.f0), .int .i64 ((rd_T79 l2 x30_1).f0.f1), .int .i64 ((rd_T79 l2 x30_1).f1.f0), .int .i64 ((rd_T79 l2 x30_1).f1.f1), .slice none 0 0]) ?_ 4 _ rfl; (with_reducible repeat (first | refine zkn ?_ _ | refine zkd ?_ | refine zka ?_ _)); refine blk_put (cs := #[.int .i64 ((rd_T79 l2 x30_1).f0.f0), .int .i64 ((rd_T79 l2 x30_1).f0.f1), .int .i64 ((rd_T79 l2 x30_1).f1.f0), .int .i64 0, .slice none 0 0]) ?_ 3 _ rfl; (with_reducible repeat (first | refine zkn ?_ _ | refine zkd ?_ | refine zka ?_ _)); refine blk_put (cs := #[.int .i64 ((rd_T79 l2 x30_1).f0.f0), .int .i64 ((rd_T79 l2 x30_1).f0.f1), .int .i64 0, .int .i64 0, .slice none 0 0]) ?_ 2 _ rfl; (with_reducible repeat (first | refine zkn ?_ _ | refine zkd ?_ | refine zka ?_ _)); refine blk_put (cs := #[.int .i64 ((rd_T79 l2 x30_1).f0.f0), .int .i64 0, .int .i64 0, .int .i64 0, .slice none 0 0]) ?_ 1 _ rfl; (with_reducible repeat (first | refine zkn ?_ _ | refine zkd ?_ | refine zka ?_ _)); refine blk_put (cs := #[.int .i64 0, .int .i64 0, .int .i64 0, .int .i64 0, .slice none 0 0]) ?_ 0 _ rfl; (with_reducible repeat (first | refine zkn ?_ _ | refine zkd ?_ | refine zka ?_ _)); exact BK108.out) hb); have n5_ := zam (zbt (by repeat (first | (with_reducible first | exact HB.out | apply zba | apply zbn | apply zb1 | refine zbs ?_ GE101.out | refine zbs ?_ GE102.out | refine zbs ?_ GE108.out) | exact HB.out)) hb); clear HO_11; clear BK101; clear BK102; clear BK108; clear HB; have HO_11 := n0_; have HO111 := n1_; have BK101 := n2_; have BK102 := n3_; have BK108 := n4_; have HB := n5_; clear n0_ n1_ n2_ n3_ n4_ n5_; (try clear hb); (try clear hb2); (try clear hk); (try clear hi); (try clear ho0)))
        go_roundg k1
        case measure => have := HK1.out; omega
        case rel => exact ⟨(t109), (true), (wrap64 (x30_1 + 1)), (by first | rfl | (simp; done) | (simp [*]; done)), (by first | rfl | (simp; done) | (simp [*]; done)), H', ⟨by have := HK1.out; omega⟩, ⟨by (with_reducible repeat (first | apply zRa | apply zRn | apply zRd)); exact Kd.R_mono HO111.out (fun _ hk => trivial)⟩, ⟨by (with_reducible repeat (first | refine zkn ?_ _ | refine zkd ?_ | refine zka ?_ _)); exact BK101.out⟩, ⟨by (with_reducible repeat (first | refine zkn ?_ _ | refine zkd ?_ | refine zka ?_ _)); exact BK102.out⟩, ⟨by repeat (first | (with_reducible first | exact HB.out | apply zba | apply zbn | apply zb1 | refine zbs ?_ GE101.out | refine zbs ?_ GE102.out | refine zbs ?_ GE108.out) | exact HB.out)⟩⟩
       replace c18 := Bool.eq_false_iff.mpr c18
       subst c18
       have H1 : (mooring_Where.l0 k1 t109 t112 l2 (l2.length : Int) (wrap64 (x30_1 + 1)) a0_0 a0_1) = some (r1, r2, r3) := by rw [if_neg (show ¬ (false = true) by decide)] at H; exact H
       clear H
       have H := H1
       clear H1
       have H' := zam H
       clear H
       have p107 : 0 ≤ (x30_1 : Int) := zod (by first | (with_reducible assumption) | assumption)
       have q107 : x30_1 < (l2.length : Int) := zod (by first | (with_reducible assumption) | assumption)
       obtain ⟨ad107, A107_4, c107_4, e107, hx107_0, hx107_1, hx107_2, hx107_3, hx107_4, hl107_4, hi107_4⟩ := at_T79 HR2.out x30_1 p107 q107
       cases e107
       replace hx107_0 := (HB.out.cell (zwb w _ hx107_0)).trans hx107_0
       replace hx107_1 := (HB.out.cell (zwb w _ hx107_1)).trans hx107_1
       replace hx107_2 := (HB.out.cell (zwb w _ hx107_2)).trans hx107_2
       replace hx107_3 := (HB.out.cell (zwb w _ hx107_3)).trans hx107_3
       replace hx107_4 := (HB.out.cell (zwb w _ hx107_4)).trans hx107_4
       have HR107_4 := zam hi107_4
       have HC107_4 := zam hl107_4
       clear hi107_4 hl107_4
       replace p107 := eq_true p107
       replace q107 := eq_true q107
       go_wp2_with (first | ((with_reducible refine zgd (N := 14) rfl ?_); refine box_event ?hg (N := 14) ?hd (cs := #[.int .i64 0, .int .i64 0, .int .i64 0, .int .i64 0, .slice none 0 0]) (t := 79) ?hr ?_; (case hd => rfl); (case hg => rfl); (case hr => first | (go_simp; done) | (go_simp; rfl)); intro gb108 hg w27 hbox hb; have n0_ := zam (Kd.R_below (by (with_reducible repeat (first | apply zRa | apply zRn | apply zRd)); exact HO_11.out) hb); have n1_ := zam (zkb (g := gb101) (o := .cells #[.int .i64 a0_0, .int .i64 a0_1] 72 (0, 0)) (by (with_reducible repeat (first | refine zkn ?_ _ | refine zkd ?_ | refine zka ?_ _)); exact BK101.out) hb); have n2_ := zam (zkb (g := gb102) (o := .cells #[.int .i64 a0_0, .int .i64 a0_1] 120 (0, 0)) (by (with_reducible repeat (first | refine zkn ?_ _ | refine zkd ?_ | refine zka ?_ _)); exact BK102.out) hb); have n3_ := zam (zbt (by repeat (first | (with_reducible first | exact HB.out | apply zba | apply zbn | apply zb1 | refine zbs ?_ GE101.out | refine zbs ?_ GE102.out) | exact HB.out)) hb); have n4_ := zam (hbox); have n5_ := zam ((by rw [hg]; exact (zbz (by repeat (first | (with_reducible first | exact HB.out | apply zba | apply zbn | apply zb1 | refine zbs ?_ GE101.out | refine zbs ?_ GE102.out) | exact HB.out))) : w.heap.size ≤ gb108)); have n6_ := zam ((by rw [hg]; exact (zbz (by repeat (first | (with_reducible first | exact HB.out | apply zba | apply zbn | apply zb1 | refine zbs ?_ GE101.out | refine zbs ?_ GE102.out) | exact HB.out))) : w.heap.size ≤ gb108)); have n7_ := zam ((by rw [hg]; exact Nat.ne_of_lt (blk_lt (g := gb101) (o := .cells #[.int .i64 a0_0, .int .i64 a0_1] 72 (0, 0)) (by (with_reducible repeat (first | refine zkn ?_ _ | refine zkd ?_ | refine zka ?_ _)); exact BK101.out)) : gb101 ≠ gb108)); have n8_ := zam ((by rw [hg]; exact Nat.ne_of_gt (blk_lt (g := gb101) (o := .cells #[.int .i64 a0_0, .int .i64 a0_1] 72 (0, 0)) (by (with_reducible repeat (first | refine zkn ?_ _ | refine zkd ?_ | refine zka ?_ _)); exact BK101.out)) : gb108 ≠ gb101)); have n9_ := zam ((by rw [hg]; exact Nat.ne_of_lt (blk_lt (g := gb102) (o := .cells #[.int .i64 a0_0, .int .i64 a0_1] 120 (0, 0)) (by (with_reducible repeat (first | refine zkn ?_ _ | refine zkd ?_ | refine zka ?_ _)); exact BK102.out)) : gb102 ≠ gb108)); have n10_ := zam ((by rw [hg]; exact Nat.ne_of_gt (blk_lt (g := gb102) (o := .cells #[.int .i64 a0_0, .int .i64 a0_1] 120 (0, 0)) (by (with_reducible repeat (first | refine zkn ?_ _ | refine zkd ?_ | refine zka ?_ _)); exact BK102.out)) : gb108 ≠ gb102)); clear HO_11; clear BK101; clear BK102; clear HB; have HO_11 := n0_; have BK101 := n1_; have BK102 := n2_; have HB := n3_; have BK108 := n4_; have GW108 := n5_; have GE108 := n6_; have NB101_108 := n7_; have NB108_101 := n8_; have NB102_108 := n9_; have NB108_102 := n10_; clear n0_ n1_ n2_ n3_ n4_ n5_ n6_ n7_ n8_ n9_ n10_; clear hb hbox hg; have hnb28 := NB108_101.out; have hnc28 := NB101_108.out; have hnb29 := NB108_102.out; have hnc29 := NB102_108.out; have hcz30_0 : w27.cell? ⟨gb108, 0, none⟩ = some (.int .i64 0) := (zkc BK108.out 0).trans rfl; have hcz30_1 : w27.cell? ⟨gb108, 1, none⟩ = some (.int .i64 0) := (zkc BK108.out 1).trans rfl; have hcz30_2 : w27.cell? ⟨gb108, 2, none⟩ = some (.int .i64 0) := (zkc BK108.out 2).trans rfl; have hcz30_3 : w27.cell? ⟨gb108, 3, none⟩ = some (.int .i64 0) := (zkc BK108.out 3).trans rfl; have hcz30_4 : w27.cell? ⟨gb108, 4, none⟩ = some (.slice none 0 0) := (zkc BK108.out 4).trans rfl; have hfz30_0 := zkz BK108.out 0; have hfz30_1 := zkz BK108.out 1; have hfz30_2 := zkz BK108.out 2; have hfz30_3 := zkz BK108.out 3; have hfz30_4 := zkz BK108.out 4; have hnb31 := NB102_101.out; have hnc31 := NB101_102.out; have hcz32_0 : w27.cell? ⟨gb102, 0, none⟩ = some (.int .i64 a0_0) := (zkc BK102.out 0).trans rfl; have hcz32_1 : w27.cell? ⟨gb102, 1, none⟩ = some (.int .i64 a0_1) := (zkc BK102.out 1).trans rfl; have hfz32_0 := zkz BK102.out 0; have hfz32_1 := zkz BK102.out 1; obtain ⟨Ao33, co33, eo33⟩ := Kd.R_slice HO_11.out; subst eo33) | ((with_reducible refine zgc (f := 85) rfl ?_); refine goesL_ (some 38) rfl rfl Try.func85 (by kernel_rfl) rfl #[.agg #[.int .i64 a0_0, .int .i64 a0_1], .slice Ao33 x11_1.length co33, .agg #[.int .i64 ((rd_T79 l2 x30_1).f0.f0), .int .i64 ((rd_T79 l2 x30_1).f0.f1), .int .i64 ((rd_T79 l2 x30_1).f1.f0), .int .i64 ((rd_T79 l2 x30_1).f1.f1), .slice A107_4 ((rd_T79 l2 x30_1).f2).length c107_4]] rfl (by (try simp only [zmt, List.map_cons, List.map_nil]); first | done | rfl | (simp only [zld, zlt]; rfl)) ?_; (with_reducible refine (mooring_area_hour.calls a0_0 a0_1 _ _ x11_1 ((rd_T79 l2 x30_1).f0.f0) ((rd_T79 l2 x30_1).f0.f1) ((rd_T79 l2 x30_1).f1.f0) ((rd_T79 l2 x30_1).f1.f1) _ _ ((rd_T79 l2 x30_1).f2) t109 t112 _ ?side1 ?side2 ?side3 ?side4 A17.out).mono ?_); (case side1 => refine (Kd.R_reads' (e := 3) (base := w.heap.size) (ok := fun k_ => True) (n := x11_1.length) (c := co33) ?_).2.2; exact (by (with_reducible repeat (first | apply zRa | apply zRn | apply zRd)); exact (Kd.R_mono (Kd.R_far (p := ⟨gb108, 4, none⟩) (Kd.R_far (p := ⟨gb108, 3, none⟩) (Kd.R_far (p := ⟨gb108, 2, none⟩) (Kd.R_far (p := ⟨gb108, 1, none⟩) (Kd.R_far (p := ⟨gb108, 0, none⟩) (Kd.R_types HO_11.out BK108.out (by decide)) (fun _ hk => hk.2) (.int .i64 ((rd_T79 l2 x30_1).f0.f0))) (fun _ hk => hk.2) (.int .i64 ((rd_T79 l2 x30_1).f0.f1))) (fun _ hk => hk.2) (.int .i64 ((rd_T79 l2 x30_1).f1.f0))) (fun _ hk => hk.2) (.int .i64 ((rd_T79 l2 x30_1).f1.f1))) (fun _ hk => hk.2) (.slice A107_4 ((rd_T79 l2 x30_1).f2).length c107_4)) (fun _ h_ => h_.1)))); (case side2 => exact (Kd.R_reads' HO_11.out).2.1); (case side3 => exact Kd.C_below HR107_4.out (by repeat (first | (with_reducible first | exact HB.out | apply zba | apply zbn | apply zb1 | refine zbs ?_ GE101.out | refine zbs ?_ GE102.out | refine zbs ?_ GE108.out) | exact HB.out))); (case side4 => exact HC107_4.out); rintro e w34 ⟨v110, rfl, ho0, hb⟩; refine ⟨_, rfl, ?_⟩; have n0_ := zam (Kd.R_elder' (by (with_reducible repeat (first | apply zRa | apply zRn | apply zRd)); exact (Kd.R_mono (Kd.R_far (p := ⟨gb108, 4, none⟩) (Kd.R_far (p := ⟨gb108, 3, none⟩) (Kd.R_far (p := ⟨gb108, 2, none⟩) (Kd.R_far (p := ⟨gb108, 1, none⟩) (Kd.R_far (p := ⟨gb108, 0, none⟩) (Kd.R_types HO_11.out BK108.out (by decide)) (fun _ hk => hk.2) (.int .i64 ((rd_T79 l2 x30_1).f0.f0))) (fun _ hk => hk.2) (.int .i64 ((rd_T79 l2 x30_1).f0.f1))) (fun _ hk => hk.2) (.int .i64 ((rd_T79 l2 x30_1).f1.f0))) (fun _ hk => hk.2) (.int .i64 ((rd_T79 l2 x30_1).f1.f1))) (fun _ hk => hk.2) (.slice A107_4 ((rd_T79 l2 x30_1).f2).length c107_4)) (fun _ h_ => h_.1))) (Kd.R_base ho0) hb); have n1_ := zam (Kd.R_lower (Kd.R_new' ho0 (Kd.R_lt (by (with_reducible repeat (first | apply zRa | apply zRn | apply zRd)); exact (Kd.R_mono (Kd.R_far (p := ⟨gb108, 4, none⟩) (Kd.R_far (p := ⟨gb108, 3, none⟩) (Kd.R_far (p := ⟨gb108, 2, none⟩) (Kd.R_far (p := ⟨gb108, 1, none⟩) (Kd.R_far (p := ⟨gb108, 0, none⟩) (Kd.R_types HO_11.out BK108.out (by decide)) (fun _ hk => hk.2) (.int .i64 ((rd_T79 l2 x30_1).f0.f0))) (fun _ hk => hk.2) (.int .i64 ((rd_T79 l2 x30_1).f0.f1))) (fun _ hk => hk.2) (.int .i64 ((rd_T79 l2 x30_1).f1.f0))) (fun _ hk => hk.2) (.int .i64 ((rd_T79 l2 x30_1).f1.f1))) (fun _ hk => hk.2) (.slice A107_4 ((rd_T79 l2 x30_1).f2).length c107_4)) (fun _ h_ => h_.1))))) (zbz (by repeat (first | (with_reducible first | exact HB.out | apply zba | apply zbn | apply zb1 | refine zbs ?_ GE101.out | refine zbs ?_ GE102.out | refine zbs ?_ GE108.out) | exact HB.out)))); have n2_ := zam (zkb (g := gb101) (o := .cells #[.int .i64 a0_0, .int .i64 a0_1] 72 (0, 0)) (by (with_reducible repeat (first | refine zkn ?_ _ | refine zkd ?_ | refine zka ?_ _)); refine zkf ?_ NB101_108.out _; (with_reducible repeat (first | refine zkn ?_ _ | refine zkd ?_ | refine zka ?_ _)); refine zkf ?_ NB101_108.out _; (with_reducible repeat (first | refine zkn ?_ _ | refine zkd ?_ | refine zka ?_ _)); refine zkf ?_ NB101_108.out _; (with_reducible repeat (first | refine zkn ?_ _ | refine zkd ?_ | refine zka ?_ _)); refine zkf ?_ NB101_108.out _; (with_reducible repeat (first | refine zkn ?_ _ | refine zkd ?_ | refine zka ?_ _)); refine zkf ?_ NB101_108.out _; (with_reducible repeat (first | refine zkn ?_ _ | refine zkd ?_ | refine zka ?_ _)); exact BK101.out) hb); have n3_ := zam (zkb (g := gb102) (o := .cells #[.int .i64 a0_0, .int .i64 a0_1] 120 (0, 0)) (by (with_reducible repeat (first | refine zkn ?_ _ | refine zkd ?_ | refine zka ?_ _)); refine zkf ?_ NB102_108.out _; (with_reducible repeat (first | refine zkn ?_ _ | refine zkd ?_ | refine zka ?_ _)); refine zkf ?_ NB102_108.out _; (with_reducible repeat (first | refine zkn ?_ _ | refine zkd ?_ | refine zka ?_ _)); refine zkf ?_ NB102_108.out _; (with_reducible repeat (first | refine zkn ?_ _ | refine zkd ?_ | refine zka ?_ _)); refine zkf ?_ NB102_108.out _; (with_reducible repeat (first | refine zkn ?_ _ | refine zkd ?_ | refine zka ?_ _)); refine zkf ?_ NB102_108.out _; (with_reducible repeat (first | refine zkn ?_ _ | refine zkd ?_ | refine zka ?_ _)); exact BK102.out) hb); have n4_ := zam (zkb (g := gb108) (o := .cells #[.int .i64 ((rd_T79 l2 x30_1).f0.f0), .int .i64 ((rd_T79 l2 x30_1).f0.f1), .int .i64 ((rd_T79 l2 x30_1).f1.f0), .int .i64 ((rd_T79 l2 x30_1).f1.f1), .slice A107_4 ((rd_T79 l2 x30_1).f2).length c107_4] 79 (0, 0)) (by (with_reducible repeat (first | refine zkn ?_ _ | refine zkd ?_ | refine zka ?_ _)); refine blk_put (cs := #[.int .i64 ((rd_T79 l2 x30_1).f0.f0), .int .i64 ((rd_T79 l2 x30_1).f0.f1), .int .i64 ((rd_T79 l2 x30_1).f1.f0), .int .i64 ((rd_T79 l2 x30_1).f1.f1), .slice none 0 0]) ?_ 4 _ rfl; (with_reducible repeat (first | refine zkn ?_ _ | refine zkd ?_ | refine zka ?_ _)); refine blk_put (cs := #[.int .i64 ((rd_T79 l2 x30_1).f0.f0), .int .i64 ((rd_T79 l2 x30_1).f0.f1), .int .i64 ((rd_T79 l2 x30_1).f1.f0), .int .i64 0, .slice none 0 0]) ?_ 3 _ rfl; (with_reducible repeat (first | refine zkn ?_ _ | refine zkd ?_ | refine zka ?_ _)); refine blk_put (cs := #[.int .i64 ((rd_T79 l2 x30_1).f0.f0), .int .i64 ((rd_T79 l2 x30_1).f0.f1), .int .i64 0, .int .i64 0, .slice none 0 0]) ?_ 2 _ rfl; (with_reducible repeat (first | refine zkn ?_ _ | refine zkd ?_ | refine zka ?_ _)); refine blk_put (cs := #[.int .i64 ((rd_T79 l2 x30_1).f0.f0), .int .i64 0, .int .i64 0, .int .i64 0, .slice none 0 0]) ?_ 1 _ rfl; (with_reducible repeat (first | refine zkn ?_ _ | refine zkd ?_ | refine zka ?_ _)); refine blk_put (cs := #[.int .i64 0, .int .i64 0, .int .i64 0, .int .i64 0, .slice none 0 0]) ?_ 0 _ rfl; (with_reducible repeat (first | refine zkn ?_ _ | refine zkd ?_ | refine zka ?_ _)); exact BK108.out) hb); have n5_ := zam (zbt (by repeat (first | (with_reducible first | exact HB.out | apply zba | apply zbn | apply zb1 | refine zbs ?_ GE101.out | refine zbs ?_ GE102.out | refine zbs ?_ GE108.out) | exact HB.out)) hb); clear HO_11; clear BK101; clear BK102; clear BK108; clear HB; have HO_11 := n0_; have HO111 := n1_; have BK101 := n2_; have BK102 := n3_; have BK108 := n4_; have HB := n5_; clear n0_ n1_ n2_ n3_ n4_ n5_; (try clear hb); (try clear hb2); (try clear hk); (try clear hi); (try clear ho0)))
       go_roundg k1
       case measure => have := HK1.out; omega
       case rel => exact ⟨(t109), (t112), (wrap64 (x30_1 + 1)), (by first | rfl | (simp; done) | (simp [*]; done)), (by first | rfl | (simp; done) | (simp [*]; done)), H', ⟨by have := HK1.out; omega⟩, ⟨by (with_reducible repeat (first | apply zRa | apply zRn | apply zRd)); exact Kd.R_mono HO111.out (fun _ hk => trivial)⟩, ⟨by (with_reducible repeat (first | refine zkn ?_ _ | refine zkd ?_ | refine zka ?_ _)); exact BK101.out⟩, ⟨by (with_reducible repeat (first | refine zkn ?_ _ | refine zkd ?_ | refine zka ?_ _)); exact BK102.out⟩, ⟨by repeat (first | (with_reducible first | exact HB.out | apply zba | apply zbn | apply zb1 | refine zbs ?_ GE101.out | refine zbs ?_ GE102.out | refine zbs ?_ GE108.out) | exact HB.out)⟩⟩
      rw [if_neg c16] at H
      exact absurd H (by simp)
     rw [if_neg c15] at H
     exact absurd H (by simp)
    rw [if_neg c14] at H
    have c14b0 : decide (x30_1 < (l2.length : Int)) = false := zdf c14
    clear c14
    simp only [Option.some.injEq, Prod.mk.injEq] at H
    obtain ⟨rfl, rfl, rfl⟩ := H
    go_wp2
    go_ret3
    exact ⟨_, by first | rfl | (simp [errW_none, errW_some] <;> rfl) | (simp [*, errW_none, errW_some] <;> rfl), by (with_reducible repeat (first | apply zRa | apply zRn | apply zRd)); exact HO_11.out, by repeat (first | (with_reducible first | exact HB.out | apply zba | apply zbn | apply zb1 | refine zbs ?_ GE101.out | refine zbs ?_ GE102.out) | exact HB.out)⟩
 rw [if_neg c5] at H
 have c5b0 : (t103 == 0) = false := beq_eq_false_iff_ne.mpr c5
 have c5b1 : (t103 != 0) = true := bne_iff_ne.mpr c5
 simp only [Option.some.injEq, Prod.mk.injEq] at H
 obtain ⟨rfl, rfl, rfl⟩ := H
 go_enter Try.func48, Try.ntmps48
 go_wp2_with (first | ((with_reducible refine zgd (N := 3) rfl ?_); refine box_event ?hg (N := 3) ?hd (cs := #[.int .i64 a0_0, .int .i64 a0_1]) (t := 72) ?hr ?_; (case hd => rfl); (case hg => rfl); (case hr => first | (go_simp; done) | (go_simp; rfl)); intro gb101 hg w35 hbox hb; have n0_ := zam (zbt (by repeat (first | (with_reducible first | exact HB.out | apply zba | apply zbn | apply zb1) | exact HB.out)) hb); have n1_ := zam (hbox); have n2_ := zam ((by rw [hg]; exact (zbz (by repeat (first | (with_reducible first | exact HB.out | apply zba | apply zbn | apply zb1) | exact HB.out))) : w.heap.size ≤ gb101)); have n3_ := zam ((by rw [hg]; exact (zbz (by repeat (first | (with_reducible first | exact HB.out | apply zba | apply zbn | apply zb1) | exact HB.out))) : w.heap.size ≤ gb101)); clear HB; have HB := n0_; have BK101 := n1_; have GW101 := n2_; have GE101 := n3_; clear n0_ n1_ n2_ n3_; clear hb hbox hg; have hcz36_0 : w35.cell? ⟨gb101, 0, none⟩ = some (.int .i64 a0_0) := (zkc BK101.out 0).trans rfl; have hcz36_1 : w35.cell? ⟨gb101, 1, none⟩ = some (.int .i64 a0_1) := (zkc BK101.out 1).trans rfl; have hfz36_0 := zkz BK101.out 0; have hfz36_1 := zkz BK101.out 1) | ((with_reducible refine zgd (N := 9) rfl ?_); refine box_event ?hg (N := 9) ?hd (cs := #[.int .i64 0, .int .i64 0]) (t := 120) ?hr ?_; (case hd => rfl); (case hg => rfl); (case hr => first | (go_simp; done) | (go_simp; rfl)); intro gb102 hg w37 hbox hb; have n0_ := zam (zkb (g := gb101) (o := .cells #[.int .i64 a0_0, .int .i64 a0_1] 72 (0, 0)) (by (with_reducible repeat (first | refine zkn ?_ _ | refine zkd ?_ | refine zka ?_ _)); exact BK101.out) hb); have n1_ := zam (zbt (by repeat (first | (with_reducible first | exact HB.out | apply zba | apply zbn | apply zb1 | refine zbs ?_ GE101.out) | exact HB.out)) hb); have n2_ := zam (hbox); have n3_ := zam ((by rw [hg]; exact (zbz (by repeat (first | (with_reducible first | exact HB.out | apply zba | apply zbn | apply zb1 | refine zbs ?_ GE101.out) | exact HB.out))) : w.heap.size ≤ gb102)); have n4_ := zam ((by rw [hg]; exact (zbz (by repeat (first | (with_reducible first | exact HB.out | apply zba | apply zbn | apply zb1 | refine zbs ?_ GE101.out) | exact HB.out))) : w.heap.size ≤ gb102)); have n5_ := zam ((by rw [hg]; exact Nat.ne_of_lt (blk_lt (g := gb101) (o := .cells #[.int .i64 a0_0, .int .i64 a0_1] 72 (0, 0)) (by (with_reducible repeat (first | refine zkn ?_ _ | refine zkd ?_ | refine zka ?_ _)); exact BK101.out)) : gb101 ≠ gb102)); have n6_ := zam ((by rw [hg]; exact Nat.ne_of_gt (blk_lt (g := gb101) (o := .cells #[.int .i64 a0_0, .int .i64 a0_1] 72 (0, 0)) (by (with_reducible repeat (first | refine zkn ?_ _ | refine zkd ?_ | refine zka ?_ _)); exact BK101.out)) : gb102 ≠ gb101)); clear BK101; clear HB; have BK101 := n0_; have HB := n1_; have BK102 := n2_; have GW102 := n3_; have GE102 := n4_; have NB101_102 := n5_; have NB102_101 := n6_; clear n0_ n1_ n2_ n3_ n4_ n5_ n6_; clear hb hbox hg; have hnb38 := NB102_101.out; have hnc38 := NB101_102.out; have hcz39_0 : w37.cell? ⟨gb102, 0, none⟩ = some (.int .i64 0) := (zkc BK102.out 0).trans rfl; have hcz39_1 : w37.cell? ⟨gb102, 1, none⟩ = some (.int .i64 0) := (zkc BK102.out 1).trans rfl; have hfz39_0 := zkz BK102.out 0; have hfz39_1 := zkz BK102.out 1) | ((with_reducible refine zgc (f := 83) rfl ?_); refine goesL_ (some 22) rfl rfl Try.func83 (by kernel_rfl) rfl #[.agg #[.int .i64 a0_0, .int .i64 a0_1], .slice A1 l1.length c1, .slice A2 l2.length c2] rfl (by (try simp only [zmt, List.map_cons, List.map_nil]); first | done | rfl | (simp only [zld, zlt]; rfl)) ?_; (with_reducible refine (mooring_area_check.calls k a0_0 a0_1 _ _ l1 _ _ l2 t103 _ ?side1 ?side2 ?side3 ?side4 A4.out).mono ?_); (case side1 => exact Kd.C_below HR1.out (by repeat (first | (with_reducible first | exact HB.out | apply zba | apply zbn | apply zb1 | refine zbs ?_ GE101.out | refine zbs ?_ GE102.out) | exact HB.out))); (case side2 => exact HC1.out); (case side3 => exact Kd.C_below HR2.out (by repeat (first | (with_reducible first | exact HB.out | apply zba | apply zbn | apply zb1 | refine zbs ?_ GE101.out | refine zbs ?_ GE102.out) | exact HB.out))); (case side4 => exact HC2.out); rintro e w40 ⟨rfl, hb⟩; refine ⟨_, rfl, ?_⟩; have n0_ := zam (zkb (g := gb101) (o := .cells #[.int .i64 a0_0, .int .i64 a0_1] 72 (0, 0)) (by (with_reducible repeat (first | refine zkn ?_ _ | refine zkd ?_ | refine zka ?_ _)); refine zkf ?_ NB101_102.out _; (with_reducible repeat (first | refine zkn ?_ _ | refine zkd ?_ | refine zka ?_ _)); refine zkf ?_ NB101_102.out _; (with_reducible repeat (first | refine zkn ?_ _ | refine zkd ?_ | refine zka ?_ _)); exact BK101.out) hb); have n1_ := zam (zkb (g := gb102) (o := .cells #[.int .i64 a0_0, .int .i64 a0_1] 120 (0, 0)) (by (with_reducible repeat (first | refine zkn ?_ _ | refine zkd ?_ | refine zka ?_ _)); refine blk_put (cs := #[.int .i64 a0_0, .int .i64 0]) ?_ 1 _ rfl; (with_reducible repeat (first | refine zkn ?_ _ | refine zkd ?_ | refine zka ?_ _)); refine blk_put (cs := #[.int .i64 0, .int .i64 0]) ?_ 0 _ rfl; (with_reducible repeat (first | refine zkn ?_ _ | refine zkd ?_ | refine zka ?_ _)); exact BK102.out) hb); have n2_ := zam (zbt (by repeat (first | (with_reducible first | exact HB.out | apply zba | apply zbn | apply zb1 | refine zbs ?_ GE101.out | refine zbs ?_ GE102.out) | exact HB.out)) hb); clear BK101; clear BK102; clear HB; have BK101 := n0_; have BK102 := n1_; have HB := n2_; clear n0_ n1_ n2_; (try clear hb); (try clear hb2); (try clear hk); (try clear hi)))
 go_ret3
 exact ⟨_, by first | rfl | (simp [errW_none, errW_some] <;> rfl) | (simp [*, errW_none, errW_some] <;> rfl), by first | exact Kd.R_nil _ _ _ _ _ | exact Kd.N_nil _ _ _ _ _ | exact Kd.V_nil _ _ _ _ _ | exact Kd.Q_nil _ _ _ _ _ | exact Kd.S_nil _ _ _ _ _, by repeat (first | (with_reducible first | exact HB.out | apply zba | apply zbn | apply zb1 | refine zbs ?_ GE101.out | refine zbs ?_ GE102.out) | exact HB.out)⟩
end Go.Proofs.Ytebcmhajbjkojaa.P
