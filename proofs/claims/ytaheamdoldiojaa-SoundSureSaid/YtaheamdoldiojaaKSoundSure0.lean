/- whatever the true levels in the spans are, the alarm is raised by each sample for which Raised says Yes, and by none for which it says No; so it is by the sample that First returns first, and not before the second one; Raised does not become less. Part 1 of 2. -/
-- Put together by wip/tools/shake.py, a program of this work: out of the words that the kit's print tool (print.sh) writes for a claim and what wip/tools/xprint.py prints, those that this claim reaches, and this work's own texts.
import Derived.Below
import Derived.Deep.Draws
import Derived.Deep.AppendLies
import Derived.Maps.AppendAt
import Derived.OwnWalk
import Derived.Laws.BytesArg
import Derived.Laws.MakeOwn
import Derived.Laws.OwnMore
import Derived.Deep.OwnRows
import Derived.Tactics
import Derived.Lib.ConvBytes
import Derived.Laws.Slices
import Derived.WalkKit
import Derived.KernelRfl
import Derived.RowKit3
import Derived.Deep.LoopGhost
import Derived.Deep.QuietTactic
import Derived.BigQuiet
import Derived.WideLaws
import Derived.Deep.DeepCutAuto
import Derived.Deep.CutBlock
import Derived.Deep.RegionHeld3
import Derived.Laws.Rows
import Derived.Lib.AppendStr
import Derived.ArgAppend
import Derived.Laws.IdiomCopy
import Derived.RowKit
import Derived.OrdersHeld
import Derived.Laws.BitsLemmas
import Derived.Laws.StructEq
import Derived.Test.YtaheamdoldiojaaProg
import Derived.Laws.CopyRow
import Derived.Laws.CopyOwn
import Derived.Outline
import Derived.StillTailTactics
import Derived.RegionTactic
import Derived.BigRegion
import Derived.Laws.EntriesVeiled
import Derived.Laws.Externs
import Derived.RangeFuncBox
import Derived.RangeFuncNested
import Derived.RangeFuncBound
import Derived.RangeFuncCalls
import Derived.RangeFuncLeaves
import Derived.Shelf.Abstract
import Derived.Shelf.RegionOpen
import Derived.OwnWalkIn
import Derived.TacticsInMore
import Derived.LoopNIn
import Derived.LoopIn
import Derived.Sort.QuietIn
import Derived.Sort.LoopGhostIn
import Derived.Deep.Slices
import Derived.OpenShut
import Derived.Test.YtaheamdoldiojaaRows
import Derived.ProofKit
import Derived.ShutString
import Derived.ChangeOld
import Derived.SizedLaws
import Derived.Carry
import Derived.Test.YtaheamdoldiojaaKSnd4
set_option linter.unusedVariables false
set_option linter.unusedSimpArgs false
namespace Go.Proofs.YtaheamdoldiojaaW.PrintWords
open Go.RowKit
section
variable {P : Program} {ops : Array Oper} {o : Oper} {a : Act} {Q : Exit → Act → World → Prop} {K : Act → World → Prop}
theorem step_append_cells {w0 W : World} (base : Nat) (hw : Region.wanted o (yielded ops a.tmps) = true) (s x : Operand) (t e : TypeId) (z : Value) (size bytes : Nat)
  (ho : o.op = .call { callee := .builtin .append, args := #[s, x], argTypes := #[t, t] })
  (ht : P.underlying t = some (.slice e)) (hinfo : (P.info? e).map (fun i => (i.zero, i.size, i.bytes)) = some (some z, size, bytes)) (hz : z.cells.size = size) (hs0 : 0 < size) (hb0 : 0 < bytes)
  (v : Value) (n : Nat) (xs ys : List Value) (hs : a.eval s = v) (hx : a.eval x = .slice (some ⟨W.heap.size, 0, none⟩) 1 1) (hys : ys.length = size) (h1 : ∀ u ∈ ys, u.oneCell' = true)
  (HO : W.ownsRow base e size v n xs) (HB : Below base w0 W) (hbase : base ≤ W.heap.size) (hl : (n + 1) * bytes ≤ 140737488355328)
  (h : ∀ v1 w1, w1.ownsRow base e size v1 (n + 1) (xs ++ ys) → Below base w0 w1 → W.grownBy w1 v.ownBlock → (v1.ownBlock = v.ownBlock ∨ ∃ b, v1.ownBlock = some b ∧ W.heap.size ≤ b) → K (a.put o.dst v1) w1) :
  if Region.wanted o (yielded ops a.tmps) = true then Oper.wp P o a (W.alloc (.cells ys.toArray e)) K Q else K (a.put o.dst undef) (W.alloc (.cells ys.toArray e)) := by
 obtain ⟨i0, hi, hzz⟩ := Option.map_eq_some_iff.1 hinfo
 simp only [Prod.mk.injEq] at hzz
 obtain ⟨hz0, hz1, hz2⟩ := hzz
 have hlen : n + 1 ≤ 140737488355328 := Nat.le_trans (Nat.le_mul_of_pos_right _ hb0) hl
 rw [if_pos hw]
 obtain ⟨v1, w1, hr, hown, hg, _, hat⟩ := run_append_own_at (P := P) (W.alloc (.cells ys.toArray e)) base t o.type e i0 z size bytes ht hi hz0 hz1 hz2 hz hs0 v n xs (HO.alloc _) ⟨W.heap.size, 0, none⟩ 1 1 ys (by rw [hys]; simp)
  (by simpa using World.news_of_block (cs := ys.toArray) (t := e) (fr := (0, 0)) (heap_alloc_new W (.cells ys.toArray e))) h1 (by simp only [maxLen]; omega) hl (by simp; omega)
 unfold Oper.wp execOp
 simp only [ho, resolve, invoke, builtin, Sem.run_bind, Sem.run_pure, Result.andThen_ok, List.map_toArray, List.map_cons, List.map_nil, hs, hx, hr]
 refine h v1 w1 hown ((HB.alloc hbase _).grown hg (by simp; omega) (own_base HO)) (World.grownBy.trans (World.grownBy_alloc W _ _) hg) ?_
 rcases hat with hat | hat
 ·exact .inl hat
 exact .inr ⟨_, hat, by simp⟩
end
namespace Kd
section
variable {P : Program} {ops : Array Oper} {o : Oper} {a : Act} {Q : Exit → Act → World → Prop} {Kc : Act → World → Prop} {α : Type}
theorem R_append_step (d : Kd α) {w0 W : World} (base : Nat) (hw : Region.wanted o (yielded ops a.tmps) = true) (s x : Operand) (t e : TypeId) (z : Value) (bytes : Nat)
  (ho : o.op = .call { callee := .builtin .append, args := #[s, x], argTypes := #[t, t] })
  (ht : P.underlying t = some (.slice e)) (hinfo : (P.info? e).map (fun i => (i.zero, i.size, i.bytes)) = some (some z, d.sz, bytes)) (hz : z.cells.size = d.sz) (hs0 : 0 < d.sz) (hb0 : 0 < bytes)
  (v : Value) (xs : List α) (p : α) (cs : List Value) (ok okp : Nat → Prop) (hs : a.eval s = v) (hx : a.eval x = .slice (some ⟨W.heap.size, 0, none⟩) 1 1) (hp : d.M W base okp p cs) (hokp : ∀ k, okp k → ok k ∧ some k ≠ v.ownBlock) (hfresh : ∀ k, W.heap.size ≤ k → ok k)
  (HO : d.R e W base ok v xs) (HB : Below base w0 W) (hbase : base ≤ W.heap.size) (hl : (xs.length + 1) * bytes ≤ 140737488355328)
  (h : ∀ v1 w1, d.R e w1 base ok v1 (xs ++ [p]) → Below base w0 w1 → W.grownBy w1 v.ownBlock → (v1.ownBlock = v.ownBlock ∨ ∃ b, v1.ownBlock = some b ∧ W.heap.size ≤ b) → Kc (a.put o.dst v1) w1) :
  if Region.wanted o (yielded ops a.tmps) = true then Oper.wp P o a (W.alloc (.cells cs.toArray e)) Kc Q else Kc (a.put o.dst undef) (W.alloc (.cells cs.toArray e)) := by
 obtain ⟨h0, inner, hown, hr⟩ := HO
 refine step_append_cells base hw s x t e z d.sz bytes ho ht hinfo hz hs0 hb0 v xs.length inner cs hs hx (d.K_len (d.K_of_M hp)) (d.K_one (d.K_of_M hp)) hown HB hbase hl ?_
 intro v1 w1 hown1 hb1 hg1 hat1
 exact h v1 w1 (R_appended h0 hr hp hokp hfresh hown1 hg1 hat1) hb1 hg1 hat1
end
end Kd
end Go.Proofs.YtaheamdoldiojaaW.PrintWords
namespace Go.Proofs.YtaheamdoldiojaaW.PrintLast
section
variable {P : Program} {ops : Array Oper} {Q : Exit → Act → World → Prop} {md : Region.Mode} {S : World → Prop} {ds : List Nat}
theorem value_ {oi : Oper} {N : Option Tmp} {a : Act} {w w1 : World} {v : Value} {K : Act → World → Prop} (hw : Region.wanted oi (yielded ops a.tmps) = true) (hN : oi.dst = N) (hrun : (execOp a.eval oi).run P w = .ok (.value v) w1)
  (h : K (a.put N v) w1) : if Region.wanted oi (yielded ops a.tmps) = true then Oper.wp P oi a w K Q else K (a.put N undef) w := by
 rw [if_pos hw]
 subst hN
 unfold Oper.wp
 rw [hrun]
 exact h
end
end Go.Proofs.YtaheamdoldiojaaW.PrintLast
namespace Go.Proofs.Ytaheamdoldiojaa.P
open Go.RowKit Go.Proofs.YtaheamdoldiojaaW.PrintWords Go.Proofs.YtaheamdoldiojaaW.PrintLast Go.Proofs.YtaheamdoldiojaaW.PrintMore
attribute [local go_sem] max2_int min2_int max_two min_two max_three min_three max_four min_four   -- for this text's walks alone
set_option linter.unusedVariables false
set_option linter.unusedSimpArgs false
theorem info2 : (Try.prog.info? 2).map (fun i => (i.zero, i.size, i.bytes)) = some (some (.int .i64 0), 1, 8) := by kernel_rfl
theorem info43 : (Try.prog.info? 43).map (fun i => (i.zero, i.size, i.bytes)) = some (some (.slice none 0 0), 1, 24) := by kernel_rfl
structure S39 where
 f0 : Int
 f1 : Int
 f2 : Int
def k39 : Kd S39 := Kd.iso (Kd.pair (Kd.int .i64) (Kd.pair (Kd.int .i64) (Kd.int .i64))) (fun x : S39 => (x.f0, x.f1, x.f2))
theorem k39_open {w : World} {x : S39} {cs : List Value} (h : k39.K w x cs) : cs = [.int .i64 x.f0, .int .i64 x.f1, .int .i64 x.f2] := by
 obtain ⟨_, _, rfl, rfl, ⟨_, _, rfl, rfl, rfl⟩⟩ := h
 exact rfl
def rd_L15 (xs : List (List Int)) (i : Int) : (List Int) := xs.getD i.toNat ([] : List Int)
theorem at_L15 {w : World} {A : Option Addr} {n : Nat} {xs : List (List Int)} (h : Kd.C (Kd.slice 2 (Kd.int .i64)) w A n xs) (i : Int) (h0 : 0 ≤ i) (h1 : i < n) : ∃ ad A0 c0, A = some ad ∧ w.cell? (ad.add i.toNat) = some (.slice A0 (rd_L15 xs i).length c0) ∧ (rd_L15 xs i).length ≤ c0 ∧ (Kd.int .i64).C w A0 (rd_L15 xs i).length (rd_L15 xs i) := by
 obtain ⟨ad, c, e, _, hK, hc0⟩ := Kd.C_get h ([] : List Int) i h0 h1
 have hc : ∀ j u, c[j]? = some u → w.cell? (ad.add (i.toNat * 1 + j)) = some u := hc0
 obtain ⟨A0, c0, rfl, l0, g0⟩ := hK
 exact ⟨ad, A0, c0, e, by have hq := hc 0 _ rfl; rwa [Nat.mul_one, Nat.add_zero] at hq, l0, g0⟩
def isobathlaw01_Part.f (a0_0 : Int) (a0_1 : Int) (a1 : Int) : Option (Int) := some (wrap64 (a0_0 + (wrap64 (Int.tdiv (wrap64 ((wrap64 (a0_1 - a0_0)) * (wrap64 (a1)))) 65535))))
set_option maxHeartbeats 8000000 in
set_option maxRecDepth 100000 in
theorem isobathlaw01_Part.calls (a0_0 : Int) (a0_1 : Int) (a1 : Int) (r : Int) (w : World) (h : isobathlaw01_Part.f a0_0 a0_1 a1 = some r) :
  Calls Try.prog 19 #[.agg #[.int .i64 a0_0, .int .i64 a0_1], .int .u16 a1] w fun e w' => e = .returned (.int .i64 r) ∧ Below w.heap.size w w' := by
 have hu24 := Try.underlying24
 have HB := zam (Below.refl w.heap.size w)
 have H : (some (wrap64 (a0_0 + (wrap64 (Int.tdiv (wrap64 ((wrap64 (a0_1 - a0_0)) * (wrap64 (a1)))) 65535))))) = some r := h
 clear h
 obtain rfl := zsi H
 go_enter Try.func19, Try.ntmps19
 go_wp2_with (first | ((with_reducible refine zgd (N := 2) rfl ?_); refine box_event ?hg (N := 2) ?hd (cs := #[.int .i64 a0_0, .int .i64 a0_1]) (t := 24) ?hr ?_; (case hd => rfl); (case hg => rfl); (case hr => first | (go_simp; done) | (go_simp; rfl)); intro gb101 hg w3 hbox hb; have n0_ := zam (zbt (by repeat (first | (with_reducible first | exact HB.out | apply zba | apply zbn | apply zb1) | exact HB.out)) hb); have n1_ := zam (hbox); have n2_ := zam ((by rw [hg]; exact (zbz (by repeat (first | (with_reducible first | exact HB.out | apply zba | apply zbn | apply zb1) | exact HB.out))) : w.heap.size ≤ gb101)); have n3_ := zam ((by rw [hg]; exact (zbz (by repeat (first | (with_reducible first | exact HB.out | apply zba | apply zbn | apply zb1) | exact HB.out))) : w.heap.size ≤ gb101)); clear HB; have HB := n0_; have BK101 := n1_; have GW101 := n2_; have GE101 := n3_; clear n0_ n1_ n2_ n3_; clear hb hbox hg; have hcz4_0 : w3.cell? ⟨gb101, 0, none⟩ = some (.int .i64 a0_0) := (zkc BK101.out 0).trans rfl; have hcz4_1 : w3.cell? ⟨gb101, 1, none⟩ = some (.int .i64 a0_1) := (zkc BK101.out 1).trans rfl; have hfz4_0 := zkz BK101.out 0; have hfz4_1 := zkz BK101.out 1))
 go_ret
 exact ⟨by first | rfl | (simp [errW_none, errW_some] <;> rfl) | (simp [*, errW_none, errW_some] <;> rfl), by repeat (first | (with_reducible first | exact HB.out | apply zba | apply zbn | apply zb1 | refine zbs ?_ GE101.out) | exact HB.out)⟩
set_option maxHeartbeats 8000000 in
set_option maxRecDepth 100000 in
theorem isobathref01_Within.calls (a0 : Int) (a1 : Int) (a2 : Int) (r : Bool) (w : World) (h : isobathref01_Within.f a0 a1 a2 = some r) :
  Calls Try.prog 60 #[.int .i64 a0, .int .i64 a1, .int .i64 a2] w fun e w' => e = .returned (.bool r) ∧ Drawn0 w w' := by
 have H : (if a0 ≥ a1 then (some (decide (a0 ≤ a2))) else (some false)) = some r := h
 clear h
 by_cases c4 : a0 ≥ a1
 ·rw [if_pos c4] at H
  have c4b0 : decide (a1 ≤ a0) = true := zdt c4
  clear c4
  obtain rfl := zsi H
  go_enter Try.func60, Try.ntmps60
  go_wp2
  go_ret
  exact ⟨by first | rfl | (simp; done) | (simp [*]; done), by repeat (first | exact Drawn0.refl _ | apply Drawn0.step)⟩
 rw [if_neg c4] at H
 have c4b0 : decide (a1 ≤ a0) = false := zdf c4
 clear c4
 obtain rfl := zsi H
 go_enter Try.func60, Try.ntmps60
 go_wp2
 go_ret
 exact ⟨by first | rfl | (simp; done) | (simp [*]; done), by repeat (first | exact Drawn0.refl _ | apply Drawn0.step)⟩
set_option maxHeartbeats 8000000 in
set_option maxRecDepth 100000 in
theorem isobathref01_Valid.calls (a0_0 : Int) (a0_1 : Int) (r : Bool) (w : World) (h : isobathref01_Valid.f a0_0 a0_1 = some r) :
  Calls Try.prog 18 #[.agg #[.int .i64 a0_0, .int .i64 a0_1]] w fun e w' => e = .returned (.bool r) ∧ Below w.heap.size w w' := by
 have hu24 := Try.underlying24
 have HB := zam (Below.refl w.heap.size w)
 have H : (if a0_0 ≤ a0_1 then ((isobathref01_Within.f a0_0 (-1073741824) 1073741824).bind fun t102 => (if t102 = true then ((isobathref01_Within.f a0_1 (-1073741824) 1073741824).bind fun t103 => (some t103)) else (some false))) else (some false)) = some r := h
 clear h
 by_cases c2 : a0_0 ≤ a0_1
 ·rw [if_pos c2] at H
  have c2b0 : decide (a0_0 ≤ a0_1) = true := zdt c2
  clear c2
  replace H := Option.bind_eq_some_iff.mp H
  obtain ⟨t102, A30, H⟩ := H
  replace H : (if t102 = true then ((isobathref01_Within.f a0_1 (-1073741824) 1073741824).bind fun t103 => (some t103)) else (some false)) = some r := H
  have A3 := zam A30
  clear A30
  by_cases c4 : t102 = true
  ·subst c4
   have H1 : ((isobathref01_Within.f a0_1 (-1073741824) 1073741824).bind fun t103 => (some t103)) = some r := by rw [if_pos rfl] at H; exact H
   clear H
   have H := H1
   clear H1
   replace H := Option.bind_eq_some_iff.mp H
   obtain ⟨t103, A50, H⟩ := H
   replace H : (some t103) = some r := H
   have A5 := zam A50
   clear A50
   obtain rfl := zsi H
   go_enter Try.func18, Try.ntmps18
   go_wp2_with (first | ((with_reducible refine zgd (N := 1) rfl ?_); refine box_event ?hg (N := 1) ?hd (cs := #[.int .i64 a0_0, .int .i64 a0_1]) (t := 24) ?hr ?_; (case hd => rfl); (case hg => rfl); (case hr => first | (go_simp; done) | (go_simp; rfl)); intro gb101 hg w6 hbox hb; have n0_ := zam (zbt (by repeat (first | (with_reducible first | exact HB.out | apply zba | apply zbn | apply zb1) | exact HB.out)) hb); have n1_ := zam (hbox); have n2_ := zam ((by rw [hg]; exact (zbz (by repeat (first | (with_reducible first | exact HB.out | apply zba | apply zbn | apply zb1) | exact HB.out))) : w.heap.size ≤ gb101)); have n3_ := zam ((by rw [hg]; exact (zbz (by repeat (first | (with_reducible first | exact HB.out | apply zba | apply zbn | apply zb1) | exact HB.out))) : w.heap.size ≤ gb101)); clear HB; have HB := n0_; have BK101 := n1_; have GW101 := n2_; have GE101 := n3_; clear n0_ n1_ n2_ n3_; clear hb hbox hg; have hcz7_0 : w6.cell? ⟨gb101, 0, none⟩ = some (.int .i64 a0_0) := (zkc BK101.out 0).trans rfl; have hcz7_1 : w6.cell? ⟨gb101, 1, none⟩ = some (.int .i64 a0_1) := (zkc BK101.out 1).trans rfl; have hfz7_0 := zkz BK101.out 0; have hfz7_1 := zkz BK101.out 1) | (go_at_call 60; (with_reducible refine (isobathref01_Within.calls a0_0 (-1073741824) 1073741824 true _ A3.out).mono ?_); rintro e w' ⟨rfl, ⟨nd, rfl⟩⟩) | (go_at_call 60; (with_reducible refine (isobathref01_Within.calls a0_1 (-1073741824) 1073741824 t103 _ A5.out).mono ?_); rintro e w' ⟨rfl, ⟨nd, rfl⟩⟩))
   go_ret
   exact ⟨by first | rfl | (simp [errW_none, errW_some] <;> rfl) | (simp [*, errW_none, errW_some] <;> rfl), by repeat (first | (with_reducible first | exact HB.out | apply zba | apply zbn | apply zb1 | refine zbs ?_ GE101.out) | exact HB.out)⟩
  replace c4 := Bool.eq_false_iff.mpr c4
  subst c4
  have H1 : (some false) = some r := by rw [if_neg (show ¬ (false = true) by decide)] at H; exact H
  clear H
  have H := H1
  clear H1
  obtain rfl := zsi H
  go_enter Try.func18, Try.ntmps18
  go_wp2_with (first | ((with_reducible refine zgd (N := 1) rfl ?_); refine box_event ?hg (N := 1) ?hd (cs := #[.int .i64 a0_0, .int .i64 a0_1]) (t := 24) ?hr ?_; (case hd => rfl); (case hg => rfl); (case hr => first | (go_simp; done) | (go_simp; rfl)); intro gb101 hg w8 hbox hb; have n0_ := zam (zbt (by repeat (first | (with_reducible first | exact HB.out | apply zba | apply zbn | apply zb1) | exact HB.out)) hb); have n1_ := zam (hbox); have n2_ := zam ((by rw [hg]; exact (zbz (by repeat (first | (with_reducible first | exact HB.out | apply zba | apply zbn | apply zb1) | exact HB.out))) : w.heap.size ≤ gb101)); have n3_ := zam ((by rw [hg]; exact (zbz (by repeat (first | (with_reducible first | exact HB.out | apply zba | apply zbn | apply zb1) | exact HB.out))) : w.heap.size ≤ gb101)); clear HB; have HB := n0_; have BK101 := n1_; have GW101 := n2_; have GE101 := n3_; clear n0_ n1_ n2_ n3_; clear hb hbox hg; have hcz9_0 : w8.cell? ⟨gb101, 0, none⟩ = some (.int .i64 a0_0) := (zkc BK101.out 0).trans rfl; have hcz9_1 : w8.cell? ⟨gb101, 1, none⟩ = some (.int .i64 a0_1) := (zkc BK101.out 1).trans rfl; have hfz9_0 := zkz BK101.out 0; have hfz9_1 := zkz BK101.out 1) | (go_at_call 60; (with_reducible refine (isobathref01_Within.calls a0_0 (-1073741824) 1073741824 false _ A3.out).mono ?_); rintro e w' ⟨rfl, ⟨nd, rfl⟩⟩))
  go_ret
  exact ⟨by first | rfl | (simp [errW_none, errW_some] <;> rfl) | (simp [*, errW_none, errW_some] <;> rfl), by repeat (first | (with_reducible first | exact HB.out | apply zba | apply zbn | apply zb1 | refine zbs ?_ GE101.out) | exact HB.out)⟩
 rw [if_neg c2] at H
 have c2b0 : decide (a0_0 ≤ a0_1) = false := zdf c2
 clear c2
 obtain rfl := zsi H
 go_enter Try.func18, Try.ntmps18
 go_wp2_with (first | ((with_reducible refine zgd (N := 1) rfl ?_); refine box_event ?hg (N := 1) ?hd (cs := #[.int .i64 a0_0, .int .i64 a0_1]) (t := 24) ?hr ?_; (case hd => rfl); (case hg => rfl); (case hr => first | (go_simp; done) | (go_simp; rfl)); intro gb101 hg w10 hbox hb; have n0_ := zam (zbt (by repeat (first | (with_reducible first | exact HB.out | apply zba | apply zbn | apply zb1) | exact HB.out)) hb); have n1_ := zam (hbox); have n2_ := zam ((by rw [hg]; exact (zbz (by repeat (first | (with_reducible first | exact HB.out | apply zba | apply zbn | apply zb1) | exact HB.out))) : w.heap.size ≤ gb101)); have n3_ := zam ((by rw [hg]; exact (zbz (by repeat (first | (with_reducible first | exact HB.out | apply zba | apply zbn | apply zb1) | exact HB.out))) : w.heap.size ≤ gb101)); clear HB; have HB := n0_; have BK101 := n1_; have GW101 := n2_; have GE101 := n3_; clear n0_ n1_ n2_ n3_; clear hb hbox hg; have hcz11_0 : w10.cell? ⟨gb101, 0, none⟩ = some (.int .i64 a0_0) := (zkc BK101.out 0).trans rfl; have hcz11_1 : w10.cell? ⟨gb101, 1, none⟩ = some (.int .i64 a0_1) := (zkc BK101.out 1).trans rfl; have hfz11_0 := zkz BK101.out 0; have hfz11_1 := zkz BK101.out 1))
 go_ret
 exact ⟨by first | rfl | (simp [errW_none, errW_some] <;> rfl) | (simp [*, errW_none, errW_some] <;> rfl), by repeat (first | (with_reducible first | exact HB.out | apply zba | apply zbn | apply zb1 | refine zbs ?_ GE101.out) | exact HB.out)⟩
theorem Sp.checkTrack_1 (a b : Int) {k : Nat} (hk : 20 ≤ k) : sound_checkTrack_1.f k a b = some (!decide (Bo.v a b)) := by
 unfold sound_checkTrack_1.f bound_Check.f
 rw [Bo.check1 a b hk]
 by_cases h : Bo.v a b
 ·simp [h]
 simp [h]
theorem Sp.track_l0 (xs : List S24) (hl : xs.length ≤ 9223372036854775807) : ∀ (n k i : Nat), i + n = xs.length → n + 20 < k → ∃ t, slices_IndexFunc_Span_sound_checkTrack_1.l0 k xs (xs.length : Int) (i : Int) = some t ∧ (0 ≤ t ↔ (xs.drop i).any (fun s => !Sp.v s) = true)
 | 0, k, i, hi, hk => by
  obtain ⟨k, rfl⟩ : ∃ m, k = m + 1 := ⟨k - 1, by omega⟩
  rw [slices_IndexFunc_Span_sound_checkTrack_1.l0, if_neg (by omega), List.drop_eq_nil_of_le (by omega)]
  exact ⟨_, rfl, by simp⟩
 | n + 1, k, i, hi, hk => by
  obtain ⟨k, rfl⟩ : ∃ m, k = m + 1 := ⟨k - 1, by omega⟩
  have hlt : i < xs.length := by omega
  rw [slices_IndexFunc_Span_sound_checkTrack_1.l0, if_pos (by omega), if_pos (by omega), if_pos (by omega), Sp.rdT xs i hlt, Sp.checkTrack_1 _ _ (by omega), Option.bind_some, drop_cons hlt, List.any_cons]
  by_cases h : Bo.v xs[i].f0 xs[i].f1
  ·rw [if_neg (by simp [h]), wrap_succ hlt hl]
   obtain ⟨t, e, h2⟩ := Sp.track_l0 xs hl n k (i + 1) (by omega) (by omega)
   exact ⟨t, e, by rw [h2]; simp [Sp.v, h]⟩
  rw [if_pos (by simp [h])]
  exact ⟨_, rfl, by simp [Sp.v, h]⟩
theorem Sp.track_b (l : List S24) {k : Nat} (hk : 300 ≤ k) : sound_checkTrack.f k l = some (Sp.track l) := by
 unfold sound_checkTrack.f Sp.track
 by_cases h : (l.length : Int) > 256
 ·rw [if_pos h, if_pos h]
 rw [if_neg h, if_neg h]
 unfold slices_ContainsFunc_Span_sound_checkTrack_1.f slices_IndexFunc_Span_sound_checkTrack_1.f
 obtain ⟨t, e, h2⟩ := Sp.track_l0 l (by omega) l.length k 0 (by omega) (by omega)
 rw [show (0 : Int) = ((0 : Nat) : Int) from rfl, e, Option.bind_some, Option.bind_some]
 rw [List.drop_zero, Sp.any_not] at h2
 by_cases c : l.all Sp.v = true
 ·rw [if_neg (by simp [c] at h2; simpa using h2), if_pos c]
 rw [if_pos (by simp [c] at h2; simpa using h2), if_neg c]
theorem Sp.set_mid {α : Type} (xs : List α) (a b : α) (n : Nat) : (xs ++ List.replicate (n + 1) a).set xs.length b = (xs ++ [b]) ++ List.replicate n a := by
 rw [List.set_append_right _ _ (by omega), Nat.sub_self, List.replicate_succ]
 simp
theorem Sp.between (x lo hi : Int) : sound_between.f x lo hi = some (decide (lo ≤ x ∧ x ≤ hi)) := by
 unfold sound_between.f
 by_cases h : lo ≤ x
 ·rw [if_pos (by omega)]
  simp [h]
 rw [if_neg (by omega)]
 simp [h]
mutual
def isobathlaw07_alarm.l0 : Nat → List (List Int) → Int → Int → Int → Int → Int → Int → Option (Bool)
 | 0, _, _, _, _, _, _, _ => none
 | k + 1, x0, x2, x7, x8, x102000, x102001, x102002 => if x8 < (x0.length : Int) then (isobathlaw07_alarm.l1 k x0 x2 x7 x8 0 false 0 x102000 x102001 x102002) else (some (decide (x7 ≥ x102002)))
def isobathlaw07_alarm.l1 : Nat → List (List Int) → Int → Int → Int → Int → Bool → Int → Int → Int → Int → Option (Bool)
 | 0, _, _, _, _, _, _, _, _, _, _ => none
 | k + 1, x0, x2, x7, x8, x9, x10, x11, x102000, x102001, x102002 => if x11 ≤ x2 then (if 0 ≤ x8 then (if x8 < (x0.length : Int) then (isobathlaw07_alarm.j2 k x0 x2 x7 x8 x9 x10 x11 (decide (x11 < ((rd_L15 x0 x8).length : Int))) x102000 x102001 x102002) else (none)) else (none)) else (isobathlaw07_alarm.j2 k x0 x2 x7 x8 x9 x10 x11 false x102000 x102001 x102002)
def isobathlaw07_alarm.j2 : Nat → List (List Int) → Int → Int → Int → Int → Bool → Int → Bool → Int → Int → Int → Option (Bool)
 | 0, _, _, _, _, _, _, _, _, _, _, _ => none
 | k + 1, x0, x2, x7, x8, x9, x10, x11, x29, x102000, x102001, x102002 => if x29 = true then (if 0 ≤ x8 then (if x8 < (x0.length : Int) then (if 0 ≤ x11 then (if x11 < ((rd_L15 x0 x8).length : Int) then (if (mx (rd (rd_L15 x0 x8) x11) (wrap64 (-(rd (rd_L15 x0 x8) x11)))) < x102000 then (if x10 = true then (isobathlaw07_alarm.l1 k x0 x2 x7 x8 0 true (wrap64 (x11 + 1)) x102000 x102001 x102002) else (isobathlaw07_alarm.l1 k x0 x2 x7 x8 0 (decide (0 ≥ x102001)) (wrap64 (x11 + 1)) x102000 x102001 x102002)) else (if x10 = true then (isobathlaw07_alarm.l1 k x0 x2 x7 x8 (wrap64 (x9 + 1)) true (wrap64 (x11 + 1)) x102000 x102001 x102002) else (isobathlaw07_alarm.l1 k x0 x2 x7 x8 (wrap64 (x9 + 1)) (decide ((wrap64 (x9 + 1)) ≥ x102001)) (wrap64 (x11 + 1)) x102000 x102001 x102002))) else (none)) else (none)) else (none)) else (none)) else (if x10 = true then (isobathlaw07_alarm.l0 k x0 x2 (wrap64 (x7 + 1)) (wrap64 (x8 + 1)) x102000 x102001 x102002) else (isobathlaw07_alarm.l0 k x0 x2 x7 (wrap64 (x8 + 1)) x102000 x102001 x102002))
end
def isobathlaw07_alarm.f (k : Nat) (l0 : List (List Int)) (a1_0 : Int) (a1_1 : Int) (a1_2 : Int) (a2 : Int) : Option (Bool) := isobathlaw07_alarm.l0 k l0 a2 0 0 a1_0 a1_1 a1_2
set_option maxHeartbeats 8000000 in
set_option maxRecDepth 100000 in
theorem isobathlaw07_alarm.calls (k : Nat) (A0 : Option Addr) (c0 : Nat) (l0 : List (List Int)) (a1_0 : Int) (a1_1 : Int) (a1_2 : Int) (a2 : Int) (r : Bool) (w : World) (hr0 : Kd.C (Kd.slice 2 (Kd.int .i64)) w A0 l0.length l0) (hc0 : l0.length ≤ c0) (h : isobathlaw07_alarm.f k l0 a1_0 a1_1 a1_2 a2 = some r) :
  Calls Try.prog 22 #[.slice A0 l0.length c0, .agg #[.int .i64 a1_0, .int .i64 a1_1, .int .i64 a1_2], .int .i64 a2] w fun e w' => e = .returned (.bool r) ∧ Below w.heap.size w w' := by
 have hu39 := Try.underlying39
 have HR0 := zam hr0
 have HC0 := zam hc0
 clear hr0 hc0
 have HB := zam (Below.refl w.heap.size w)
 have H : (isobathlaw07_alarm.l0 k l0 a2 0 0 a1_0 a1_1 a1_2) = some r := h
 clear h
 have H' := zam H
 clear H
 go_enter Try.func22, Try.ntmps22
 go_wp2_with (first | ((with_reducible refine zgd (N := 4) rfl ?_); (try (refine gate_guard (by rfl) ?_; dsimp only)); refine box_event ?hg (N := 4) ?hd (cs := #[.int .i64 a1_0, .int .i64 a1_1, .int .i64 a1_2]) (t := 39) ?hr ?_; (case hd => rfl); (case hg => rfl); (case hr => first | (go_simp; done) | (go_simp; rfl)); intro gb101 hg w4 hbox hb; have n0_ := zam (zbt (by repeat (first | (with_reducible first | exact HB.out | apply zba | apply zbn | apply zb1) | exact HB.out)) hb); have n1_ := zam (hbox); have n2_ := zam ((by rw [hg]; exact (zbz (by repeat (first | (with_reducible first | exact HB.out | apply zba | apply zbn | apply zb1) | exact HB.out))) : w.heap.size ≤ gb101)); have n3_ := zam ((by rw [hg]; exact (zbz (by repeat (first | (with_reducible first | exact HB.out | apply zba | apply zbn | apply zb1) | exact HB.out))) : w.heap.size ≤ gb101)); clear HB; have HB := n0_; have BK101 := n1_; have GW101 := n2_; have GE101 := n3_; clear n0_ n1_ n2_ n3_; clear hb hbox hg))
 repeat (go_quiet (first | ((with_reducible refine zgd (N := 4) rfl ?_); (try (refine gate_guard (by rfl) ?_; dsimp only)); refine box_event ?hg (N := 4) ?hd (cs := #[.int .i64 a1_0, .int .i64 a1_1, .int .i64 a1_2]) (t := 39) ?hr ?_; (case hd => rfl); (case hg => rfl); (case hr => first | (go_simp; done) | (go_simp; rfl)); intro gb101 hg w4 hbox hb; have n0_ := zam (zbt (by repeat (first | (with_reducible first | exact HB.out | apply zba | apply zbn | apply zb1) | exact HB.out)) hb); have n1_ := zam (hbox); have n2_ := zam ((by rw [hg]; exact (zbz (by repeat (first | (with_reducible first | exact HB.out | apply zba | apply zbn | apply zb1) | exact HB.out))) : w.heap.size ≤ gb101)); have n3_ := zam ((by rw [hg]; exact (zbz (by repeat (first | (with_reducible first | exact HB.out | apply zba | apply zbn | apply zb1) | exact HB.out))) : w.heap.size ≤ gb101)); clear HB; have HB := n0_; have BK101 := n1_; have GW101 := n2_; have GE101 := n3_; clear n0_ n1_ n2_ n3_; clear hb hbox hg)); try go_wp2_with (first | ((with_reducible refine zgd (N := 4) rfl ?_); (try (refine gate_guard (by rfl) ?_; dsimp only)); refine box_event ?hg (N := 4) ?hd (cs := #[.int .i64 a1_0, .int .i64 a1_1, .int .i64 a1_2]) (t := 39) ?hr ?_; (case hd => rfl); (case hg => rfl); (case hr => first | (go_simp; done) | (go_simp; rfl)); intro gb101 hg w4 hbox hb; have n0_ := zam (zbt (by repeat (first | (with_reducible first | exact HB.out | apply zba | apply zbn | apply zb1) | exact HB.out)) hb); have n1_ := zam (hbox); have n2_ := zam ((by rw [hg]; exact (zbz (by repeat (first | (with_reducible first | exact HB.out | apply zba | apply zbn | apply zb1) | exact HB.out))) : w.heap.size ≤ gb101)); have n3_ := zam ((by rw [hg]; exact (zbz (by repeat (first | (with_reducible first | exact HB.out | apply zba | apply zbn | apply zb1) | exact HB.out))) : w.heap.size ≤ gb101)); clear HB; have HB := n0_; have BK101 := n1_; have GW101 := n2_; have GE101 := n3_; clear n0_ n1_ n2_ n3_; clear hb hbox hg)))
 go_loopg [7, 8] k (fun kq v7 v8 w' => ∃ (x7_1 : Int) (x8_1 : Int), v7 = .int .i64 x7_1 ∧ v8 = .int .i64 x8_1 ∧ Aside0 (isobathlaw07_alarm.l0 kq l0 a2 x7_1 x8_1 a1_0 a1_1 a1_2 = some r) ∧ Aside0 (kq ≤ k) ∧ Aside0 (w'.heap[gb101]? = some (.cells #[.int .i64 a1_0, .int .i64 a1_1, .int .i64 a1_2] 39 (0, 0))) ∧ Aside0 (Below w.heap.size w w'))
 case atStart => exact ⟨(0), (0), (by first | rfl | (simp; done) | (simp [*]; done)), (by first | rfl | (simp; done) | (simp [*]; done)), H', ⟨Nat.le_refl _⟩, ⟨by (with_reducible repeat (first | refine zkn ?_ _ | refine zkd ?_ | refine zka ?_ _)); exact BK101.out⟩, ⟨by repeat (first | (with_reducible first | exact HB.out | apply zba | apply zbn | apply zb1 | refine zbs ?_ GE101.out) | exact HB.out)⟩⟩
 case round =>
  clear H'
  try clear c2
  try clear p2
  obtain ⟨x7_1, x8_1, rfl, rfl, HA, HK1, BK101, HB⟩ := hrel
  cases gk with
  | zero => exact absurd HA.out (by simp [isobathlaw07_alarm.l0])
  | succ k1 =>
   have H := HA.out
   clear HA
   simp only [isobathlaw07_alarm.l0] at H
   by_cases c5 : x8_1 < (l0.length : Int)
   ·rw [if_pos c5] at H
    have c5b0 : decide (x8_1 < (l0.length : Int)) = true := zdt c5
    clear c5
    have H' := zam H
    clear H
    go_wp2
    repeat (go_quiet (fail); try go_wp2)
    go_loopg [9, 10, 11] k1 (fun kq v9 v10 v11 w' => ∃ (x9_2 : Int) (x10_2 : Bool) (x11_2 : Int), v9 = .int .i64 x9_2 ∧ v10 = .bool x10_2 ∧ v11 = .int .i64 x11_2 ∧ Aside0 (isobathlaw07_alarm.l1 kq l0 a2 x7_1 x8_1 x9_2 x10_2 x11_2 a1_0 a1_1 a1_2 = some r) ∧ Aside0 (kq ≤ k1) ∧ Aside0 (w'.heap[gb101]? = some (.cells #[.int .i64 a1_0, .int .i64 a1_1, .int .i64 a1_2] 39 (0, 0))) ∧ Aside0 (Below w.heap.size w w'))
    case atStart => exact ⟨(0), (false), (0), (by first | rfl | (simp; done) | (simp [*]; done)), (by first | rfl | (simp; done) | (simp [*]; done)), (by first | rfl | (simp; done) | (simp [*]; done)), H', ⟨Nat.le_refl _⟩, ⟨by (with_reducible repeat (first | refine zkn ?_ _ | refine zkd ?_ | refine zka ?_ _)); exact BK101.out⟩, ⟨by repeat (first | (with_reducible first | exact HB.out | apply zba | apply zbn | apply zb1 | refine zbs ?_ GE101.out) | exact HB.out)⟩⟩
    case round =>
     clear H'
     try clear c2
     try clear p2
     try clear c5
     try clear c5b0
     try clear p2
     obtain ⟨x9_2, x10_2, x11_2, rfl, rfl, rfl, HA, HK2, BK101, HB⟩ := hrel
     cases gk with
     | zero => exact absurd HA.out (by simp [isobathlaw07_alarm.l1])
     | succ k2 =>
      have H := HA.out
      clear HA
      simp only [isobathlaw07_alarm.l1] at H
      have HC6 := zam H
      clear H
      go_upto_region 7 with (fail)
      repeat (go_quiet (fail); go_upto_region 7 with (fail))
      go_cut [29] (fun v29 wc => ∃ (kq : Nat) (x29_5 : Bool), v29 = .bool x29_5 ∧ Aside0 (isobathlaw07_alarm.j2 kq l0 a2 x7_1 x8_1 x9_2 x10_2 x11_2 x29_5 a1_0 a1_1 a1_2 = some r) ∧ Aside0 (kq ≤ k2) ∧ Aside0 (wc.heap[gb101]? = some (.cells #[.int .i64 a1_0, .int .i64 a1_1, .int .i64 a1_2] 39 (0, 0))) ∧ Aside0 (Below w.heap.size w wc))
      case first =>
       have H := HC6.out
       clear HC6
       by_cases c7 : x11_2 ≤ a2
       ·rw [if_pos c7] at H
        have c7b0 : decide (x11_2 ≤ a2) = true := zdt c7
        clear c7
        (first | rw [c7b0] | (simp only [i64_w, i32_w]; rw [c7b0]) | skip)
        by_cases c8 : 0 ≤ x8_1
        ·rw [if_pos c8] at H
         have c8b0 : decide (0 ≤ x8_1) = true := zdt c8
         clear c8
         by_cases c9 : x8_1 < (l0.length : Int)
         ·rw [if_pos c9] at H
          have c9b0 : decide (x8_1 < (l0.length : Int)) = true := zdt c9
          clear c9
          have H' := zam H
          clear H
          have p102 : 0 ≤ (x8_1 : Int) := zod (by first | (with_reducible assumption) | assumption)
          have q102 : x8_1 < (l0.length : Int) := zod (by first | (with_reducible assumption) | assumption)
          obtain ⟨ad102, A102_0, c102_0, e102, hx102_0, hl102_0, hi102_0⟩ := at_L15 HR0.out x8_1 p102 q102
          cases e102
          replace hx102_0 := (HB.out.cell (zwb w _ hx102_0)).trans hx102_0
          have HR102_0 := zam hi102_0
          have HC102_0 := zam hl102_0
          clear hi102_0 hl102_0
          replace p102 := eq_true p102
          replace q102 := eq_true q102
          go_wp2
          repeat (go_quiet (fail); try go_wp2)
          go_meet
          case rel => exact ⟨_, (decide (x11_2 < ((rd_L15 l0 x8_1).length : Int))), (by first | rfl | (simp; done) | (simp [*]; done)), H', ⟨by have := HK1.out; have := HK2.out; first | omega | exact Nat.le_refl _⟩, ⟨by (with_reducible repeat (first | refine zkn ?_ _ | refine zkd ?_ | refine zka ?_ _)); exact BK101.out⟩, ⟨by repeat (first | (with_reducible first | exact HB.out | apply zba | apply zbn | apply zb1 | refine zbs ?_ GE101.out) | exact HB.out)⟩⟩
         rw [if_neg c9] at H
         exact absurd H (by simp)
        rw [if_neg c8] at H
        exact absurd H (by simp)
       rw [if_neg c7] at H
       have c7b0 : decide (x11_2 ≤ a2) = false := zdf c7
       clear c7
       (first | rw [c7b0] | (simp only [i64_w, i32_w]; rw [c7b0]) | skip)
       have H' := zam H
       clear H
       go_wp2
       repeat (go_quiet (fail); try go_wp2)
       go_meet
       case rel => exact ⟨_, (false), (by first | rfl | (simp; done) | (simp [*]; done)), H', ⟨by have := HK1.out; have := HK2.out; first | omega | exact Nat.le_refl _⟩, ⟨by (with_reducible repeat (first | refine zkn ?_ _ | refine zkd ?_ | refine zka ?_ _)); exact BK101.out⟩, ⟨by repeat (first | (with_reducible first | exact HB.out | apply zba | apply zbn | apply zb1 | refine zbs ?_ GE101.out) | exact HB.out)⟩⟩
      case rest =>
       clear HC6
       try clear c1
       try clear p1
       try clear q1
       try clear hx1
       try clear c2
       try clear p2
       try clear c5
       try clear c5b0
       try clear c7
       try clear c7b0
       try clear c8
       try clear c8b0
       try clear c9
       try clear c9b0
       try clear hx102_0
       try clear p102
       try clear p2
       try clear q102
       obtain ⟨kq, x29_5, rfl, HA, HJ5, BK101, HB⟩ := hcut
       cases kq with
       | zero => exact absurd HA.out (by simp [isobathlaw07_alarm.j2])
       | succ kj5 =>
        have H := HA.out
        clear HA
        simp only [isobathlaw07_alarm.j2] at H
        by_cases c10 : x29_5 = true
        ·subst c10
         have H1 : (if 0 ≤ x8_1 then (if x8_1 < (l0.length : Int) then (if 0 ≤ x11_2 then (if x11_2 < ((rd_L15 l0 x8_1).length : Int) then (if (mx (rd (rd_L15 l0 x8_1) x11_2) (wrap64 (-(rd (rd_L15 l0 x8_1) x11_2)))) < a1_0 then (if x10_2 = true then (isobathlaw07_alarm.l1 kj5 l0 a2 x7_1 x8_1 0 true (wrap64 (x11_2 + 1)) a1_0 a1_1 a1_2) else (isobathlaw07_alarm.l1 kj5 l0 a2 x7_1 x8_1 0 (decide (0 ≥ a1_1)) (wrap64 (x11_2 + 1)) a1_0 a1_1 a1_2)) else (if x10_2 = true then (isobathlaw07_alarm.l1 kj5 l0 a2 x7_1 x8_1 (wrap64 (x9_2 + 1)) true (wrap64 (x11_2 + 1)) a1_0 a1_1 a1_2) else (isobathlaw07_alarm.l1 kj5 l0 a2 x7_1 x8_1 (wrap64 (x9_2 + 1)) (decide ((wrap64 (x9_2 + 1)) ≥ a1_1)) (wrap64 (x11_2 + 1)) a1_0 a1_1 a1_2))) else (none)) else (none)) else (none)) else (none)) = some r := by rw [if_pos rfl] at H; exact H
         clear H
         have H := H1
         clear H1
         by_cases c11 : 0 ≤ x8_1
         ·rw [if_pos c11] at H
          have c11b0 : decide (0 ≤ x8_1) = true := zdt c11
          clear c11
          by_cases c12 : x8_1 < (l0.length : Int)
          ·rw [if_pos c12] at H
           have c12b0 : decide (x8_1 < (l0.length : Int)) = true := zdt c12
           clear c12
           by_cases c13 : 0 ≤ x11_2
           ·rw [if_pos c13] at H
            have c13b0 : decide (0 ≤ x11_2) = true := zdt c13
            clear c13
            by_cases c14 : x11_2 < ((rd_L15 l0 x8_1).length : Int)
            ·rw [if_pos c14] at H
             have c14b0 : decide (x11_2 < ((rd_L15 l0 x8_1).length : Int)) = true := zdt c14
             clear c14
             obtain ⟨ji15, hji15⟩ : ∃ j_ : Int, (mx (rd (rd_L15 l0 x8_1) x11_2) (wrap64 (-(rd (rd_L15 l0 x8_1) x11_2)))) = j_ := ⟨_, rfl⟩
             replace H : (if (ji15) < a1_0 then (if x10_2 = true then (isobathlaw07_alarm.l1 kj5 l0 a2 x7_1 x8_1 0 true (wrap64 (x11_2 + 1)) a1_0 a1_1 a1_2) else (isobathlaw07_alarm.l1 kj5 l0 a2 x7_1 x8_1 0 (decide (0 ≥ a1_1)) (wrap64 (x11_2 + 1)) a1_0 a1_1 a1_2)) else (if x10_2 = true then (isobathlaw07_alarm.l1 kj5 l0 a2 x7_1 x8_1 (wrap64 (x9_2 + 1)) true (wrap64 (x11_2 + 1)) a1_0 a1_1 a1_2) else (isobathlaw07_alarm.l1 kj5 l0 a2 x7_1 x8_1 (wrap64 (x9_2 + 1)) (decide ((wrap64 (x9_2 + 1)) ≥ a1_1)) (wrap64 (x11_2 + 1)) a1_0 a1_1 a1_2))) = some r := by first | (rw [hji15] at H; exact H) | (simp only [hji15] at H ⊢; exact H)
             have hji15_ : (if (rd (rd_L15 l0 x8_1) x11_2) < (wrap64 (-(rd (rd_L15 l0 x8_1) x11_2))) then (wrap64 (-(rd (rd_L15 l0 x8_1) x11_2))) else (rd (rd_L15 l0 x8_1) x11_2)) = ji15 := hji15
             by_cases c16 : (ji15) < a1_0
             ·rw [if_pos c16] at H
              have c16b0 : decide ((ji15) < a1_0) = true := zdt c16
              clear c16
              by_cases c17 : x10_2 = true
              ·subst c17
               have H1 : (isobathlaw07_alarm.l1 kj5 l0 a2 x7_1 x8_1 0 true (wrap64 (x11_2 + 1)) a1_0 a1_1 a1_2) = some r := by rw [if_pos rfl] at H; exact H
               clear H
               have H := H1
               clear H1
               have H' := zam H
               clear H
               have p103 : 0 ≤ (x8_1 : Int) := zod (by first | (with_reducible assumption) | assumption)
               have q103 : x8_1 < (l0.length : Int) := zod (by first | (with_reducible assumption) | assumption)
               obtain ⟨ad103, A103_0, c103_0, e103, hx103_0, hl103_0, hi103_0⟩ := at_L15 HR0.out x8_1 p103 q103
               cases e103
               replace hx103_0 := (HB.out.cell (zwb w _ hx103_0)).trans hx103_0
               have HR103_0 := zam hi103_0
               have HC103_0 := zam hl103_0
               clear hi103_0 hl103_0
               replace p103 := eq_true p103
               replace q103 := eq_true q103
               have p104 : 0 ≤ (x11_2 : Int) := zod (by first | (with_reducible assumption) | assumption)
               have q104 : x11_2 < ((rd_L15 l0 x8_1).length : Int) := zod (by first | (with_reducible assumption) | assumption)
               obtain ⟨ad104, e104, hx104_0⟩ := Kd.at_int HR103_0.out x11_2 p104 q104
               cases e104
               replace hx104_0 := (HB.out.cell (zwb w _ hx104_0)).trans hx104_0
               replace p104 := eq_true p104
               replace q104 := eq_true q104
               have p105 : 0 ≤ (x8_1 : Int) := zod (by first | (with_reducible assumption) | assumption)
               have q105 : x8_1 < (l0.length : Int) := zod (by first | (with_reducible assumption) | assumption)
               obtain ⟨ad105, A105_0, c105_0, e105, hx105_0, hl105_0, hi105_0⟩ := at_L15 HR0.out x8_1 p105 q105
               obtain rfl : ad103 = ad105 := (by injection e105)
               replace hx105_0 := (HB.out.cell (zwb w _ hx105_0)).trans hx105_0
               have HR105_0 := zam hi105_0
               have HC105_0 := zam hl105_0
               clear hi105_0 hl105_0
               replace p105 := eq_true p105
               replace q105 := eq_true q105
               have ea_ := zsi (hx103_0.symm.trans hx105_0)
               injection ea_ with ea_ en_ ec_
               subst ea_
               subst ec_
               clear en_
               have p106 : 0 ≤ (x11_2 : Int) := zod (by first | (with_reducible assumption) | assumption)
               have q106 : x11_2 < ((rd_L15 l0 x8_1).length : Int) := zod (by first | (with_reducible assumption) | assumption)
               obtain ⟨ad106, e106, hx106_0⟩ := Kd.at_int HR105_0.out x11_2 p106 q106
               cases e106
               replace hx106_0 := (HB.out.cell (zwb w _ hx106_0)).trans hx106_0
               replace p106 := eq_true p106
               replace q106 := eq_true q106
               have hcz18_0 : wc.cell? ⟨gb101, 0, none⟩ = some (.int .i64 a1_0) := (zkc BK101.out 0).trans rfl
               have hcz18_1 : wc.cell? ⟨gb101, 1, none⟩ = some (.int .i64 a1_1) := (zkc BK101.out 1).trans rfl
               have hcz18_2 : wc.cell? ⟨gb101, 2, none⟩ = some (.int .i64 a1_2) := (zkc BK101.out 2).trans rfl
               have hfz18_0 := zkz BK101.out 0
               have hfz18_1 := zkz BK101.out 1
               have hfz18_2 := zkz BK101.out 2
               go_wp2
               repeat (go_quiet (fail); try go_wp2)
               go_roundg kj5
               case measure => have := HK1.out; have := HK2.out; have := HJ5.out; omega
               case rel => exact ⟨(0), (true), (wrap64 (x11_2 + 1)), (by first | rfl | (simp; done) | (simp [*]; done)), (by first | rfl | (simp; done) | (simp [*]; done)), (by first | rfl | (simp; done) | (simp [*]; done)), H', ⟨by have := HK1.out; have := HK2.out; have := HJ5.out; omega⟩, ⟨by (with_reducible repeat (first | refine zkn ?_ _ | refine zkd ?_ | refine zka ?_ _)); exact BK101.out⟩, ⟨by repeat (first | (with_reducible first | exact HB.out | apply zba | apply zbn | apply zb1 | refine zbs ?_ GE101.out) | exact HB.out)⟩⟩
              replace c17 := Bool.eq_false_iff.mpr c17
              subst c17
              have H1 : (isobathlaw07_alarm.l1 kj5 l0 a2 x7_1 x8_1 0 (decide (0 ≥ a1_1)) (wrap64 (x11_2 + 1)) a1_0 a1_1 a1_2) = some r := by rw [if_neg (show ¬ (false = true) by decide)] at H; exact H
              clear H
              have H := H1
              clear H1
              have H' := zam H
              clear H
              have p103 : 0 ≤ (x8_1 : Int) := zod (by first | (with_reducible assumption) | assumption)
              have q103 : x8_1 < (l0.length : Int) := zod (by first | (with_reducible assumption) | assumption)
              obtain ⟨ad103, A103_0, c103_0, e103, hx103_0, hl103_0, hi103_0⟩ := at_L15 HR0.out x8_1 p103 q103
              cases e103
              replace hx103_0 := (HB.out.cell (zwb w _ hx103_0)).trans hx103_0
              have HR103_0 := zam hi103_0
              have HC103_0 := zam hl103_0
              clear hi103_0 hl103_0
              replace p103 := eq_true p103
              replace q103 := eq_true q103
              have p104 : 0 ≤ (x11_2 : Int) := zod (by first | (with_reducible assumption) | assumption)
              have q104 : x11_2 < ((rd_L15 l0 x8_1).length : Int) := zod (by first | (with_reducible assumption) | assumption)
              obtain ⟨ad104, e104, hx104_0⟩ := Kd.at_int HR103_0.out x11_2 p104 q104
              cases e104
              replace hx104_0 := (HB.out.cell (zwb w _ hx104_0)).trans hx104_0
              replace p104 := eq_true p104
              replace q104 := eq_true q104
              have p105 : 0 ≤ (x8_1 : Int) := zod (by first | (with_reducible assumption) | assumption)
              have q105 : x8_1 < (l0.length : Int) := zod (by first | (with_reducible assumption) | assumption)
              obtain ⟨ad105, A105_0, c105_0, e105, hx105_0, hl105_0, hi105_0⟩ := at_L15 HR0.out x8_1 p105 q105
              obtain rfl : ad103 = ad105 := (by injection e105)
              replace hx105_0 := (HB.out.cell (zwb w _ hx105_0)).trans hx105_0
              have HR105_0 := zam hi105_0
              have HC105_0 := zam hl105_0
              clear hi105_0 hl105_0
              replace p105 := eq_true p105
              replace q105 := eq_true q105
              have ea_ := zsi (hx103_0.symm.trans hx105_0)
              injection ea_ with ea_ en_ ec_
              subst ea_
              subst ec_
              clear en_
              have p106 : 0 ≤ (x11_2 : Int) := zod (by first | (with_reducible assumption) | assumption)
              have q106 : x11_2 < ((rd_L15 l0 x8_1).length : Int) := zod (by first | (with_reducible assumption) | assumption)
              obtain ⟨ad106, e106, hx106_0⟩ := Kd.at_int HR105_0.out x11_2 p106 q106
              cases e106
              replace hx106_0 := (HB.out.cell (zwb w _ hx106_0)).trans hx106_0
              replace p106 := eq_true p106
              replace q106 := eq_true q106
              have hcz19_0 : wc.cell? ⟨gb101, 0, none⟩ = some (.int .i64 a1_0) := (zkc BK101.out 0).trans rfl
              have hcz19_1 : wc.cell? ⟨gb101, 1, none⟩ = some (.int .i64 a1_1) := (zkc BK101.out 1).trans rfl
              have hcz19_2 : wc.cell? ⟨gb101, 2, none⟩ = some (.int .i64 a1_2) := (zkc BK101.out 2).trans rfl
              have hfz19_0 := zkz BK101.out 0
              have hfz19_1 := zkz BK101.out 1
              have hfz19_2 := zkz BK101.out 2
              go_wp2
              repeat (go_quiet (fail); try go_wp2)
              go_roundg kj5
              case measure => have := HK1.out; have := HK2.out; have := HJ5.out; omega
              case rel => exact ⟨(0), (decide (0 ≥ a1_1)), (wrap64 (x11_2 + 1)), (by first | rfl | (simp; done) | (simp [*]; done)), (by first | rfl | (simp; done) | (simp [*]; done)), (by first | rfl | (simp; done) | (simp [*]; done)), H', ⟨by have := HK1.out; have := HK2.out; have := HJ5.out; omega⟩, ⟨by (with_reducible repeat (first | refine zkn ?_ _ | refine zkd ?_ | refine zka ?_ _)); exact BK101.out⟩, ⟨by repeat (first | (with_reducible first | exact HB.out | apply zba | apply zbn | apply zb1 | refine zbs ?_ GE101.out) | exact HB.out)⟩⟩
             rw [if_neg c16] at H
             have c16b0 : decide ((ji15) < a1_0) = false := zdf c16
             clear c16
             by_cases c20 : x10_2 = true
             ·subst c20
              have H1 : (isobathlaw07_alarm.l1 kj5 l0 a2 x7_1 x8_1 (wrap64 (x9_2 + 1)) true (wrap64 (x11_2 + 1)) a1_0 a1_1 a1_2) = some r := by rw [if_pos rfl] at H; exact H
              clear H
              have H := H1
              clear H1
              have H' := zam H
              clear H
              have p103 : 0 ≤ (x8_1 : Int) := zod (by first | (with_reducible assumption) | assumption)
              have q103 : x8_1 < (l0.length : Int) := zod (by first | (with_reducible assumption) | assumption)
              obtain ⟨ad103, A103_0, c103_0, e103, hx103_0, hl103_0, hi103_0⟩ := at_L15 HR0.out x8_1 p103 q103
              cases e103
              replace hx103_0 := (HB.out.cell (zwb w _ hx103_0)).trans hx103_0
              have HR103_0 := zam hi103_0
              have HC103_0 := zam hl103_0
              clear hi103_0 hl103_0
              replace p103 := eq_true p103
              replace q103 := eq_true q103
              have p104 : 0 ≤ (x11_2 : Int) := zod (by first | (with_reducible assumption) | assumption)
              have q104 : x11_2 < ((rd_L15 l0 x8_1).length : Int) := zod (by first | (with_reducible assumption) | assumption)
              obtain ⟨ad104, e104, hx104_0⟩ := Kd.at_int HR103_0.out x11_2 p104 q104
              cases e104
              replace hx104_0 := (HB.out.cell (zwb w _ hx104_0)).trans hx104_0
              replace p104 := eq_true p104
              replace q104 := eq_true q104
              have p105 : 0 ≤ (x8_1 : Int) := zod (by first | (with_reducible assumption) | assumption)
              have q105 : x8_1 < (l0.length : Int) := zod (by first | (with_reducible assumption) | assumption)
              obtain ⟨ad105, A105_0, c105_0, e105, hx105_0, hl105_0, hi105_0⟩ := at_L15 HR0.out x8_1 p105 q105
              obtain rfl : ad103 = ad105 := (by injection e105)
              replace hx105_0 := (HB.out.cell (zwb w _ hx105_0)).trans hx105_0
              have HR105_0 := zam hi105_0
              have HC105_0 := zam hl105_0
              clear hi105_0 hl105_0
              replace p105 := eq_true p105
              replace q105 := eq_true q105
              have ea_ := zsi (hx103_0.symm.trans hx105_0)
              injection ea_ with ea_ en_ ec_
              subst ea_
              subst ec_
              clear en_
              have p106 : 0 ≤ (x11_2 : Int) := zod (by first | (with_reducible assumption) | assumption)
              have q106 : x11_2 < ((rd_L15 l0 x8_1).length : Int) := zod (by first | (with_reducible assumption) | assumption)
              obtain ⟨ad106, e106, hx106_0⟩ := Kd.at_int HR105_0.out x11_2 p106 q106
              cases e106
              replace hx106_0 := (HB.out.cell (zwb w _ hx106_0)).trans hx106_0
              replace p106 := eq_true p106
              replace q106 := eq_true q106
              have hcz21_0 : wc.cell? ⟨gb101, 0, none⟩ = some (.int .i64 a1_0) := (zkc BK101.out 0).trans rfl
              have hcz21_1 : wc.cell? ⟨gb101, 1, none⟩ = some (.int .i64 a1_1) := (zkc BK101.out 1).trans rfl
              have hcz21_2 : wc.cell? ⟨gb101, 2, none⟩ = some (.int .i64 a1_2) := (zkc BK101.out 2).trans rfl
              have hfz21_0 := zkz BK101.out 0
              have hfz21_1 := zkz BK101.out 1
              have hfz21_2 := zkz BK101.out 2
              go_wp2
              repeat (go_quiet (fail); try go_wp2)
              go_roundg kj5
              case measure => have := HK1.out; have := HK2.out; have := HJ5.out; omega
              case rel => exact ⟨(wrap64 (x9_2 + 1)), (true), (wrap64 (x11_2 + 1)), (by first | rfl | (simp; done) | (simp [*]; done)), (by first | rfl | (simp; done) | (simp [*]; done)), (by first | rfl | (simp; done) | (simp [*]; done)), H', ⟨by have := HK1.out; have := HK2.out; have := HJ5.out; omega⟩, ⟨by (with_reducible repeat (first | refine zkn ?_ _ | refine zkd ?_ | refine zka ?_ _)); exact BK101.out⟩, ⟨by repeat (first | (with_reducible first | exact HB.out | apply zba | apply zbn | apply zb1 | refine zbs ?_ GE101.out) | exact HB.out)⟩⟩
             replace c20 := Bool.eq_false_iff.mpr c20
             subst c20
             have H1 : (isobathlaw07_alarm.l1 kj5 l0 a2 x7_1 x8_1 (wrap64 (x9_2 + 1)) (decide ((wrap64 (x9_2 + 1)) ≥ a1_1)) (wrap64 (x11_2 + 1)) a1_0 a1_1 a1_2) = some r := by rw [if_neg (show ¬ (false = true) by decide)] at H; exact H
             clear H
             have H := H1
             clear H1
             have H' := zam H
             clear H
             have p103 : 0 ≤ (x8_1 : Int) := zod (by first | (with_reducible assumption) | assumption)
             have q103 : x8_1 < (l0.length : Int) := zod (by first | (with_reducible assumption) | assumption)
             obtain ⟨ad103, A103_0, c103_0, e103, hx103_0, hl103_0, hi103_0⟩ := at_L15 HR0.out x8_1 p103 q103
             cases e103
             replace hx103_0 := (HB.out.cell (zwb w _ hx103_0)).trans hx103_0
             have HR103_0 := zam hi103_0
             have HC103_0 := zam hl103_0
             clear hi103_0 hl103_0
             replace p103 := eq_true p103
             replace q103 := eq_true q103
             have p104 : 0 ≤ (x11_2 : Int) := zod (by first | (with_reducible assumption) | assumption)
             have q104 : x11_2 < ((rd_L15 l0 x8_1).length : Int) := zod (by first | (with_reducible assumption) | assumption)
             obtain ⟨ad104, e104, hx104_0⟩ := Kd.at_int HR103_0.out x11_2 p104 q104
             cases e104
             replace hx104_0 := (HB.out.cell (zwb w _ hx104_0)).trans hx104_0
             replace p104 := eq_true p104
             replace q104 := eq_true q104
             have p105 : 0 ≤ (x8_1 : Int) := zod (by first | (with_reducible assumption) | assumption)
             have q105 : x8_1 < (l0.length : Int) := zod (by first | (with_reducible assumption) | assumption)
             obtain ⟨ad105, A105_0, c105_0, e105, hx105_0, hl105_0, hi105_0⟩ := at_L15 HR0.out x8_1 p105 q105
             obtain rfl : ad103 = ad105 := (by injection e105)
             replace hx105_0 := (HB.out.cell (zwb w _ hx105_0)).trans hx105_0
             have HR105_0 := zam hi105_0
             have HC105_0 := zam hl105_0
             clear hi105_0 hl105_0
             replace p105 := eq_true p105
             replace q105 := eq_true q105
             have ea_ := zsi (hx103_0.symm.trans hx105_0)
             injection ea_ with ea_ en_ ec_
             subst ea_
             subst ec_
             clear en_
             have p106 : 0 ≤ (x11_2 : Int) := zod (by first | (with_reducible assumption) | assumption)
             have q106 : x11_2 < ((rd_L15 l0 x8_1).length : Int) := zod (by first | (with_reducible assumption) | assumption)
             obtain ⟨ad106, e106, hx106_0⟩ := Kd.at_int HR105_0.out x11_2 p106 q106
             cases e106
             replace hx106_0 := (HB.out.cell (zwb w _ hx106_0)).trans hx106_0
             replace p106 := eq_true p106
             replace q106 := eq_true q106
             have hcz22_0 : wc.cell? ⟨gb101, 0, none⟩ = some (.int .i64 a1_0) := (zkc BK101.out 0).trans rfl
             have hcz22_1 : wc.cell? ⟨gb101, 1, none⟩ = some (.int .i64 a1_1) := (zkc BK101.out 1).trans rfl
             have hcz22_2 : wc.cell? ⟨gb101, 2, none⟩ = some (.int .i64 a1_2) := (zkc BK101.out 2).trans rfl
             have hfz22_0 := zkz BK101.out 0
             have hfz22_1 := zkz BK101.out 1
             have hfz22_2 := zkz BK101.out 2
             go_wp2
             repeat (go_quiet (fail); try go_wp2)
             go_roundg kj5
             case measure => have := HK1.out; have := HK2.out; have := HJ5.out; omega
             case rel => exact ⟨(wrap64 (x9_2 + 1)), (decide ((wrap64 (x9_2 + 1)) ≥ a1_1)), (wrap64 (x11_2 + 1)), (by first | rfl | (simp; done) | (simp [*]; done)), (by first | rfl | (simp; done) | (simp [*]; done)), (by first | rfl | (simp; done) | (simp [*]; done)), H', ⟨by have := HK1.out; have := HK2.out; have := HJ5.out; omega⟩, ⟨by (with_reducible repeat (first | refine zkn ?_ _ | refine zkd ?_ | refine zka ?_ _)); exact BK101.out⟩, ⟨by repeat (first | (with_reducible first | exact HB.out | apply zba | apply zbn | apply zb1 | refine zbs ?_ GE101.out) | exact HB.out)⟩⟩
            rw [if_neg c14] at H
            exact absurd H (by simp)
           rw [if_neg c13] at H
           exact absurd H (by simp)
          rw [if_neg c12] at H
          exact absurd H (by simp)
         rw [if_neg c11] at H
         exact absurd H (by simp)
        replace c10 := Bool.eq_false_iff.mpr c10
        subst c10
        have H1 : (if x10_2 = true then (isobathlaw07_alarm.l0 kj5 l0 a2 (wrap64 (x7_1 + 1)) (wrap64 (x8_1 + 1)) a1_0 a1_1 a1_2) else (isobathlaw07_alarm.l0 kj5 l0 a2 x7_1 (wrap64 (x8_1 + 1)) a1_0 a1_1 a1_2)) = some r := by rw [if_neg (show ¬ (false = true) by decide)] at H; exact H
        clear H
        have H := H1
        clear H1
        by_cases c23 : x10_2 = true
        ·subst c23
         have H1 : (isobathlaw07_alarm.l0 kj5 l0 a2 (wrap64 (x7_1 + 1)) (wrap64 (x8_1 + 1)) a1_0 a1_1 a1_2) = some r := by rw [if_pos rfl] at H; exact H
         clear H
         have H := H1
         clear H1
         have H' := zam H
         clear H
         go_wp2
         repeat (go_quiet (fail); try go_wp2)
         go_roundg kj5
         case measure => have := HK1.out; have := HK2.out; have := HJ5.out; omega
         case rel => exact ⟨(wrap64 (x7_1 + 1)), (wrap64 (x8_1 + 1)), (by first | rfl | (simp; done) | (simp [*]; done)), (by first | rfl | (simp; done) | (simp [*]; done)), H', ⟨by have := HK1.out; have := HK2.out; have := HJ5.out; omega⟩, ⟨by (with_reducible repeat (first | refine zkn ?_ _ | refine zkd ?_ | refine zka ?_ _)); exact BK101.out⟩, ⟨by repeat (first | (with_reducible first | exact HB.out | apply zba | apply zbn | apply zb1 | refine zbs ?_ GE101.out) | exact HB.out)⟩⟩
        replace c23 := Bool.eq_false_iff.mpr c23
        subst c23
        have H1 : (isobathlaw07_alarm.l0 kj5 l0 a2 x7_1 (wrap64 (x8_1 + 1)) a1_0 a1_1 a1_2) = some r := by rw [if_neg (show ¬ (false = true) by decide)] at H; exact H
        clear H
        have H := H1
        clear H1
        have H' := zam H
        clear H
        go_wp2
        repeat (go_quiet (fail); try go_wp2)
        go_roundg kj5
        case measure => have := HK1.out; have := HK2.out; have := HJ5.out; omega
        case rel => exact ⟨(x7_1), (wrap64 (x8_1 + 1)), (by first | rfl | (simp; done) | (simp [*]; done)), (by first | rfl | (simp; done) | (simp [*]; done)), H', ⟨by have := HK1.out; have := HK2.out; have := HJ5.out; omega⟩, ⟨by (with_reducible repeat (first | refine zkn ?_ _ | refine zkd ?_ | refine zka ?_ _)); exact BK101.out⟩, ⟨by repeat (first | (with_reducible first | exact HB.out | apply zba | apply zbn | apply zb1 | refine zbs ?_ GE101.out) | exact HB.out)⟩⟩
   rw [if_neg c5] at H
   have c5b0 : decide (x8_1 < (l0.length : Int)) = false := zdf c5
   clear c5
   obtain rfl := zsi H
   have hcz24_0 : wr.cell? ⟨gb101, 0, none⟩ = some (.int .i64 a1_0) := (zkc BK101.out 0).trans rfl
   have hcz24_1 : wr.cell? ⟨gb101, 1, none⟩ = some (.int .i64 a1_1) := (zkc BK101.out 1).trans rfl
   have hcz24_2 : wr.cell? ⟨gb101, 2, none⟩ = some (.int .i64 a1_2) := (zkc BK101.out 2).trans rfl
   have hfz24_0 := zkz BK101.out 0
   have hfz24_1 := zkz BK101.out 1
   have hfz24_2 := zkz BK101.out 2
   go_wp2
   repeat (go_quiet (fail); try go_wp2)
   go_ret
   exact ⟨by first | rfl | (simp [errW_none, errW_some] <;> rfl) | (simp [*, errW_none, errW_some] <;> rfl), by repeat (first | (with_reducible first | exact HB.out | apply zba | apply zbn | apply zb1 | refine zbs ?_ GE101.out) | exact HB.out)⟩
def isobathlaw07_huge.l0 : Nat → List (S45) → Int → Option (Bool)
 | 0, _, _ => none
 | k + 1, x0, x3 => if x3 < (x0.length : Int) then (if 0 ≤ x3 then (if (((rd_T45 x0 x3).f0).length : Int) > 20 then (if (((rd_T45 x0 x3).f0).length : Int) ≤ 256 then (some true) else (if (((rd_T45 x0 x3).f0).length : Int) > 300 then (some true) else (isobathlaw07_huge.l0 k x0 (wrap64 (x3 + 1))))) else (if (((rd_T45 x0 x3).f0).length : Int) > 300 then (some true) else (isobathlaw07_huge.l0 k x0 (wrap64 (x3 + 1))))) else (none)) else (some false)
def isobathlaw07_huge.f (k : Nat) (l0 : List (S45)) : Option (Bool) := if (l0.length : Int) > 20 then (some true) else (isobathlaw07_huge.l0 k l0 0)
set_option maxHeartbeats 8000000 in
set_option maxRecDepth 100000 in
theorem isobathlaw07_huge.calls (k : Nat) (A0 : Option Addr) (c0 : Nat) (l0 : List (S45)) (r : Bool) (w : World) (hr0 : Kd.C k45 w A0 l0.length l0) (hc0 : l0.length ≤ c0) (h : isobathlaw07_huge.f k l0 = some r) :
  Calls Try.prog 17 #[.slice A0 l0.length c0] w fun e w' => e = .returned (.bool r) ∧ Drawn0 w w' := by
 have HR0 := zam hr0
 have HC0 := zam hc0
 clear hr0 hc0
 have H : (if (l0.length : Int) > 20 then (some true) else (isobathlaw07_huge.l0 k l0 0)) = some r := h
 clear h
 by_cases c2 : (l0.length : Int) > 20
 ·rw [if_pos c2] at H
  have c2b0 : decide (20 < (l0.length : Int)) = true := zdt c2
  have c2b1 : decide (20 < l0.length) = true := zdt (by omega)
  clear c2
  obtain rfl := zsi H
  go_enter Try.func17, Try.ntmps17
  go_wp2
  go_ret
  exact ⟨by first | rfl | (simp; done) | (simp [*]; done), by repeat (first | exact Drawn0.refl _ | apply Drawn0.step)⟩
 rw [if_neg c2] at H
 have c2b0 : decide (20 < (l0.length : Int)) = false := zdf c2
 have c2b1 : decide (20 < l0.length) = false := zdf (by omega)
 clear c2
 have H' := zam H
 clear H
 go_enter Try.func17, Try.ntmps17
 go_wp2
 go_loopg [3] k (fun kq v3 w' => ∃ (x3_1 : Int), v3 = .int .i64 x3_1 ∧ Aside0 (isobathlaw07_huge.l0 kq l0 x3_1 = some r) ∧ Aside0 (kq ≤ k) ∧ Drawn0 w w')
 case atStart => exact ⟨(0), (by first | rfl | (simp; done) | (simp [*]; done)), H', ⟨Nat.le_refl _⟩, by repeat (first | exact Drawn0.refl _ | apply Drawn0.step)⟩
 case round =>
  clear H'
  try clear c1
  try clear c2
  try clear c2b0
  try clear c2b1
  try clear p2
  obtain ⟨x3_1, rfl, HA, HK1, ⟨m1, rfl⟩⟩ := hrel
  cases gk with
  | zero => exact absurd HA.out (by simp [isobathlaw07_huge.l0])
  | succ k1 =>
   have H := HA.out
   clear HA
   simp only [isobathlaw07_huge.l0] at H
   by_cases c3 : x3_1 < (l0.length : Int)
   ·rw [if_pos c3] at H
    have c3b0 : decide (x3_1 < (l0.length : Int)) = true := zdt c3
    clear c3
    by_cases c4 : 0 ≤ x3_1
    ·rw [if_pos c4] at H
     have c4b0 : decide (0 ≤ x3_1) = true := zdt c4
     clear c4
     by_cases c5 : (((rd_T45 l0 x3_1).f0).length : Int) > 20
     ·rw [if_pos c5] at H
      have c5b0 : decide (20 < (((rd_T45 l0 x3_1).f0).length : Int)) = true := zdt c5
      have c5b1 : decide (20 < ((rd_T45 l0 x3_1).f0).length) = true := zdt (by omega)
      clear c5
      by_cases c6 : (((rd_T45 l0 x3_1).f0).length : Int) ≤ 256
      ·rw [if_pos c6] at H
       have c6b0 : decide ((((rd_T45 l0 x3_1).f0).length : Int) ≤ 256) = true := zdt c6
       have c6b1 : decide (((rd_T45 l0 x3_1).f0).length ≤ 256) = true := zdt (by omega)
       clear c6
       obtain rfl := zsi H
       have p101 : 0 ≤ (x3_1 : Int) := zod (by first | (with_reducible assumption) | assumption)
       have q101 : x3_1 < (l0.length : Int) := zod (by first | (with_reducible assumption) | assumption)
       obtain ⟨ad101, A101_0, c101_0, e101, hx101_0, hl101_0, hi101_0⟩ := at_T45 HR0.out x3_1 p101 q101
       cases e101
       have HR101_0 := zam hi101_0
       have HC101_0 := zam hl101_0
       clear hi101_0 hl101_0
       replace p101 := eq_true p101
       replace q101 := eq_true q101
       have p102 : 0 ≤ (x3_1 : Int) := zod (by first | (with_reducible assumption) | assumption)
       have q102 : x3_1 < (l0.length : Int) := zod (by first | (with_reducible assumption) | assumption)
       obtain ⟨ad102, A102_0, c102_0, e102, hx102_0, hl102_0, hi102_0⟩ := at_T45 HR0.out x3_1 p102 q102
       obtain rfl : ad101 = ad102 := (by injection e102)
       have HR102_0 := zam hi102_0
       have HC102_0 := zam hl102_0
       clear hi102_0 hl102_0
       replace p102 := eq_true p102
       replace q102 := eq_true q102
       have ea_ := zsi (hx101_0.symm.trans hx102_0)
       injection ea_ with ea_ en_ ec_
       subst ea_
       subst ec_
       clear en_
       go_wp2
       go_ret
       exact ⟨by first | rfl | (simp; done) | (simp [*]; done), by repeat (first | exact Drawn0.refl _ | apply Drawn0.step)⟩
      rw [if_neg c6] at H
      have c6b0 : decide ((((rd_T45 l0 x3_1).f0).length : Int) ≤ 256) = false := zdf c6
      have c6b1 : decide (((rd_T45 l0 x3_1).f0).length ≤ 256) = false := zdf (by omega)
      clear c6
      by_cases c7 : (((rd_T45 l0 x3_1).f0).length : Int) > 300
      ·rw [if_pos c7] at H
       have c7b0 : decide (300 < (((rd_T45 l0 x3_1).f0).length : Int)) = true := zdt c7
       have c7b1 : decide (300 < ((rd_T45 l0 x3_1).f0).length) = true := zdt (by omega)
       clear c7
       obtain rfl := zsi H
       have p101 : 0 ≤ (x3_1 : Int) := zod (by first | (with_reducible assumption) | assumption)
       have q101 : x3_1 < (l0.length : Int) := zod (by first | (with_reducible assumption) | assumption)
       obtain ⟨ad101, A101_0, c101_0, e101, hx101_0, hl101_0, hi101_0⟩ := at_T45 HR0.out x3_1 p101 q101
       cases e101
       have HR101_0 := zam hi101_0
       have HC101_0 := zam hl101_0
       clear hi101_0 hl101_0
       replace p101 := eq_true p101
       replace q101 := eq_true q101
       have p102 : 0 ≤ (x3_1 : Int) := zod (by first | (with_reducible assumption) | assumption)
       have q102 : x3_1 < (l0.length : Int) := zod (by first | (with_reducible assumption) | assumption)
       obtain ⟨ad102, A102_0, c102_0, e102, hx102_0, hl102_0, hi102_0⟩ := at_T45 HR0.out x3_1 p102 q102
       obtain rfl : ad101 = ad102 := (by injection e102)
       have HR102_0 := zam hi102_0
       have HC102_0 := zam hl102_0
       clear hi102_0 hl102_0
       replace p102 := eq_true p102
       replace q102 := eq_true q102
       have ea_ := zsi (hx101_0.symm.trans hx102_0)
       injection ea_ with ea_ en_ ec_
       subst ea_
       subst ec_
       clear en_
       have p103 : 0 ≤ (x3_1 : Int) := zod (by first | (with_reducible assumption) | assumption)
       have q103 : x3_1 < (l0.length : Int) := zod (by first | (with_reducible assumption) | assumption)
       obtain ⟨ad103, A103_0, c103_0, e103, hx103_0, hl103_0, hi103_0⟩ := at_T45 HR0.out x3_1 p103 q103
       obtain rfl : ad101 = ad103 := (by injection e103)
       have HR103_0 := zam hi103_0
       have HC103_0 := zam hl103_0
       clear hi103_0 hl103_0
       replace p103 := eq_true p103
       replace q103 := eq_true q103
       have ea_ := zsi (hx101_0.symm.trans hx103_0)
       injection ea_ with ea_ en_ ec_
       subst ea_
       subst ec_
       clear en_
       go_wp2
       go_ret
       exact ⟨by first | rfl | (simp; done) | (simp [*]; done), by repeat (first | exact Drawn0.refl _ | apply Drawn0.step)⟩
      rw [if_neg c7] at H
      have c7b0 : decide (300 < (((rd_T45 l0 x3_1).f0).length : Int)) = false := zdf c7
      have c7b1 : decide (300 < ((rd_T45 l0 x3_1).f0).length) = false := zdf (by omega)
      clear c7
      have H' := zam H
      clear H
      have p101 : 0 ≤ (x3_1 : Int) := zod (by first | (with_reducible assumption) | assumption)
      have q101 : x3_1 < (l0.length : Int) := zod (by first | (with_reducible assumption) | assumption)
      obtain ⟨ad101, A101_0, c101_0, e101, hx101_0, hl101_0, hi101_0⟩ := at_T45 HR0.out x3_1 p101 q101
      cases e101
      have HR101_0 := zam hi101_0
      have HC101_0 := zam hl101_0
      clear hi101_0 hl101_0
      replace p101 := eq_true p101
      replace q101 := eq_true q101
      have p102 : 0 ≤ (x3_1 : Int) := zod (by first | (with_reducible assumption) | assumption)
      have q102 : x3_1 < (l0.length : Int) := zod (by first | (with_reducible assumption) | assumption)
      obtain ⟨ad102, A102_0, c102_0, e102, hx102_0, hl102_0, hi102_0⟩ := at_T45 HR0.out x3_1 p102 q102
      obtain rfl : ad101 = ad102 := (by injection e102)
      have HR102_0 := zam hi102_0
      have HC102_0 := zam hl102_0
      clear hi102_0 hl102_0
      replace p102 := eq_true p102
      replace q102 := eq_true q102
      have ea_ := zsi (hx101_0.symm.trans hx102_0)
      injection ea_ with ea_ en_ ec_
      subst ea_
      subst ec_
      clear en_
      have p103 : 0 ≤ (x3_1 : Int) := zod (by first | (with_reducible assumption) | assumption)
      have q103 : x3_1 < (l0.length : Int) := zod (by first | (with_reducible assumption) | assumption)
      obtain ⟨ad103, A103_0, c103_0, e103, hx103_0, hl103_0, hi103_0⟩ := at_T45 HR0.out x3_1 p103 q103
      obtain rfl : ad101 = ad103 := (by injection e103)
      have HR103_0 := zam hi103_0
      have HC103_0 := zam hl103_0
      clear hi103_0 hl103_0
      replace p103 := eq_true p103
      replace q103 := eq_true q103
      have ea_ := zsi (hx101_0.symm.trans hx103_0)
      injection ea_ with ea_ en_ ec_
      subst ea_
      subst ec_
      clear en_
      go_wp2
      go_roundg k1
      case measure => have := HK1.out; omega
      case rel => exact ⟨(wrap64 (x3_1 + 1)), (by first | rfl | (simp; done) | (simp [*]; done)), H', ⟨by have := HK1.out; omega⟩, by repeat (first | exact Drawn0.refl _ | apply Drawn0.step)⟩
     rw [if_neg c5] at H
     have c5b0 : decide (20 < (((rd_T45 l0 x3_1).f0).length : Int)) = false := zdf c5
     have c5b1 : decide (20 < ((rd_T45 l0 x3_1).f0).length) = false := zdf (by omega)
     clear c5
     by_cases c8 : (((rd_T45 l0 x3_1).f0).length : Int) > 300
     ·rw [if_pos c8] at H
      have c8b0 : decide (300 < (((rd_T45 l0 x3_1).f0).length : Int)) = true := zdt c8
      have c8b1 : decide (300 < ((rd_T45 l0 x3_1).f0).length) = true := zdt (by omega)
      clear c8
      obtain rfl := zsi H
      have p101 : 0 ≤ (x3_1 : Int) := zod (by first | (with_reducible assumption) | assumption)
      have q101 : x3_1 < (l0.length : Int) := zod (by first | (with_reducible assumption) | assumption)
      obtain ⟨ad101, A101_0, c101_0, e101, hx101_0, hl101_0, hi101_0⟩ := at_T45 HR0.out x3_1 p101 q101
      cases e101
      have HR101_0 := zam hi101_0
      have HC101_0 := zam hl101_0
      clear hi101_0 hl101_0
      replace p101 := eq_true p101
      replace q101 := eq_true q101
      have p104 : 0 ≤ (x3_1 : Int) := zod (by first | (with_reducible assumption) | assumption)
      have q104 : x3_1 < (l0.length : Int) := zod (by first | (with_reducible assumption) | assumption)
      obtain ⟨ad104, A104_0, c104_0, e104, hx104_0, hl104_0, hi104_0⟩ := at_T45 HR0.out x3_1 p104 q104
      obtain rfl : ad101 = ad104 := (by injection e104)
      have HR104_0 := zam hi104_0
      have HC104_0 := zam hl104_0
      clear hi104_0 hl104_0
      replace p104 := eq_true p104
      replace q104 := eq_true q104
      have ea_ := zsi (hx101_0.symm.trans hx104_0)
      injection ea_ with ea_ en_ ec_
      subst ea_
      subst ec_
      clear en_
      go_wp2
      go_ret
      exact ⟨by first | rfl | (simp; done) | (simp [*]; done), by repeat (first | exact Drawn0.refl _ | apply Drawn0.step)⟩
     rw [if_neg c8] at H
     have c8b0 : decide (300 < (((rd_T45 l0 x3_1).f0).length : Int)) = false := zdf c8
     have c8b1 : decide (300 < ((rd_T45 l0 x3_1).f0).length) = false := zdf (by omega)
     clear c8
     have H' := zam H
     clear H
     have p101 : 0 ≤ (x3_1 : Int) := zod (by first | (with_reducible assumption) | assumption)
     have q101 : x3_1 < (l0.length : Int) := zod (by first | (with_reducible assumption) | assumption)
     obtain ⟨ad101, A101_0, c101_0, e101, hx101_0, hl101_0, hi101_0⟩ := at_T45 HR0.out x3_1 p101 q101
     cases e101
     have HR101_0 := zam hi101_0
     have HC101_0 := zam hl101_0
     clear hi101_0 hl101_0
     replace p101 := eq_true p101
     replace q101 := eq_true q101
     have p104 : 0 ≤ (x3_1 : Int) := zod (by first | (with_reducible assumption) | assumption)
     have q104 : x3_1 < (l0.length : Int) := zod (by first | (with_reducible assumption) | assumption)
     obtain ⟨ad104, A104_0, c104_0, e104, hx104_0, hl104_0, hi104_0⟩ := at_T45 HR0.out x3_1 p104 q104
     obtain rfl : ad101 = ad104 := (by injection e104)
     have HR104_0 := zam hi104_0
     have HC104_0 := zam hl104_0
     clear hi104_0 hl104_0
     replace p104 := eq_true p104
     replace q104 := eq_true q104
     have ea_ := zsi (hx101_0.symm.trans hx104_0)
     injection ea_ with ea_ en_ ec_
     subst ea_
     subst ec_
     clear en_
     go_wp2
     go_roundg k1
     case measure => have := HK1.out; omega
     case rel => exact ⟨(wrap64 (x3_1 + 1)), (by first | rfl | (simp; done) | (simp [*]; done)), H', ⟨by have := HK1.out; omega⟩, by repeat (first | exact Drawn0.refl _ | apply Drawn0.step)⟩
    rw [if_neg c4] at H
    exact absurd H (by simp)
   rw [if_neg c3] at H
   have c3b0 : decide (x3_1 < (l0.length : Int)) = false := zdf c3
   clear c3
   obtain rfl := zsi H
   go_wp2
   go_ret
   exact ⟨by first | rfl | (simp; done) | (simp [*]; done), by repeat (first | exact Drawn0.refl _ | apply Drawn0.step)⟩
def isobathlaw07_pick.f (l0 : List Int) (a1 : Int) : Option (Int) := if a1 < (l0.length : Int) then (if 0 ≤ a1 then (some (rd l0 a1)) else (none)) else (some 0)
set_option maxHeartbeats 8000000 in
set_option maxRecDepth 100000 in
theorem isobathlaw07_pick.calls (A0 : Option Addr) (c0 : Nat) (l0 : List Int) (a1 : Int) (r : Int) (w : World) (hr0 : Kd.C (Kd.int .u16) w A0 l0.length l0) (hc0 : l0.length ≤ c0) (h : isobathlaw07_pick.f l0 a1 = some r) :
  Calls Try.prog 20 #[.slice A0 l0.length c0, .int .i64 a1] w fun e w' => e = .returned (.int .u16 r) ∧ Drawn0 w w' := by
 have HR0 := zam hr0
 have HC0 := zam hc0
 clear hr0 hc0
 have H : (if a1 < (l0.length : Int) then (if 0 ≤ a1 then (some (rd l0 a1)) else (none)) else (some 0)) = some r := h
 clear h
 by_cases c3 : a1 < (l0.length : Int)
 ·rw [if_pos c3] at H
  have c3b0 : decide (a1 < (l0.length : Int)) = true := zdt c3
  clear c3
  by_cases c4 : 0 ≤ a1
  ·rw [if_pos c4] at H
   have c4b0 : decide (0 ≤ a1) = true := zdt c4
   clear c4
   obtain rfl := zsi H
   have p101 : 0 ≤ (a1 : Int) := zod (by first | (with_reducible assumption) | assumption)
   have q101 : a1 < (l0.length : Int) := zod (by first | (with_reducible assumption) | assumption)
   obtain ⟨ad101, e101, hx101_0⟩ := Kd.at_int HR0.out a1 p101 q101
   cases e101
   replace p101 := eq_true p101
   replace q101 := eq_true q101
   go_enter Try.func20, Try.ntmps20
   go_wp2
   go_ret
   exact ⟨by first | rfl | (simp; done) | (simp [*]; done), by repeat (first | exact Drawn0.refl _ | apply Drawn0.step)⟩
  rw [if_neg c4] at H
  exact absurd H (by simp)
 rw [if_neg c3] at H
 have c3b0 : decide (a1 < (l0.length : Int)) = false := zdf c3
 clear c3
 obtain rfl := zsi H
 go_enter Try.func20, Try.ntmps20
 go_wp2
 go_ret
 exact ⟨by first | rfl | (simp; done) | (simp [*]; done), by repeat (first | exact Drawn0.refl _ | apply Drawn0.step)⟩
def sound_Raised.f (k : Nat) (l0 : List (S45)) (a1_0 : Int) (a1_1 : Int) (a1_2 : Int) (a2 : Int) : Option (Int × Int) := (sound_checkGauges.f k l0 a1_0 a1_1 a1_2).bind fun t102 => (if t102 = 0 then (if a2 < 0 then (some (0, 3)) else (if 0 < (l0.length : Int) then (if a2 ≥ (((rd_T45 l0 0).f0).length : Int) then (some (0, 3)) else ((sound_alarm.f k l0 a1_0 a1_1 a1_2).bind fun t104 => (if 0 ≤ a2 then (if a2 < (t104.length : Int) then (some (rd t104 a2, 0)) else (none)) else (none)))) else (none))) else (some (0, t102)))
set_option maxHeartbeats 8000000 in
set_option maxRecDepth 100000 in
theorem sound_Raised.calls (k : Nat) (A0 : Option Addr) (c0 : Nat) (l0 : List (S45)) (a1_0 : Int) (a1_1 : Int) (a1_2 : Int) (a2 : Int) (r1 : Int) (r2 : Int) (w : World) (hr0 : Kd.C k45 w A0 l0.length l0) (hc0 : l0.length ≤ c0) (h : sound_Raised.f k l0 a1_0 a1_1 a1_2 a2 = some (r1, r2)) :
  Calls Try.prog 21 #[.slice A0 l0.length c0, .agg #[.int .i64 a1_0, .int .i64 a1_1, .int .i64 a1_2], .int .i64 a2] w fun e w' => e = .returned (.tuple #[.int .i64 r1, .int .i64 r2]) ∧ Below w.heap.size w w' := by
 have hu39 := Try.underlying39
 have HR0 := zam hr0
 have HC0 := zam hc0
 clear hr0 hc0
 have HB := zam (Below.refl w.heap.size w)
 have H : ((sound_checkGauges.f k l0 a1_0 a1_1 a1_2).bind fun t102 => (if t102 = 0 then (if a2 < 0 then (some (0, 3)) else (if 0 < (l0.length : Int) then (if a2 ≥ (((rd_T45 l0 0).f0).length : Int) then (some (0, 3)) else ((sound_alarm.f k l0 a1_0 a1_1 a1_2).bind fun t104 => (if 0 ≤ a2 then (if a2 < (t104.length : Int) then (some (rd t104 a2, 0)) else (none)) else (none)))) else (none))) else (some (0, t102)))) = some (r1, r2) := h
 clear h
 replace H := Option.bind_eq_some_iff.mp H
 obtain ⟨t102, A40, H⟩ := H
 replace H : (if t102 = 0 then (if a2 < 0 then (some (0, 3)) else (if 0 < (l0.length : Int) then (if a2 ≥ (((rd_T45 l0 0).f0).length : Int) then (some (0, 3)) else ((sound_alarm.f k l0 a1_0 a1_1 a1_2).bind fun t104 => (if 0 ≤ a2 then (if a2 < (t104.length : Int) then (some (rd t104 a2, 0)) else (none)) else (none)))) else (none))) else (some (0, t102))) = some (r1, r2) := H
 have A4 := zam A40
 clear A40
 by_cases c5 : t102 = 0
 ·rw [if_pos c5] at H
  have c5b0 : (t102 == 0) = true := beq_iff_eq.mpr c5
  have c5b1 : (t102 != 0) = false := bne_eq_false_iff_eq.mpr c5
  clear c5
  by_cases c6 : a2 < 0
  ·rw [if_pos c6] at H
   have c6b0 : decide (a2 < 0) = true := zdt c6
   clear c6
   simp only [Option.some.injEq, Prod.mk.injEq] at H
   obtain ⟨rfl, rfl⟩ := H
   go_enter Try.func21, Try.ntmps21
   go_wp2_with (first | ((with_reducible refine zgd (N := 4) rfl ?_); (try (refine gate_guard (by rfl) ?_; dsimp only)); refine box_event ?hg (N := 4) ?hd (cs := #[.int .i64 a1_0, .int .i64 a1_1, .int .i64 a1_2]) (t := 39) ?hr ?_; (case hd => rfl); (case hg => rfl); (case hr => first | (go_simp; done) | (go_simp; rfl)); intro gb101 hg w7 hbox hb; have n0_ := zam (zbt (by repeat (first | (with_reducible first | exact HB.out | apply zba | apply zbn | apply zb1) | exact HB.out)) hb); have n1_ := zam (hbox); have n2_ := zam ((by rw [hg]; exact (zbz (by repeat (first | (with_reducible first | exact HB.out | apply zba | apply zbn | apply zb1) | exact HB.out))) : w.heap.size ≤ gb101)); have n3_ := zam ((by rw [hg]; exact (zbz (by repeat (first | (with_reducible first | exact HB.out | apply zba | apply zbn | apply zb1) | exact HB.out))) : w.heap.size ≤ gb101)); clear HB; have HB := n0_; have BK101 := n1_; have GW101 := n2_; have GE101 := n3_; clear n0_ n1_ n2_ n3_; clear hb hbox hg; have hcz8_0 : w7.cell? ⟨gb101, 0, none⟩ = some (.int .i64 a1_0) := (zkc BK101.out 0).trans rfl; have hcz8_1 : w7.cell? ⟨gb101, 1, none⟩ = some (.int .i64 a1_1) := (zkc BK101.out 1).trans rfl; have hcz8_2 : w7.cell? ⟨gb101, 2, none⟩ = some (.int .i64 a1_2) := (zkc BK101.out 2).trans rfl; have hfz8_0 := zkz BK101.out 0; have hfz8_1 := zkz BK101.out 1; have hfz8_2 := zkz BK101.out 2) | ((with_reducible refine zgc (f := 61) rfl ?_); refine goesL_ (some 11) rfl rfl Try.func61 (by kernel_rfl) rfl #[.slice A0 l0.length c0, .agg #[.int .i64 a1_0, .int .i64 a1_1, .int .i64 a1_2]] rfl (by (try simp only [zmt, List.map_cons, List.map_nil]); first | done | rfl | (simp only [zld, zlt]; rfl)) ?_; (with_reducible refine (sound_checkGauges.calls k _ _ l0 a1_0 a1_1 a1_2 t102 _ ?side1 ?side2 A4.out).mono ?_); (case side1 => repeat (first | exact (Kd.C_below HR0.out HB.out) | (with_reducible refine Kd.C_alloc ?_ _) | (with_reducible refine Kd.C_drewN ?_ _) | (with_reducible refine Kd.C_drew ?_))); (case side2 => exact HC0.out); rintro e w9 ⟨rfl, hb⟩; refine ⟨_, rfl, ?_⟩; have n0_ := zam (zkb (g := gb101) (o := .cells #[.int .i64 a1_0, .int .i64 a1_1, .int .i64 a1_2] 39 (0, 0)) (by (with_reducible repeat (first | refine zkn ?_ _ | refine zkd ?_ | refine zka ?_ _)); exact BK101.out) hb); have n1_ := zam (zbt (by repeat (first | (with_reducible first | exact HB.out | apply zba | apply zbn | apply zb1 | refine zbs ?_ GE101.out) | exact HB.out)) hb); clear BK101; clear HB; have BK101 := n0_; have HB := n1_; clear n0_ n1_; (try clear hb); (try clear hb2); (try clear hk); (try clear hi)))
   go_ret2
   exact ⟨by first | rfl | (simp [errW_none, errW_some] <;> rfl) | (simp [*, errW_none, errW_some] <;> rfl), by repeat (first | (with_reducible first | exact HB.out | apply zba | apply zbn | apply zb1 | refine zbs ?_ GE101.out) | exact HB.out)⟩
  rw [if_neg c6] at H
  have c6b0 : decide (a2 < 0) = false := zdf c6
  clear c6
  by_cases c10 : 0 < (l0.length : Int)
  ·rw [if_pos c10] at H
   have c10b0 : decide (0 < (l0.length : Int)) = true := zdt c10
   have c10b1 : decide (0 < l0.length) = true := zdt (by omega)
   clear c10
   by_cases c11 : a2 ≥ (((rd_T45 l0 0).f0).length : Int)
   ·rw [if_pos c11] at H
    have c11b0 : decide ((((rd_T45 l0 0).f0).length : Int) ≤ a2) = true := zdt c11
    clear c11
    simp only [Option.some.injEq, Prod.mk.injEq] at H
    obtain ⟨rfl, rfl⟩ := H
    go_enter Try.func21, Try.ntmps21
    go_wp2_with (first | ((with_reducible refine zgd (N := 4) rfl ?_); (try (refine gate_guard (by rfl) ?_; dsimp only)); refine box_event ?hg (N := 4) ?hd (cs := #[.int .i64 a1_0, .int .i64 a1_1, .int .i64 a1_2]) (t := 39) ?hr ?_; (case hd => rfl); (case hg => rfl); (case hr => first | (go_simp; done) | (go_simp; rfl)); intro gb101 hg w12 hbox hb; have n0_ := zam (zbt (by repeat (first | (with_reducible first | exact HB.out | apply zba | apply zbn | apply zb1) | exact HB.out)) hb); have n1_ := zam (hbox); have n2_ := zam ((by rw [hg]; exact (zbz (by repeat (first | (with_reducible first | exact HB.out | apply zba | apply zbn | apply zb1) | exact HB.out))) : w.heap.size ≤ gb101)); have n3_ := zam ((by rw [hg]; exact (zbz (by repeat (first | (with_reducible first | exact HB.out | apply zba | apply zbn | apply zb1) | exact HB.out))) : w.heap.size ≤ gb101)); clear HB; have HB := n0_; have BK101 := n1_; have GW101 := n2_; have GE101 := n3_; clear n0_ n1_ n2_ n3_; clear hb hbox hg; have hcz13_0 : w12.cell? ⟨gb101, 0, none⟩ = some (.int .i64 a1_0) := (zkc BK101.out 0).trans rfl; have hcz13_1 : w12.cell? ⟨gb101, 1, none⟩ = some (.int .i64 a1_1) := (zkc BK101.out 1).trans rfl; have hcz13_2 : w12.cell? ⟨gb101, 2, none⟩ = some (.int .i64 a1_2) := (zkc BK101.out 2).trans rfl; have hfz13_0 := zkz BK101.out 0; have hfz13_1 := zkz BK101.out 1; have hfz13_2 := zkz BK101.out 2) | ((with_reducible refine zgc (f := 61) rfl ?_); refine goesL_ (some 11) rfl rfl Try.func61 (by kernel_rfl) rfl #[.slice A0 l0.length c0, .agg #[.int .i64 a1_0, .int .i64 a1_1, .int .i64 a1_2]] rfl (by (try simp only [zmt, List.map_cons, List.map_nil]); first | done | rfl | (simp only [zld, zlt]; rfl)) ?_; (with_reducible refine (sound_checkGauges.calls k _ _ l0 a1_0 a1_1 a1_2 t102 _ ?side1 ?side2 A4.out).mono ?_); (case side1 => repeat (first | exact (Kd.C_below HR0.out HB.out) | (with_reducible refine Kd.C_alloc ?_ _) | (with_reducible refine Kd.C_drewN ?_ _) | (with_reducible refine Kd.C_drew ?_))); (case side2 => exact HC0.out); rintro e w14 ⟨rfl, hb⟩; refine ⟨_, rfl, ?_⟩; have n0_ := zam (zkb (g := gb101) (o := .cells #[.int .i64 a1_0, .int .i64 a1_1, .int .i64 a1_2] 39 (0, 0)) (by (with_reducible repeat (first | refine zkn ?_ _ | refine zkd ?_ | refine zka ?_ _)); exact BK101.out) hb); have n1_ := zam (zbt (by repeat (first | (with_reducible first | exact HB.out | apply zba | apply zbn | apply zb1 | refine zbs ?_ GE101.out) | exact HB.out)) hb); clear BK101; clear HB; have BK101 := n0_; have HB := n1_; clear n0_ n1_; (try clear hb); (try clear hb2); (try clear hk); (try clear hi); have p103 : 0 ≤ (0 : Int) := (by omega); have q103 : 0 < (l0.length : Int) := zod (by first | (with_reducible assumption) | assumption); obtain ⟨ad103, A103_0, c103_0, e103, hx103_0, hl103_0, hi103_0⟩ := at_T45 HR0.out 0 p103 q103; cases e103; have qi103 : (0 < l0.length) = True := eq_true (by omega); (try rw [show ((0 : Int)).toNat = 0 from rfl] at hx103_0); (try rw [Addr.add_zero'] at hx103_0); replace hx103_0 := (HB.out.cell (zwb w _ hx103_0)).trans hx103_0; have HR103_0 := zam hi103_0; have HC103_0 := zam hl103_0; clear hi103_0 hl103_0; replace p103 := eq_true p103; replace q103 := eq_true q103))
    go_ret2
    exact ⟨by first | rfl | (simp [errW_none, errW_some] <;> rfl) | (simp [*, errW_none, errW_some] <;> rfl), by repeat (first | (with_reducible first | exact HB.out | apply zba | apply zbn | apply zb1 | refine zbs ?_ GE101.out) | exact HB.out)⟩
   rw [if_neg c11] at H
   have c11b0 : decide ((((rd_T45 l0 0).f0).length : Int) ≤ a2) = false := zdf c11
   clear c11
   replace H := Option.bind_eq_some_iff.mp H
   obtain ⟨t104, A150, H⟩ := H
   replace H : (if 0 ≤ a2 then (if a2 < (t104.length : Int) then (some (rd t104 a2, 0)) else (none)) else (none)) = some (r1, r2) := H
   have A15 := zam A150
   clear A150
   by_cases c16 : 0 ≤ a2
   ·rw [if_pos c16] at H
    have c16b0 : decide (0 ≤ a2) = true := zdt c16
    clear c16
    by_cases c17 : a2 < (t104.length : Int)
    ·rw [if_pos c17] at H
     have c17b0 : decide (a2 < (t104.length : Int)) = true := zdt c17
     clear c17
     simp only [Option.some.injEq, Prod.mk.injEq] at H
     obtain ⟨rfl, rfl⟩ := H
     go_enter Try.func21, Try.ntmps21
     go_wp2_with (first | ((with_reducible refine zgd (N := 4) rfl ?_); (try (refine gate_guard (by rfl) ?_; dsimp only)); refine box_event ?hg (N := 4) ?hd (cs := #[.int .i64 a1_0, .int .i64 a1_1, .int .i64 a1_2]) (t := 39) ?hr ?_; (case hd => rfl); (case hg => rfl); (case hr => first | (go_simp; done) | (go_simp; rfl)); intro gb101 hg w18 hbox hb; have n0_ := zam (zbt (by repeat (first | (with_reducible first | exact HB.out | apply zba | apply zbn | apply zb1) | exact HB.out)) hb); have n1_ := zam (hbox); have n2_ := zam ((by rw [hg]; exact (zbz (by repeat (first | (with_reducible first | exact HB.out | apply zba | apply zbn | apply zb1) | exact HB.out))) : w.heap.size ≤ gb101)); have n3_ := zam ((by rw [hg]; exact (zbz (by repeat (first | (with_reducible first | exact HB.out | apply zba | apply zbn | apply zb1) | exact HB.out))) : w.heap.size ≤ gb101)); clear HB; have HB := n0_; have BK101 := n1_; have GW101 := n2_; have GE101 := n3_; clear n0_ n1_ n2_ n3_; clear hb hbox hg; have hcz19_0 : w18.cell? ⟨gb101, 0, none⟩ = some (.int .i64 a1_0) := (zkc BK101.out 0).trans rfl; have hcz19_1 : w18.cell? ⟨gb101, 1, none⟩ = some (.int .i64 a1_1) := (zkc BK101.out 1).trans rfl; have hcz19_2 : w18.cell? ⟨gb101, 2, none⟩ = some (.int .i64 a1_2) := (zkc BK101.out 2).trans rfl; have hfz19_0 := zkz BK101.out 0; have hfz19_1 := zkz BK101.out 1; have hfz19_2 := zkz BK101.out 2) | ((with_reducible refine zgc (f := 61) rfl ?_); refine goesL_ (some 11) rfl rfl Try.func61 (by kernel_rfl) rfl #[.slice A0 l0.length c0, .agg #[.int .i64 a1_0, .int .i64 a1_1, .int .i64 a1_2]] rfl (by (try simp only [zmt, List.map_cons, List.map_nil]); first | done | rfl | (simp only [zld, zlt]; rfl)) ?_; (with_reducible refine (sound_checkGauges.calls k _ _ l0 a1_0 a1_1 a1_2 t102 _ ?side1 ?side2 A4.out).mono ?_); (case side1 => repeat (first | exact (Kd.C_below HR0.out HB.out) | (with_reducible refine Kd.C_alloc ?_ _) | (with_reducible refine Kd.C_drewN ?_ _) | (with_reducible refine Kd.C_drew ?_))); (case side2 => exact HC0.out); rintro e w20 ⟨rfl, hb⟩; refine ⟨_, rfl, ?_⟩; have n0_ := zam (zkb (g := gb101) (o := .cells #[.int .i64 a1_0, .int .i64 a1_1, .int .i64 a1_2] 39 (0, 0)) (by (with_reducible repeat (first | refine zkn ?_ _ | refine zkd ?_ | refine zka ?_ _)); exact BK101.out) hb); have n1_ := zam (zbt (by repeat (first | (with_reducible first | exact HB.out | apply zba | apply zbn | apply zb1 | refine zbs ?_ GE101.out) | exact HB.out)) hb); clear BK101; clear HB; have BK101 := n0_; have HB := n1_; clear n0_ n1_; (try clear hb); (try clear hb2); (try clear hk); (try clear hi); have p103 : 0 ≤ (0 : Int) := (by omega); have q103 : 0 < (l0.length : Int) := zod (by first | (with_reducible assumption) | assumption); obtain ⟨ad103, A103_0, c103_0, e103, hx103_0, hl103_0, hi103_0⟩ := at_T45 HR0.out 0 p103 q103; cases e103; have qi103 : (0 < l0.length) = True := eq_true (by omega); (try rw [show ((0 : Int)).toNat = 0 from rfl] at hx103_0); (try rw [Addr.add_zero'] at hx103_0); replace hx103_0 := (HB.out.cell (zwb w _ hx103_0)).trans hx103_0; have HR103_0 := zam hi103_0; have HC103_0 := zam hl103_0; clear hi103_0 hl103_0; replace p103 := eq_true p103; replace q103 := eq_true q103; have hcz21_0 : w20.cell? ⟨gb101, 0, none⟩ = some (.int .i64 a1_0) := (zkc BK101.out 0).trans rfl; have hcz21_1 : w20.cell? ⟨gb101, 1, none⟩ = some (.int .i64 a1_1) := (zkc BK101.out 1).trans rfl; have hcz21_2 : w20.cell? ⟨gb101, 2, none⟩ = some (.int .i64 a1_2) := (zkc BK101.out 2).trans rfl; have hfz21_0 := zkz BK101.out 0; have hfz21_1 := zkz BK101.out 1; have hfz21_2 := zkz BK101.out 2) | ((with_reducible refine zgc (f := 62) rfl ?_); refine goesL_ (some 28) rfl rfl Try.func62 (by kernel_rfl) rfl #[.slice (some ad103) l0.length c0, .agg #[.int .i64 a1_0, .int .i64 a1_1, .int .i64 a1_2]] rfl (by (try simp only [zmt, List.map_cons, List.map_nil]); first | done | rfl | (simp only [zld, zlt]; rfl)) ?_; (with_reducible refine (sound_alarm.calls k _ _ l0 a1_0 a1_1 a1_2 t104 _ ?side1 ?side2 A15.out).mono ?_); (case side1 => repeat (first | exact (Kd.C_below HR0.out HB.out) | (with_reducible refine Kd.C_alloc ?_ _) | (with_reducible refine Kd.C_drewN ?_ _) | (with_reducible refine Kd.C_drew ?_))); (case side2 => exact HC0.out); rintro e w22 ⟨v105, rfl, ho0, hb⟩; refine ⟨_, rfl, ?_⟩; have n0_ := zam (Kd.R_lower ho0 (zbz (by repeat (first | (with_reducible first | exact HB.out | apply zba | apply zbn | apply zb1 | refine zbs ?_ GE101.out) | exact HB.out)))); have n1_ := zam (zkb (g := gb101) (o := .cells #[.int .i64 a1_0, .int .i64 a1_1, .int .i64 a1_2] 39 (0, 0)) (by (with_reducible repeat (first | refine zkn ?_ _ | refine zkd ?_ | refine zka ?_ _)); exact BK101.out) hb); have n2_ := zam (zbt (by repeat (first | (with_reducible first | exact HB.out | apply zba | apply zbn | apply zb1 | refine zbs ?_ GE101.out) | exact HB.out)) hb); clear BK101; clear HB; have HO106 := n0_; have BK101 := n1_; have HB := n2_; clear n0_ n1_ n2_; (try clear hb); (try clear hb2); (try clear hk); (try clear hi); (try clear ho0); obtain ⟨Ao23, co23, eo23⟩ := Kd.R_slice HO106.out; subst eo23; have p107 : 0 ≤ (a2 : Int) := zod (by first | (with_reducible assumption) | assumption); have q107 : a2 < (t104.length : Int) := zod (by first | (with_reducible assumption) | assumption); obtain ⟨ad107, e107, hx107_0⟩ := Kd.at_int (Kd.R_reads' HO106.out).2.2 a2 p107 q107; cases e107; replace p107 := eq_true p107; replace q107 := eq_true q107))
     go_ret2
     exact ⟨by first | rfl | (simp [errW_none, errW_some] <;> rfl) | (simp [*, errW_none, errW_some] <;> rfl), by repeat (first | (with_reducible first | exact HB.out | apply zba | apply zbn | apply zb1 | refine zbs ?_ GE101.out) | exact HB.out)⟩
    rw [if_neg c17] at H
    exact absurd H (by simp)
   rw [if_neg c16] at H
   exact absurd H (by simp)
  rw [if_neg c10] at H
  exact absurd H (by simp)
 rw [if_neg c5] at H
 have c5b0 : (t102 == 0) = false := beq_eq_false_iff_ne.mpr c5
 have c5b1 : (t102 != 0) = true := bne_iff_ne.mpr c5
 simp only [Option.some.injEq, Prod.mk.injEq] at H
 obtain ⟨rfl, rfl⟩ := H
 go_enter Try.func21, Try.ntmps21
 go_wp2_with (first | ((with_reducible refine zgd (N := 4) rfl ?_); (try (refine gate_guard (by rfl) ?_; dsimp only)); refine box_event ?hg (N := 4) ?hd (cs := #[.int .i64 a1_0, .int .i64 a1_1, .int .i64 a1_2]) (t := 39) ?hr ?_; (case hd => rfl); (case hg => rfl); (case hr => first | (go_simp; done) | (go_simp; rfl)); intro gb101 hg w24 hbox hb; have n0_ := zam (zbt (by repeat (first | (with_reducible first | exact HB.out | apply zba | apply zbn | apply zb1) | exact HB.out)) hb); have n1_ := zam (hbox); have n2_ := zam ((by rw [hg]; exact (zbz (by repeat (first | (with_reducible first | exact HB.out | apply zba | apply zbn | apply zb1) | exact HB.out))) : w.heap.size ≤ gb101)); have n3_ := zam ((by rw [hg]; exact (zbz (by repeat (first | (with_reducible first | exact HB.out | apply zba | apply zbn | apply zb1) | exact HB.out))) : w.heap.size ≤ gb101)); clear HB; have HB := n0_; have BK101 := n1_; have GW101 := n2_; have GE101 := n3_; clear n0_ n1_ n2_ n3_; clear hb hbox hg; have hcz25_0 : w24.cell? ⟨gb101, 0, none⟩ = some (.int .i64 a1_0) := (zkc BK101.out 0).trans rfl; have hcz25_1 : w24.cell? ⟨gb101, 1, none⟩ = some (.int .i64 a1_1) := (zkc BK101.out 1).trans rfl; have hcz25_2 : w24.cell? ⟨gb101, 2, none⟩ = some (.int .i64 a1_2) := (zkc BK101.out 2).trans rfl; have hfz25_0 := zkz BK101.out 0; have hfz25_1 := zkz BK101.out 1; have hfz25_2 := zkz BK101.out 2) | ((with_reducible refine zgc (f := 61) rfl ?_); refine goesL_ (some 11) rfl rfl Try.func61 (by kernel_rfl) rfl #[.slice A0 l0.length c0, .agg #[.int .i64 a1_0, .int .i64 a1_1, .int .i64 a1_2]] rfl (by (try simp only [zmt, List.map_cons, List.map_nil]); first | done | rfl | (simp only [zld, zlt]; rfl)) ?_; (with_reducible refine (sound_checkGauges.calls k _ _ l0 a1_0 a1_1 a1_2 t102 _ ?side1 ?side2 A4.out).mono ?_); (case side1 => repeat (first | exact (Kd.C_below HR0.out HB.out) | (with_reducible refine Kd.C_alloc ?_ _) | (with_reducible refine Kd.C_drewN ?_ _) | (with_reducible refine Kd.C_drew ?_))); (case side2 => exact HC0.out); rintro e w26 ⟨rfl, hb⟩; refine ⟨_, rfl, ?_⟩; have n0_ := zam (zkb (g := gb101) (o := .cells #[.int .i64 a1_0, .int .i64 a1_1, .int .i64 a1_2] 39 (0, 0)) (by (with_reducible repeat (first | refine zkn ?_ _ | refine zkd ?_ | refine zka ?_ _)); exact BK101.out) hb); have n1_ := zam (zbt (by repeat (first | (with_reducible first | exact HB.out | apply zba | apply zbn | apply zb1 | refine zbs ?_ GE101.out) | exact HB.out)) hb); clear BK101; clear HB; have BK101 := n0_; have HB := n1_; clear n0_ n1_; (try clear hb); (try clear hb2); (try clear hk); (try clear hi)))
 go_ret2
 exact ⟨by first | rfl | (simp [errW_none, errW_some] <;> rfl) | (simp [*, errW_none, errW_some] <;> rfl), by repeat (first | (with_reducible first | exact HB.out | apply zba | apply zbn | apply zb1 | refine zbs ?_ GE101.out) | exact HB.out)⟩
mutual
def isobathlaw07_SoundSure.j0 : Nat → List (S45) → List Int → Bool → Int → Int → Int → Option (Bool)
 | 0, _, _, _, _, _, _ => none
 | k + 1, x0, x2, x31, x102000, x102001, x102002 => if x31 = true then ((isobathlaw07_Works.f k).bind fun t103 => (some t103)) else (isobathlaw07_SoundSure.l0 k x0 x2 ([] : List (List Int)) 0 0 x102000 x102001 x102002)
def isobathlaw07_SoundSure.l0 : Nat → List (S45) → List Int → List (List Int) → Int → Int → Int → Int → Int → Option (Bool)
 | 0, _, _, _, _, _, _, _, _ => none
 | k + 1, x0, x2, x7, x8, x9, x102000, x102001, x102002 => if x9 < (x0.length : Int) then (isobathlaw07_SoundSure.l1 k x0 x2 x7 x8 x9 ([] : List Int) 0 x102000 x102001 x102002) else (isobathlaw07_SoundSure.l2 k x0 x7 0 0 x102000 x102001 x102002)
def isobathlaw07_SoundSure.l1 : Nat → List (S45) → List Int → List (List Int) → Int → Int → List Int → Int → Int → Int → Int → Option (Bool)
 | 0, _, _, _, _, _, _, _, _, _, _ => none
 | k + 1, x0, x2, x7, x8, x9, x10, x11, x102000, x102001, x102002 => if 0 ≤ x9 then (if x9 < (x0.length : Int) then (if x11 < (((rd_T45 x0 x9).f0).length : Int) then (if 0 ≤ x11 then ((isobathref01_Valid.f ((rd_T24 ((rd_T45 x0 x9).f0) x11).f0) ((rd_T24 ((rd_T45 x0 x9).f0) x11).f1)).bind fun t110 => (if t110 = true then ((isobathlaw07_pick.f x2 x8).bind fun t113 => ((isobathlaw01_Part.f ((rd_T24 ((rd_T45 x0 x9).f0) x11).f0) ((rd_T24 ((rd_T45 x0 x9).f0) x11).f1) t113).bind fun t114 => (if x10.length < 17592186044416 then (isobathlaw07_SoundSure.l1 k x0 x2 x7 (wrap64 (x8 + 1)) x9 (x10 ++ [t114]) (wrap64 (x11 + 1)) x102000 x102001 x102002) else (none)))) else ((isobathlaw07_Works.f k).bind fun t118 => (some t118)))) else (none)) else (if x7.length < 5864062014805 then (isobathlaw07_SoundSure.l0 k x0 x2 (x7 ++ [x10]) x8 (wrap64 (x9 + 1)) x102000 x102001 x102002) else (none))) else (none)) else (none)
def isobathlaw07_SoundSure.l2 : Nat → List (S45) → List (List Int) → Int → Int → Int → Int → Int → Option (Bool)
 | 0, _, _, _, _, _, _, _ => none
 | k + 1, x0, x7, x12, x13, x102000, x102001, x102002 => if 0 < (x0.length : Int) then (if x13 < (((rd_T45 x0 0).f0).length : Int) then ((sound_Raised.f k x0 x102000 x102001 x102002 x13).bind fun bt120 => (if bt120.2 = 0 then ((isobathlaw07_alarm.f k x7 x102000 x102001 x102002 x13).bind fun t122 => (if bt120.1 = 2 then (if t122 = true then (if bt120.1 = 0 then (none) else (if bt120.1 < x12 then (none) else (isobathlaw07_SoundSure.l2 k x0 x7 bt120.1 (wrap64 (x13 + 1)) x102000 x102001 x102002))) else (none)) else (if bt120.1 = 0 then (if t122 = true then (none) else (if bt120.1 < x12 then (none) else (isobathlaw07_SoundSure.l2 k x0 x7 bt120.1 (wrap64 (x13 + 1)) x102000 x102001 x102002))) else (if bt120.1 < x12 then (none) else (isobathlaw07_SoundSure.l2 k x0 x7 bt120.1 (wrap64 (x13 + 1)) x102000 x102001 x102002))))) else ((isobathlaw07_Works.f k).bind fun t123 => (some t123)))) else ((sound_First.f k x0 x102000 x102001 x102002).bind fun bt124 => (if bt124.2.2 = 0 then (if bt124.2.1 ≥ 0 then (if bt124.2.1 ≤ bt124.1 then (if bt124.1 < (((rd_T45 x0 0).f0).length : Int) then ((isobathlaw07_alarm.f k x7 x102000 x102001 x102002 bt124.1).bind fun t128 => (if t128 = true then (if bt124.2.1 = 0 then ((isobathlaw07_Works.f k).bind fun t129 => (some t129)) else ((isobathlaw07_alarm.f k x7 x102000 x102001 x102002 (wrap64 (bt124.2.1 - 1))).bind fun t130 => (if t130 = true then (none) else ((isobathlaw07_Works.f k).bind fun t131 => (some t131))))) else (none))) else (none)) else (none)) else (none)) else (if bt124.2.2 = 5 then (if x12 = 2 then (none) else ((isobathlaw07_Works.f k).bind fun t132 => (some t132))) else ((isobathlaw07_Works.f k).bind fun t133 => (some t133)))))) else (none)
end
def isobathlaw07_SoundSure.f (k : Nat) (l0 : List (S45)) (a1_0 : Int) (a1_1 : Int) (a1_2 : Int) (l2 : List Int) : Option (Bool) := (isobathlaw07_huge.f k l0).bind fun t102 => (if t102 = true then (isobathlaw07_SoundSure.j0 k l0 l2 true a1_0 a1_1 a1_2) else (if (l0.length : Int) = 0 then (isobathlaw07_SoundSure.j0 k l0 l2 true a1_0 a1_1 a1_2) else (isobathlaw07_SoundSure.j0 k l0 l2 (decide ((l0.length : Int) > 16)) a1_0 a1_1 a1_2)))
def isobathlaw07_SoundSure.T14 : Bool × List (List Nat × List Nat) := (true, [([], []), ([], []), ([], []), ([1, 2], [1, 2]), ([3], [3]), ([4], [4]), ([], []), ([5, 6], [5, 6]), ([7], [7]), ([], []), ([], []), ([9, 10], [9, 10]), ([8, 11, 11], [8, 11]), ([12], [12]), ([0, 13, 12], [0, 13]), ([14, 14, 0, 1, 2, 3, 4, 5, 6, 7, 8, 9, 10, 11, 12, 13, 14], [0, 14])])
def isobathlaw07_SoundSure.B14 : List Nat := [0, 0, 0, 6, 14, 30, 0, 126, 254, 0, 0, 1536, 4094, 8190, 16383, 32767]
theorem isobathlaw07_SoundSure.tab14 : rtab .any (opsOf Try.f4 14) = isobathlaw07_SoundSure.T14 := by kernel_rfl
theorem isobathlaw07_SoundSure.bits14 : waitsOk isobathlaw07_SoundSure.T14.2 isobathlaw07_SoundSure.B14 = true := by kernel_rfl
set_option maxHeartbeats 8000000 in
set_option maxRecDepth 100000 in
theorem isobathlaw07_SoundSure.calls (k : Nat) (A0 : Option Addr) (c0 : Nat) (l0 : List (S45)) (a1_0 : Int) (a1_1 : Int) (a1_2 : Int) (A2 : Option Addr) (c2 : Nat) (l2 : List Int) (r : Bool) (w : World) (hr0 : Kd.C k45 w A0 l0.length l0) (hc0 : l0.length ≤ c0) (hr2 : Kd.C (Kd.int .u16) w A2 l2.length l2) (hc2 : l2.length ≤ c2) (h : isobathlaw07_SoundSure.f k l0 a1_0 a1_1 a1_2 l2 = some r) :
  Calls Try.prog 4 #[.slice A0 l0.length c0, .agg #[.int .i64 a1_0, .int .i64 a1_1, .int .i64 a1_2], .slice A2 l2.length c2] w fun e w' => e = .returned (.bool r) ∧ Below w.heap.size w w' := by
 have hu39 := Try.underlying39
 have hu24 := Try.underlying24
 have HR0 := zam hr0
 have HC0 := zam hc0
 clear hr0 hc0
 have HR2 := zam hr2
 have HC2 := zam hc2
 clear hr2 hc2
 have HB := zam (Below.refl w.heap.size w)
 have H : ((isobathlaw07_huge.f k l0).bind fun t102 => (if t102 = true then (isobathlaw07_SoundSure.j0 k l0 l2 true a1_0 a1_1 a1_2) else (if (l0.length : Int) = 0 then (isobathlaw07_SoundSure.j0 k l0 l2 true a1_0 a1_1 a1_2) else (isobathlaw07_SoundSure.j0 k l0 l2 (decide ((l0.length : Int) > 16)) a1_0 a1_1 a1_2)))) = some r := h
 clear h
 have HC4 := zam H
 clear H
 go_enter Try.func4, Try.ntmps4
 go_upto_region 1 with (first | ((with_reducible refine zgd (N := 4) rfl ?_); (try (refine gate_guard (by rfl) ?_; dsimp only)); refine box_event ?hg (N := 4) ?hd (cs := #[.int .i64 a1_0, .int .i64 a1_1, .int .i64 a1_2]) (t := 39) ?hr ?_; (case hd => rfl); (case hg => rfl); (case hr => first | (go_simp; done) | (go_simp; rfl)); intro gb101 hg w5 hbox hb; have n0_ := zam (zbt (by repeat (first | (with_reducible first | exact HB.out | apply zba | apply zbn | apply zb1) | exact HB.out)) hb); have n1_ := zam (hbox); have n2_ := zam ((by rw [hg]; exact (zbz (by repeat (first | (with_reducible first | exact HB.out | apply zba | apply zbn | apply zb1) | exact HB.out))) : w.heap.size ≤ gb101)); have n3_ := zam ((by rw [hg]; exact (zbz (by repeat (first | (with_reducible first | exact HB.out | apply zba | apply zbn | apply zb1) | exact HB.out))) : w.heap.size ≤ gb101)); clear HB; have HB := n0_; have BK101 := n1_; have GW101 := n2_; have GE101 := n3_; clear n0_ n1_ n2_ n3_; clear hb hbox hg))
 (try simp only [Act.put, zsa, zsz, zss])
 go_cut [31] (fun v31 wc => ∃ (kq : Nat) (x31_3 : Bool), v31 = .bool x31_3 ∧ Aside0 (isobathlaw07_SoundSure.j0 kq l0 l2 x31_3 a1_0 a1_1 a1_2 = some r) ∧ Aside0 (kq ≤ k) ∧ Aside0 (wc.heap[gb101]? = some (.cells #[.int .i64 a1_0, .int .i64 a1_1, .int .i64 a1_2] 39 (0, 0))) ∧ Aside0 (Below w.heap.size w wc))
 case first =>
  have H := HC4.out
  clear HC4
  replace H := Option.bind_eq_some_iff.mp H
  obtain ⟨t102, A60, H⟩ := H
  replace H : (if t102 = true then (isobathlaw07_SoundSure.j0 k l0 l2 true a1_0 a1_1 a1_2) else (if (l0.length : Int) = 0 then (isobathlaw07_SoundSure.j0 k l0 l2 true a1_0 a1_1 a1_2) else (isobathlaw07_SoundSure.j0 k l0 l2 (decide ((l0.length : Int) > 16)) a1_0 a1_1 a1_2))) = some r := H
  have A6 := zam A60
  clear A60
  by_cases c7 : t102 = true
  ·subst c7
   have H1 : (isobathlaw07_SoundSure.j0 k l0 l2 true a1_0 a1_1 a1_2) = some r := by rw [if_pos rfl] at H; exact H
   clear H
   have H := H1
   clear H1
   have H' := zam H
   clear H
   go_wp2_with (first | ((with_reducible refine zgc (f := 17) rfl ?_); refine goesL_ (some 21) rfl rfl Try.func17 (by kernel_rfl) rfl #[.slice A0 l0.length c0] rfl (by (try simp only [zmt, List.map_cons, List.map_nil]); first | done | rfl | (simp only [zld, zlt]; rfl)) ?_; (with_reducible refine (isobathlaw07_huge.calls k _ _ l0 true _ ?side1 ?side2 A6.out).mono ?_); (case side1 => repeat (first | exact (Kd.C_below HR0.out HB.out) | (with_reducible refine Kd.C_alloc ?_ _) | (with_reducible refine Kd.C_drewN ?_ _) | (with_reducible refine Kd.C_drew ?_))); (case side2 => exact HC0.out); rintro e w' ⟨rfl, ⟨nd, rfl⟩⟩; refine ⟨_, rfl, ?_⟩))
   go_meet
   case rel => exact ⟨_, (true), (by first | rfl | (simp; done) | (simp [*]; done)), H', ⟨by first | omega | exact Nat.le_refl _⟩, ⟨by (with_reducible repeat (first | refine zkn ?_ _ | refine zkd ?_ | refine zka ?_ _)); exact BK101.out⟩, ⟨by repeat (first | (with_reducible first | exact HB.out | apply zba | apply zbn | apply zb1 | refine zbs ?_ GE101.out) | exact HB.out)⟩⟩
  replace c7 := Bool.eq_false_iff.mpr c7
  subst c7
  have H1 : (if (l0.length : Int) = 0 then (isobathlaw07_SoundSure.j0 k l0 l2 true a1_0 a1_1 a1_2) else (isobathlaw07_SoundSure.j0 k l0 l2 (decide ((l0.length : Int) > 16)) a1_0 a1_1 a1_2)) = some r := by rw [if_neg (show ¬ (false = true) by decide)] at H; exact H
  clear H
  have H := H1
  clear H1
  by_cases c8 : (l0.length : Int) = 0
  ·rw [if_pos c8] at H
   have c8b0 : ((l0.length : Int) == 0) = true := beq_iff_eq.mpr c8
   have c8b1 : ((l0.length : Int) != 0) = false := bne_eq_false_iff_eq.mpr c8
   clear c8
   (first | rw [c8b0] | (simp only [i64_w, i32_w]; rw [c8b0]) | skip)
   have H' := zam H
   clear H
   go_wp2_with (first | ((with_reducible refine zgc (f := 17) rfl ?_); refine goesL_ (some 21) rfl rfl Try.func17 (by kernel_rfl) rfl #[.slice A0 l0.length c0] rfl (by (try simp only [zmt, List.map_cons, List.map_nil]); first | done | rfl | (simp only [zld, zlt]; rfl)) ?_; (with_reducible refine (isobathlaw07_huge.calls k _ _ l0 false _ ?side1 ?side2 A6.out).mono ?_); (case side1 => repeat (first | exact (Kd.C_below HR0.out HB.out) | (with_reducible refine Kd.C_alloc ?_ _) | (with_reducible refine Kd.C_drewN ?_ _) | (with_reducible refine Kd.C_drew ?_))); (case side2 => exact HC0.out); rintro e w' ⟨rfl, ⟨nd, rfl⟩⟩; refine ⟨_, rfl, ?_⟩))
   go_meet
   case rel => exact ⟨_, (true), (by first | rfl | (simp; done) | (simp [*]; done)), H', ⟨by first | omega | exact Nat.le_refl _⟩, ⟨by (with_reducible repeat (first | refine zkn ?_ _ | refine zkd ?_ | refine zka ?_ _)); exact BK101.out⟩, ⟨by repeat (first | (with_reducible first | exact HB.out | apply zba | apply zbn | apply zb1 | refine zbs ?_ GE101.out) | exact HB.out)⟩⟩
  rw [if_neg c8] at H
  have c8b0 : ((l0.length : Int) == 0) = false := beq_eq_false_iff_ne.mpr c8
  have c8b1 : ((l0.length : Int) != 0) = true := bne_iff_ne.mpr c8
  have c8b2 : ¬ (l0 = []) := fun h_ => c8 (by rw [h_]; rfl)
  (first | rw [c8b0] | (simp only [i64_w, i32_w]; rw [c8b0]) | skip)
  have H' := zam H
  clear H
  go_wp2_with (first | ((with_reducible refine zgc (f := 17) rfl ?_); refine goesL_ (some 21) rfl rfl Try.func17 (by kernel_rfl) rfl #[.slice A0 l0.length c0] rfl (by (try simp only [zmt, List.map_cons, List.map_nil]); first | done | rfl | (simp only [zld, zlt]; rfl)) ?_; (with_reducible refine (isobathlaw07_huge.calls k _ _ l0 false _ ?side1 ?side2 A6.out).mono ?_); (case side1 => repeat (first | exact (Kd.C_below HR0.out HB.out) | (with_reducible refine Kd.C_alloc ?_ _) | (with_reducible refine Kd.C_drewN ?_ _) | (with_reducible refine Kd.C_drew ?_))); (case side2 => exact HC0.out); rintro e w' ⟨rfl, ⟨nd, rfl⟩⟩; refine ⟨_, rfl, ?_⟩))
  go_meet
  case rel => exact ⟨_, (decide ((l0.length : Int) > 16)), (by first | rfl | (simp; done) | (simp [*]; done)), H', ⟨by first | omega | exact Nat.le_refl _⟩, ⟨by (with_reducible repeat (first | refine zkn ?_ _ | refine zkd ?_ | refine zka ?_ _)); exact BK101.out⟩, ⟨by repeat (first | (with_reducible first | exact HB.out | apply zba | apply zbn | apply zb1 | refine zbs ?_ GE101.out) | exact HB.out)⟩⟩
 case rest =>
  clear HC4
  try clear c1
  try clear c2
  try clear p2
  try clear c4
  try clear c7
  try clear c8
  try clear c8b0
  try clear c8b1
  try clear c8b2
  obtain ⟨kq, x31_3, rfl, HA, HJ3, BK101, HB⟩ := hcut
  cases kq with
  | zero => exact absurd HA.out (by simp [isobathlaw07_SoundSure.j0])
  | succ kj3 =>
   have H := HA.out
   clear HA
   simp only [isobathlaw07_SoundSure.j0] at H
   by_cases c9 : x31_3 = true
   ·subst c9
    have H1 : ((isobathlaw07_Works.f kj3).bind fun t103 => (some t103)) = some r := by rw [if_pos rfl] at H; exact H
    clear H
    have H := H1
    clear H1
    replace H := Option.bind_eq_some_iff.mp H
    obtain ⟨t103, A100, H⟩ := H
    replace H : (some t103) = some r := H
    have A10 := zam A100
    clear A100
    obtain rfl := zsi H
    go_wp2_with (first | ((with_reducible refine zgc (f := 14) rfl ?_); refine goesL_ (some 32) rfl rfl Try.func14 (by kernel_rfl) rfl #[] rfl (by (try simp only [zmt, List.map_cons, List.map_nil]); first | done | rfl | (simp only [zld, zlt]; rfl)) ?_; (with_reducible refine (isobathlaw07_Works.calls kj3  t103 _ A10.out).mono ?_); rintro e w11 ⟨rfl, hb⟩; refine ⟨_, rfl, ?_⟩; have n0_ := zam (zkb (g := gb101) (o := .cells #[.int .i64 a1_0, .int .i64 a1_1, .int .i64 a1_2] 39 (0, 0)) (by (with_reducible repeat (first | refine zkn ?_ _ | refine zkd ?_ | refine zka ?_ _)); exact BK101.out) hb); have n1_ := zam (zbt (by repeat (first | (with_reducible first | exact HB.out | apply zba | apply zbn | apply zb1 | refine zbs ?_ GE101.out) | exact HB.out)) hb); clear BK101; clear HB; have BK101 := n0_; have HB := n1_; clear n0_ n1_; (try clear hb); (try clear hb2); (try clear hk); (try clear hi)))
    go_ret
    exact ⟨by first | rfl | (simp [errW_none, errW_some] <;> rfl) | (simp [*, errW_none, errW_some] <;> rfl), by repeat (first | (with_reducible first | exact HB.out | apply zba | apply zbn | apply zb1 | refine zbs ?_ GE101.out) | exact HB.out)⟩
   replace c9 := Bool.eq_false_iff.mpr c9
   subst c9
   have H1 : (isobathlaw07_SoundSure.l0 kj3 l0 l2 ([] : List (List Int)) 0 0 a1_0 a1_1 a1_2) = some r := by rw [if_neg (show ¬ (false = true) by decide)] at H; exact H
   clear H
   have H := H1
   clear H1
   have H' := zam H
   clear H
   go_wp2
   go_loopg [7, 8, 9] kj3 (fun kq v7 v8 v9 w' => ∃ (x7_2 : List (List Int)) (x8_2 : Int) (x9_2 : Int), v8 = .int .i64 x8_2 ∧ v9 = .int .i64 x9_2 ∧ Aside0 (isobathlaw07_SoundSure.l0 kq l0 l2 x7_2 x8_2 x9_2 a1_0 a1_1 a1_2 = some r) ∧ Aside0 (kq ≤ kj3) ∧ Aside0 (Kd.S (Kd.slice 2 (Kd.int .i64)) 43 w' w.heap.size (fun _ => True) v7 x7_2) ∧ Aside0 (w'.heap[gb101]? = some (.cells #[.int .i64 a1_0, .int .i64 a1_1, .int .i64 a1_2] 39 (0, 0))) ∧ Aside0 (Below w.heap.size w w'))
   case atStart => exact ⟨(([] : List (List Int))), (0), (0), (by first | rfl | (simp; done) | (simp [*]; done)), (by first | rfl | (simp; done) | (simp [*]; done)), H', ⟨Nat.le_refl _⟩, ⟨by first | exact Kd.S_nil _ _ _ _ _ | exact Kd.N_nil _ _ _ _ _ | exact Kd.V_nil _ _ _ _ _ | exact Kd.Q_nil _ _ _ _ _ | exact Kd.R_nil _ _ _ _ _⟩, ⟨by (with_reducible repeat (first | refine zkn ?_ _ | refine zkd ?_ | refine zka ?_ _)); exact BK101.out⟩, ⟨by repeat (first | (with_reducible first | exact HB.out | apply zba | apply zbn | apply zb1 | refine zbs ?_ GE101.out) | exact HB.out)⟩⟩
   case round =>
    clear H'
    try clear c1
    try clear c2
    try clear p2
    try clear c4
    try clear c7
    try clear c8
    try clear c8b0
    try clear c8b1
    try clear c8b2
    try clear c9
    try clear p2
    obtain ⟨x7_2, x8_2, x9_2, rfl, rfl, HA, HK2, HO_7, BK101, HB⟩ := hrel
    cases gk with
    | zero => exact absurd HA.out (by simp [isobathlaw07_SoundSure.l0])
    | succ k2 =>
     have H := HA.out
     clear HA
     simp only [isobathlaw07_SoundSure.l0] at H
     by_cases c12 : x9_2 < (l0.length : Int)
     ·rw [if_pos c12] at H
      have c12b0 : decide (x9_2 < (l0.length : Int)) = true := zdt c12
      clear c12
      have H' := zam H
      clear H
      go_wp2
      go_loopg [8, 10, 11] k2 (fun kq v8 v10 v11 w' => ∃ (x8_3 : Int) (x10_3 : List Int) (x11_3 : Int), v8 = .int .i64 x8_3 ∧ v11 = .int .i64 x11_3 ∧ Aside0 (isobathlaw07_SoundSure.l1 kq l0 l2 x7_2 x8_3 x9_2 x10_3 x11_3 a1_0 a1_1 a1_2 = some r) ∧ Aside0 (kq ≤ k2) ∧ Aside0 (Kd.S (Kd.slice 2 (Kd.int .i64)) 43 w' w.heap.size (fun k_ => some k_ ≠ (v10 : Value).ownBlock) u7 x7_2) ∧ Aside0 (Kd.R (Kd.int .i64) 2 w' w.heap.size (fun _ => True) v10 x10_3) ∧ Aside0 (w'.heap[gb101]? = some (.cells #[.int .i64 a1_0, .int .i64 a1_1, .int .i64 a1_2] 39 (0, 0))) ∧ Aside0 (Below w.heap.size w w'))
      case atStart => exact ⟨(x8_2), (([] : List Int)), (0), (by first | rfl | (simp; done) | (simp [*]; done)), (by first | rfl | (simp; done) | (simp [*]; done)), H', ⟨Nat.le_refl _⟩, ⟨by (with_reducible repeat (first | apply Kd.S_alloc | apply Kd.S_drewN | apply Kd.S_drew)); exact Kd.S_mono HO_7.out (fun _ hk => (by simp [Value.ownBlock]))⟩, ⟨by first | exact Kd.R_nil _ _ _ _ _ | exact Kd.N_nil _ _ _ _ _ | exact Kd.V_nil _ _ _ _ _ | exact Kd.Q_nil _ _ _ _ _ | exact Kd.S_nil _ _ _ _ _⟩, ⟨by (with_reducible repeat (first | refine zkn ?_ _ | refine zkd ?_ | refine zka ?_ _)); exact BK101.out⟩, ⟨by repeat (first | (with_reducible first | exact HB.out | apply zba | apply zbn | apply zb1 | refine zbs ?_ GE101.out) | exact HB.out)⟩⟩
      case round =>
       clear H'
       try clear c1
       try clear c2
       try clear p2
       try clear c4
       try clear c7
       try clear c8
       try clear c8b0
       try clear c8b1
       try clear c8b2
       try clear c9
       try clear c12
       try clear c12b0
       try clear p2
       obtain ⟨x8_3, x10_3, x11_3, rfl, rfl, HA, HK3, HO_7, HO_10, BK101, HB⟩ := hrel
       cases gk with
       | zero => exact absurd HA.out (by simp [isobathlaw07_SoundSure.l1])
       | succ k3 =>
        have H := HA.out
        clear HA
        simp only [isobathlaw07_SoundSure.l1] at H
        by_cases c13 : 0 ≤ x9_2
        ·rw [if_pos c13] at H
         have c13b0 : decide (0 ≤ x9_2) = true := zdt c13
         clear c13
         by_cases c14 : x9_2 < (l0.length : Int)
         ·rw [if_pos c14] at H
          have c14b0 : decide (x9_2 < (l0.length : Int)) = true := zdt c14
          clear c14
          by_cases c15 : x11_3 < (((rd_T45 l0 x9_2).f0).length : Int)
          ·rw [if_pos c15] at H
           have c15b0 : decide (x11_3 < (((rd_T45 l0 x9_2).f0).length : Int)) = true := zdt c15
           clear c15
           by_cases c16 : 0 ≤ x11_3
           ·rw [if_pos c16] at H
            have c16b0 : decide (0 ≤ x11_3) = true := zdt c16
            clear c16
            replace H := Option.bind_eq_some_iff.mp H
            obtain ⟨t110, A170, H⟩ := H
            replace H : (if t110 = true then ((isobathlaw07_pick.f l2 x8_3).bind fun t113 => ((isobathlaw01_Part.f ((rd_T24 ((rd_T45 l0 x9_2).f0) x11_3).f0) ((rd_T24 ((rd_T45 l0 x9_2).f0) x11_3).f1) t113).bind fun t114 => (if x10_3.length < 17592186044416 then (isobathlaw07_SoundSure.l1 k3 l0 l2 x7_2 (wrap64 (x8_3 + 1)) x9_2 (x10_3 ++ [t114]) (wrap64 (x11_3 + 1)) a1_0 a1_1 a1_2) else (none)))) else ((isobathlaw07_Works.f k3).bind fun t118 => (some t118))) = some r := H
            have A17 := zam A170
            clear A170
            by_cases c18 : t110 = true
            ·subst c18
             have H1 : ((isobathlaw07_pick.f l2 x8_3).bind fun t113 => ((isobathlaw01_Part.f ((rd_T24 ((rd_T45 l0 x9_2).f0) x11_3).f0) ((rd_T24 ((rd_T45 l0 x9_2).f0) x11_3).f1) t113).bind fun t114 => (if x10_3.length < 17592186044416 then (isobathlaw07_SoundSure.l1 k3 l0 l2 x7_2 (wrap64 (x8_3 + 1)) x9_2 (x10_3 ++ [t114]) (wrap64 (x11_3 + 1)) a1_0 a1_1 a1_2) else (none)))) = some r := by rw [if_pos rfl] at H; exact H
             clear H
             have H := H1
             clear H1
             replace H := Option.bind_eq_some_iff.mp H
             obtain ⟨t113, A190, H⟩ := H
             replace H : ((isobathlaw01_Part.f ((rd_T24 ((rd_T45 l0 x9_2).f0) x11_3).f0) ((rd_T24 ((rd_T45 l0 x9_2).f0) x11_3).f1) t113).bind fun t114 => (if x10_3.length < 17592186044416 then (isobathlaw07_SoundSure.l1 k3 l0 l2 x7_2 (wrap64 (x8_3 + 1)) x9_2 (x10_3 ++ [t114]) (wrap64 (x11_3 + 1)) a1_0 a1_1 a1_2) else (none))) = some r := H
             have A19 := zam A190
             clear A190
             replace H := Option.bind_eq_some_iff.mp H
             obtain ⟨t114, A200, H⟩ := H
             replace H : (if x10_3.length < 17592186044416 then (isobathlaw07_SoundSure.l1 k3 l0 l2 x7_2 (wrap64 (x8_3 + 1)) x9_2 (x10_3 ++ [t114]) (wrap64 (x11_3 + 1)) a1_0 a1_1 a1_2) else (none)) = some r := H
             have A20 := zam A200
             clear A200
             by_cases c21 : x10_3.length < 17592186044416
             ·rw [if_pos c21] at H
              have LMc21 := zam c21
              clear c21
              obtain ⟨y115, hy115⟩ : ∃ y_ : List Int, y_ = (x10_3 ++ [t114]) := ⟨_, rfl⟩
              replace H : (isobathlaw07_SoundSure.l1 k3 l0 l2 x7_2 (wrap64 (x8_3 + 1)) x9_2 y115 (wrap64 (x11_3 + 1)) a1_0 a1_1 a1_2) = some r := by first | (rw [hy115]; with_reducible exact H) | (have H2_ := (Option.bind_some _ _).symm.trans H; rw [hy115]; with_reducible exact H2_) | (have H2_ := (Option.bind_some _ _).symm.trans H; with_reducible exact H2_) | with_reducible exact H | (rw [hy115]; exact H) | exact H
              have Ny115 := zam hy115
              clear hy115
              have H' := zam H
              clear H
              have p104 : 0 ≤ (x9_2 : Int) := zod (by first | (with_reducible assumption) | assumption)
              have q104 : x9_2 < (l0.length : Int) := zod (by first | (with_reducible assumption) | assumption)
              obtain ⟨ad104, A104_0, c104_0, e104, hx104_0, hl104_0, hi104_0⟩ := at_T45 HR0.out x9_2 p104 q104
              have hw104_0 := zam hx104_0
              cases e104
              replace hx104_0 := (HB.out.cell (zwb w _ hx104_0)).trans hx104_0
              have HR104_0 := zam hi104_0
              have HC104_0 := zam hl104_0
              clear hi104_0 hl104_0
              replace p104 := eq_true p104
              replace q104 := eq_true q104
              have p108 : 0 ≤ (x9_2 : Int) := zod (by first | (with_reducible assumption) | assumption)
              have q108 : x9_2 < (l0.length : Int) := zod (by first | (with_reducible assumption) | assumption)
              obtain ⟨ad108, A108_0, c108_0, e108, hx108_0, hl108_0, hi108_0⟩ := at_T45 HR0.out x9_2 p108 q108
              obtain rfl : ad104 = ad108 := (by injection e108)
              replace hx108_0 := (HB.out.cell (zwb w _ hx108_0)).trans hx108_0
              have HR108_0 := zam hi108_0
              have HC108_0 := zam hl108_0
              clear hi108_0 hl108_0
              replace p108 := eq_true p108
              replace q108 := eq_true q108
              have ea_ := zsi (hx104_0.symm.trans hx108_0)
              injection ea_ with ea_ en_ ec_
              subst ea_
              subst ec_
              clear en_
              have p109 : 0 ≤ (x11_3 : Int) := zod (by first | (with_reducible assumption) | assumption)
              have q109 : x11_3 < (((rd_T45 l0 x9_2).f0).length : Int) := zod (by first | (with_reducible assumption) | assumption)
              obtain ⟨ad109, e109, hx109_0, hx109_1⟩ := at_T24 HR108_0.out x11_3 p109 q109
              cases e109
              replace hx109_0 := (HB.out.cell (zwb w _ hx109_0)).trans hx109_0
              replace hx109_1 := (HB.out.cell (zwb w _ hx109_1)).trans hx109_1
              replace p109 := eq_true p109
              replace q109 := eq_true q109
              try go_wp2_with (first | ((with_reducible refine zgc (f := 18) rfl ?_); refine goesL_ (some 57) rfl rfl Try.func18 (by kernel_rfl) rfl #[.agg #[.int .i64 ((rd_T24 ((rd_T45 l0 x9_2).f0) x11_3).f0), .int .i64 ((rd_T24 ((rd_T45 l0 x9_2).f0) x11_3).f1)]] rfl (by (try simp only [zmt, List.map_cons, List.map_nil]); first | done | rfl | (simp only [zld, zlt]; rfl)) ?_; (with_reducible refine (isobathref01_Valid.calls ((rd_T24 ((rd_T45 l0 x9_2).f0) x11_3).f0) ((rd_T24 ((rd_T45 l0 x9_2).f0) x11_3).f1) true _ A17.out).mono ?_); rintro e w22 ⟨rfl, hb⟩; refine ⟨_, rfl, ?_⟩; have n0_ := zam (Kd.S_below (by (with_reducible repeat (first | apply Kd.S_alloc | apply Kd.S_drewN | apply Kd.S_drew)); exact HO_7.out) hb); have n1_ := zam (Kd.R_below (by (with_reducible repeat (first | apply zRa | apply zRn | apply zRd)); exact HO_10.out) hb); have n2_ := zam (zkb (g := gb101) (o := .cells #[.int .i64 a1_0, .int .i64 a1_1, .int .i64 a1_2] 39 (0, 0)) (by (with_reducible repeat (first | refine zkn ?_ _ | refine zkd ?_ | refine zka ?_ _)); exact BK101.out) hb); have n3_ := zam (zbt (by repeat (first | (with_reducible first | exact HB.out | apply zba | apply zbn | apply zb1 | refine zbs ?_ GE101.out) | exact HB.out)) hb); clear HO_7; clear HO_10; clear BK101; clear HB; have HO_7 := n0_; have HO_10 := n1_; have BK101 := n2_; have HB := n3_; clear n0_ n1_ n2_ n3_; (try clear hb); (try clear hb2); (try clear hk); (try clear hi)))
              have n0_ := zam (Kd.S_drew HO_7.out)
              have n1_ := zam (zRd HO_10.out)
              have n2_ := zam (zkd BK101.out)
              have n3_ := zam (zb1 HB.out)
              clear HO_7
              clear HO_10
              clear BK101
              clear HB
              have HO_7 := n0_
              have HO_10 := n1_
              have BK101 := n2_
              have HB := n3_
              clear n0_ n1_ n2_ n3_
              have p111 : 0 ≤ (x9_2 : Int) := zod (by first | (with_reducible assumption) | assumption)
              have q111 : x9_2 < (l0.length : Int) := zod (by first | (with_reducible assumption) | assumption)
              obtain ⟨ad111, A111_0, c111_0, e111, hx111_0, hl111_0, hi111_0⟩ := at_T45 HR0.out x9_2 p111 q111
              have hw111_0 := hx111_0
              obtain rfl : ad104 = ad111 := (by injection e111)
              obtain ⟨rfl, rfl⟩ : some ad109 = A111_0 ∧ c104_0 = c111_0 := (by have h_ := zsi (hw104_0.out.symm.trans hw111_0); injection h_ with a_ b_ c_; exact ⟨a_, c_⟩)
              replace hx111_0 := (HB.out.cell (zwb w _ hx111_0)).trans hx111_0
              have HR111_0 := zam hi111_0
              have HC111_0 := zam hl111_0
              clear hi111_0 hl111_0
              replace p111 := eq_true p111
              replace q111 := eq_true q111
              have p112 : 0 ≤ (x11_3 : Int) := zod (by first | (with_reducible assumption) | assumption)
              have q112 : x11_3 < (((rd_T45 l0 x9_2).f0).length : Int) := zod (by first | (with_reducible assumption) | assumption)
              obtain ⟨ad112, e112, hx112_0, hx112_1⟩ := at_T24 HR111_0.out x11_3 p112 q112
              have hw112_1 := hx112_1
              have hw112_0 := hx112_0
              obtain rfl : ad112 = ad109 := (by injection e112 with q_; exact q_.symm)
              replace hx112_0 := (HB.out.cell (zwb w _ hx112_0)).trans hx112_0
              replace hx112_1 := (HB.out.cell (zwb w _ hx112_1)).trans hx112_1
              replace p112 := eq_true p112
              replace q112 := eq_true q112
              refine start_ (n := 16) (S := fun w' => w'.cell? (ad104.add (x9_2).toNat) = some (.slice (some ad112) ((rd_T45 l0 x9_2).f0).length c104_0) ∧ w'.cell? (ad112.add ((x11_3).toNat * 2)) = some (.int .i64 ((rd_T24 ((rd_T45 l0 x9_2).f0) x11_3).f0)) ∧ w'.cell? ⟨(ad112.add ((x11_3).toNat * 2)).block, (ad112.add ((x11_3).toNat * 2)).off + 1, none⟩ = some (.int .i64 ((rd_T24 ((rd_T45 l0 x9_2).f0) x11_3).f1))) (ds := []) #[false, false, false, false, false, false, false, false, false, false, false, false, false, false, false, false] (by kernel_rfl) rfl rfl ⟨((HB.out.cell (zwb w _ hw111_0)).trans hw111_0), ((HB.out.cell (zwb w _ hw112_0)).trans hw112_0), ((HB.out.cell (zwb w _ hw112_1)).trans hw112_1)⟩ (fun hHeld => ?_); refine with_tabW isobathlaw07_SoundSure.tab14 isobathlaw07_SoundSure.bits14 (fun HT_ HW_ => ?_)
              generalize w22.drew = w23 at HO_7 HO_10 BK101 HB HR111_0 hx111_0 hx112_0 hx112_1 hHeld ⊢
              refine pure_ (i := 0) (N := some 60) (v := ?_) (a' := ?_) #[true, false, false, false, false, false, false, false, false, false, false, false, false, false, false, false] rfl rfl (any_of HT_.out (by kernel_rfl)) (fun _ _ _ h => h) (Or.inl ⟨by rfl, ?_⟩) ?_ ?_
              rotate_left
              ·intro w'
               go_simp
               with_reducible rfl
              rotate_left
              ·simp only [Act.put, zsa, zsz, zss, i64_w, i32_w]
               rfl
              refine pure_ (i := 1) (N := some 61) (v := ?_) (a' := ?_) #[true, true, false, false, false, false, false, false, false, false, false, false, false, false, false, false] rfl rfl (any_of HT_.out (by kernel_rfl)) (fun _ _ _ h => h) (Or.inl ⟨by rfl, ?_⟩) ?_ ?_
              rotate_left
              ·intro w'
               go_simp
               with_reducible rfl
              rotate_left
              ·simp only [Act.put, zsa, zsz, zss, i64_w, i32_w]
               rfl
              refine pure_ (i := 2) (N := some 62) (v := ?_) (a' := ?_) #[true, true, true, false, false, false, false, false, false, false, false, false, false, false, false, false] rfl rfl (any_of HT_.out (by kernel_rfl)) (fun _ _ _ h => h) (Or.inl ⟨by rfl, ?_⟩) ?_ ?_
              rotate_left
              ·intro w'
               go_simp
               with_reducible rfl
              rotate_left
              ·simp only [Act.put, zsa, zsz, zss, i64_w, i32_w]
               rfl
              refine pure_ (i := 3) (N := some 63) (v := ?_) (a' := ?_) #[true, true, true, true, false, false, false, false, false, false, false, false, false, false, false, false] rfl rfl (any_of HT_.out (by kernel_rfl)) (fun _ _ _ h => h) (Or.inl ⟨by rfl, ?_⟩) ?_ ?_
              rotate_left
              ·intro w'
               go_simp
               with_reducible rfl
              rotate_left
              ·simp only [Act.put, zsa, zsz, zss, i64_w, i32_w]
               rfl
              refine pure_ (i := 4) (N := some 64) (v := ?_) (a' := ?_) #[true, true, true, true, true, false, false, false, false, false, false, false, false, false, false, false] rfl rfl (any_of HT_.out (by kernel_rfl)) (fun _ _ _ h => h) (Or.inl ⟨by rfl, ?_⟩) ?_ ?_
              rotate_left
              ·intro w'
               go_simp
               with_reducible rfl
              rotate_left
              ·simp only [Act.put, zsa, zsz, zss, i64_w, i32_w]
               rfl
              refine pure_ (i := 6) (N := some 66) (v := ?_) (a' := ?_) #[true, true, true, true, true, false, true, false, false, false, false, false, false, false, false, false] rfl rfl (any_of HT_.out (by kernel_rfl)) (fun _ _ _ h => h) (Or.inl ⟨by rfl, ?_⟩) ?_ ?_
              rotate_left
              ·intro w'
               go_simp
               with_reducible rfl
              rotate_left
              ·simp only [Act.put, zsa, zsz, zss, i64_w, i32_w]
               rfl
              refine pure_ (i := 9) (N := some 69) (v := ?_) (a' := ?_) #[true, true, true, true, true, false, true, false, false, true, false, false, false, false, false, false] rfl rfl (any_of HT_.out (by kernel_rfl)) (fun _ _ _ h => h) (Or.inl ⟨by rfl, ?_⟩) ?_ ?_
              rotate_left
              ·intro w'
               go_simp
               with_reducible rfl
              rotate_left
              ·simp only [Act.put, zsa, zsz, zss, i64_w, i32_w]
               rfl
              refine pure_ (i := 10) (N := some 70) (v := ?_) (a' := ?_) #[true, true, true, true, true, false, true, false, false, true, true, false, false, false, false, false] rfl rfl (any_of HT_.out (by kernel_rfl)) (fun _ _ _ h => h) (Or.inl ⟨by rfl, ?_⟩) ?_ ?_
              rotate_left
              ·intro w'
               go_simp
               with_reducible rfl
              rotate_left
              ·simp only [Act.put, zsa, zsz, zss, i64_w, i32_w]
               rfl
              refine take_ (i := 5) (N := some 65) (v := ?_) (a' := ?_) #[true, true, true, true, true, true, true, false, false, true, true, false, false, false, false, false] rfl rfl (take_ofW HT_.out HW_.out (by kernel_rfl)) (fun _ _ _ h => h) (Or.inl ⟨by rfl, ?_⟩) hHeld ?_ ?_
              rotate_left
              ·rintro w' ⟨s0, s1, s2⟩
               go_simp
               with_reducible rfl
              rotate_left
              ·simp only [Act.put, zsa, zsz, zss, i64_w, i32_w]
               rfl
              refine pure_ (i := 7) (N := some 67) (v := ?_) (a' := ?_) #[true, true, true, true, true, true, true, true, false, true, true, false, false, false, false, false] rfl rfl (any_of HT_.out (by kernel_rfl)) (fun _ _ _ h => h) (Or.inl ⟨by rfl, ?_⟩) ?_ ?_
              rotate_left
              ·intro w'
               go_simp
               with_reducible rfl
              rotate_left
              ·simp only [Act.put, zsa, zsz, zss, i64_w, i32_w]
               rfl
              refine take_ (i := 8) (N := some 68) (v := ?_) (a' := ?_) #[true, true, true, true, true, true, true, true, true, true, true, false, false, false, false, false] rfl rfl (take_ofW HT_.out HW_.out (by kernel_rfl)) (fun _ _ _ h => h) (Or.inl ⟨by rfl, ?_⟩) hHeld ?_ ?_
              rotate_left
              ·rintro w' ⟨s0, s1, s2⟩
               go_simp
               with_reducible rfl
              rotate_left
              ·simp only [Act.put, zsa, zsz, zss, i64_w, i32_w]
               rfl
              refine one_ (i := 11) (N := some 71) #[true, true, true, true, true, true, true, true, true, true, true, true, false, false, false, false] rfl rfl (one_of HT_.out (by kernel_rfl)) (by decide) (fun K hK => ?_)
              refine goes_ Try.func20 (by kernel_rfl) rfl #[.slice A2 l2.length c2, .int .i64 x8_3] (by rfl) rfl rfl (by (try simp only [zmt, List.map_cons, List.map_nil]); first | done | rfl | (simp only [zld, zlt]; rfl)) ?_
              with_reducible refine (isobathlaw07_pick.calls _ _ l2 x8_3 t113 _ ?side1 ?side2 A19.out).mono ?_
              (case side1 => repeat (first | exact (Kd.C_below HR2.out HB.out) | (with_reducible refine Kd.C_alloc ?_ _) | (with_reducible refine Kd.C_drewN ?_ _) | (with_reducible refine Kd.C_drew ?_)))
              (case side2 => exact HC2.out)
              rintro e w' ⟨rfl, ⟨nd, rfl⟩⟩
              refine ⟨_, rfl, ?_⟩
              refine hK.out _ _ ⟨((HB.out.cell (zwb w _ hw111_0)).trans hw111_0), ((HB.out.cell (zwb w _ hw112_0)).trans hw112_0), ((HB.out.cell (zwb w _ hw112_1)).trans hw112_1)⟩ (fun hHeld => ?_)
              clear hK K
              refine norm_ (a' := ?_) ?_ ?_
              rotate_left
              ·show Act.put _ (some 71) _ = _
               simp only [Act.put, zsa, zsz, zss, i64_w, i32_w]
               rfl
              refine one_ (i := 12) (N := some 72) #[true, true, true, true, true, true, true, true, true, true, true, true, true, false, false, false] rfl rfl (one_of HT_.out (by kernel_rfl)) (by decide) (fun K hK => ?_)
              refine goes_ Try.func19 (by kernel_rfl) rfl #[.agg #[.int .i64 ((rd_T24 ((rd_T45 l0 x9_2).f0) x11_3).f0), .int .i64 ((rd_T24 ((rd_T45 l0 x9_2).f0) x11_3).f1)], .int .u16 t113] (by rfl) rfl rfl (by (try simp only [zmt, List.map_cons, List.map_nil]); first | done | rfl | (simp only [zld, zlt]; rfl)) ?_
              with_reducible refine (isobathlaw01_Part.calls ((rd_T24 ((rd_T45 l0 x9_2).f0) x11_3).f0) ((rd_T24 ((rd_T45 l0 x9_2).f0) x11_3).f1) t113 t114 _ A20.out).mono ?_
              rintro e w24 ⟨rfl, hb⟩
              refine ⟨_, rfl, ?_⟩
              have n0_ := zam (Kd.S_below (by (with_reducible repeat (first | apply Kd.S_alloc | apply Kd.S_drewN | apply Kd.S_drew)); exact HO_7.out) hb)
              have n1_ := zam (Kd.R_below (by (with_reducible repeat (first | apply zRa | apply zRn | apply zRd)); exact HO_10.out) hb)
              have n2_ := zam (zkb (g := gb101) (o := .cells #[.int .i64 a1_0, .int .i64 a1_1, .int .i64 a1_2] 39 (0, 0)) (by (with_reducible repeat (first | refine zkn ?_ _ | refine zkd ?_ | refine zka ?_ _)); exact BK101.out) hb)
              have n3_ := zam (zbt (by repeat (first | (with_reducible first | exact HB.out | apply zba | apply zbn | apply zb1 | refine zbs ?_ GE101.out) | exact HB.out)) hb)
              clear HO_7
              clear HO_10
              clear BK101
              clear HB
              have HO_7 := n0_
              have HO_10 := n1_
              have BK101 := n2_
              have HB := n3_
              clear n0_ n1_ n2_ n3_
              (try clear hb)
              (try clear hb2)
              (try clear hk)
              (try clear hi)
              refine hK.out _ _ ⟨((HB.out.cell (zwb w _ hw111_0)).trans hw111_0), ((HB.out.cell (zwb w _ hw112_0)).trans hw112_0), ((HB.out.cell (zwb w _ hw112_1)).trans hw112_1)⟩ (fun hHeld => ?_)
              clear hK K
              refine norm_ (a' := ?_) ?_ ?_
              rotate_left
              ·show Act.put _ (some 72) _ = _
               simp only [Act.put, zsa, zsz, zss, i64_w, i32_w]
               rfl
              refine one_ (i := 13) (N := some 73) #[true, true, true, true, true, true, true, true, true, true, true, true, true, true, false, false] rfl rfl (one_of HT_.out (by kernel_rfl)) (by decide) (fun K hK => ?_)
              refine value_ (w1 := ?_) (v := ?_) (by rfl) rfl ?_ ?_
              rotate_left 2
              ·go_simp
               constructor
               ·rfl
               rfl
              refine hK.out _ _ ⟨(World.cell?_alloc_lt _ _ _ (zwb _ _ (((HB.out.cell (zwb w _ hw111_0)).trans hw111_0)))).trans (((HB.out.cell (zwb w _ hw111_0)).trans hw111_0)), (World.cell?_alloc_lt _ _ _ (zwb _ _ (((HB.out.cell (zwb w _ hw112_0)).trans hw112_0)))).trans (((HB.out.cell (zwb w _ hw112_0)).trans hw112_0)), (World.cell?_alloc_lt _ _ _ (zwb _ _ (((HB.out.cell (zwb w _ hw112_1)).trans hw112_1)))).trans (((HB.out.cell (zwb w _ hw112_1)).trans hw112_1))⟩ (fun hHeld => ?_)
              clear hK K
              refine norm_ (a' := ?_) ?_ ?_
              rotate_left
              ·show Act.put _ (some 73) _ = _
               simp only [Act.put, zsa, zsz, zss, i64_w, i32_w]
               rfl
              refine one_ (i := 14) (N := some 74) #[true, true, true, true, true, true, true, true, true, true, true, true, true, true, true, false] rfl rfl (one_of HT_.out (by kernel_rfl)) (by decide) (fun K hK => ?_)
              refine Kd.R_append_step (Kd.int .i64) (w0 := w) w.heap.size (by rfl) (.tmp 60) (.tmp 73) 43 2 (.int .i64 0) 8 rfl Try.underlying43 info2 rfl (by decide) (by omega) u10 x10_3 t114 [.int .i64 t114] (fun _ => True) (fun _ => False) rfl rfl ?aP (fun _ hk => hk.elim) ?aF ?aO ?aB ?aS ?aL ?_
              (case aP => exact rfl)
              (case aB => exact (by repeat (first | (with_reducible first | exact HB.out | apply zba | apply zbn | apply zb1 | refine zbs ?_ GE101.out) | exact HB.out)))
              (case aF => exact (fun _ _ => trivial))
              (case aO => exact (by (with_reducible repeat (first | apply zRa | apply zRn | apply zRd)); exact HO_10.out))
              (case aS => exact (zbz (by repeat (first | (with_reducible first | exact HB.out | apply zba | apply zbn | apply zb1 | refine zbs ?_ GE101.out) | exact HB.out))))
              (case aL => have := LMc21.out; omega)
              intro v116 w25 ho hb hg hat
              rw [← Ny115.out] at ho
              have n0_ := zam (Kd.S_after (ok := (fun _ => True)) (by (with_reducible repeat (first | apply Kd.S_alloc | apply Kd.S_drewN | apply Kd.S_drew)); exact Kd.S_mono HO_7.out (fun _ hk => ⟨trivial, hk⟩)) hg hat)
              have n1_ := zam (blk_grown (g := gb101) (o := .cells #[.int .i64 a1_0, .int .i64 a1_1, .int .i64 a1_2] 39 (0, 0)) (by (with_reducible repeat (first | refine zkn ?_ _ | refine zkd ?_ | refine zka ?_ _)); exact BK101.out) hg (Kd.R_ne HO_10.out BK101.out (by decide)))
              have n2_ := zam (hb)
              have n3_ := zam (ho)
              clear HO_7
              clear BK101
              clear HB
              clear HO_10
              have HO_7 := n0_
              have BK101 := n1_
              have HB := n2_
              have HO117 := n3_
              clear n0_ n1_ n2_ n3_
              clear ho hb hg hat
              refine hK.out _ _ ⟨((HB.out.cell (zwb w _ hw111_0)).trans hw111_0), ((HB.out.cell (zwb w _ hw112_0)).trans hw112_0), ((HB.out.cell (zwb w _ hw112_1)).trans hw112_1)⟩ (fun hHeld => ?_)
              clear hK K
              refine norm_ (a' := ?_) ?_ ?_
              rotate_left
              ·show Act.put _ (some 74) _ = _
               simp only [Act.put, zsa, zsz, zss, i64_w, i32_w]
               rfl
              refine pure_ (i := 15) (N := some 10) (v := ?_) (a' := ?_) #[true, true, true, true, true, true, true, true, true, true, true, true, true, true, true, true] rfl rfl (any_of HT_.out (by kernel_rfl)) (fun _ _ _ h => h) (Or.inl ⟨by rfl, ?_⟩) ?_ ?_
              rotate_left
              ·intro w'
               go_simp
               with_reducible rfl
              rotate_left
              ·simp only [Act.put, zsa, zsz, zss, i64_w, i32_w]
               rfl
              refine done_ (done_of HT_.out (by kernel_rfl)) ?_
              try go_wp2
              go_roundg k3
              case measure => have := HJ3.out; have := HK2.out; have := HK3.out; omega
              case rel => exact ⟨(wrap64 (x8_3 + 1)), (y115), (wrap64 (x11_3 + 1)), (by first | rfl | (simp; done) | (simp [*]; done)), (by first | rfl | (simp; done) | (simp [*]; done)), H', ⟨by have := HJ3.out; have := HK2.out; have := HK3.out; omega⟩, ⟨by (with_reducible repeat (first | apply Kd.S_alloc | apply Kd.S_drewN | apply Kd.S_drew)); exact Kd.S_mono HO_7.out (fun _ hk => hk.2)⟩, ⟨by (with_reducible repeat (first | apply zRa | apply zRn | apply zRd)); exact HO117.out⟩, ⟨by (with_reducible repeat (first | refine zkn ?_ _ | refine zkd ?_ | refine zka ?_ _)); exact BK101.out⟩, ⟨by repeat (first | (with_reducible first | exact HB.out | apply zba | apply zbn | apply zb1 | refine zbs ?_ GE101.out) | exact HB.out)⟩⟩
             rw [if_neg c21] at H
             exact absurd H (by simp)
            replace c18 := Bool.eq_false_iff.mpr c18
            subst c18
            have H1 : ((isobathlaw07_Works.f k3).bind fun t118 => (some t118)) = some r := by rw [if_neg (show ¬ (false = true) by decide)] at H; exact H
            clear H
            have H := H1
            clear H1
            replace H := Option.bind_eq_some_iff.mp H
            obtain ⟨t118, A260, H⟩ := H
            replace H : (some t118) = some r := H
            have A26 := zam A260
            clear A260
            obtain rfl := zsi H
            have p104 : 0 ≤ (x9_2 : Int) := zod (by first | (with_reducible assumption) | assumption)
            have q104 : x9_2 < (l0.length : Int) := zod (by first | (with_reducible assumption) | assumption)
            obtain ⟨ad104, A104_0, c104_0, e104, hx104_0, hl104_0, hi104_0⟩ := at_T45 HR0.out x9_2 p104 q104
            have hw104_0 := zam hx104_0
            cases e104
            replace hx104_0 := (HB.out.cell (zwb w _ hx104_0)).trans hx104_0
            have HR104_0 := zam hi104_0
            have HC104_0 := zam hl104_0
            clear hi104_0 hl104_0
            replace p104 := eq_true p104
            replace q104 := eq_true q104
            have p108 : 0 ≤ (x9_2 : Int) := zod (by first | (with_reducible assumption) | assumption)
            have q108 : x9_2 < (l0.length : Int) := zod (by first | (with_reducible assumption) | assumption)
            obtain ⟨ad108, A108_0, c108_0, e108, hx108_0, hl108_0, hi108_0⟩ := at_T45 HR0.out x9_2 p108 q108
            obtain rfl : ad104 = ad108 := (by injection e108)
            replace hx108_0 := (HB.out.cell (zwb w _ hx108_0)).trans hx108_0
            have HR108_0 := zam hi108_0
            have HC108_0 := zam hl108_0
            clear hi108_0 hl108_0
            replace p108 := eq_true p108
            replace q108 := eq_true q108
            have ea_ := zsi (hx104_0.symm.trans hx108_0)
            injection ea_ with ea_ en_ ec_
            subst ea_
            subst ec_
            clear en_
            have p109 : 0 ≤ (x11_3 : Int) := zod (by first | (with_reducible assumption) | assumption)
            have q109 : x11_3 < (((rd_T45 l0 x9_2).f0).length : Int) := zod (by first | (with_reducible assumption) | assumption)
            obtain ⟨ad109, e109, hx109_0, hx109_1⟩ := at_T24 HR108_0.out x11_3 p109 q109
            cases e109
            replace hx109_0 := (HB.out.cell (zwb w _ hx109_0)).trans hx109_0
            replace hx109_1 := (HB.out.cell (zwb w _ hx109_1)).trans hx109_1
            replace p109 := eq_true p109
            replace q109 := eq_true q109
            go_wp2_with (first | ((with_reducible refine zgc (f := 18) rfl ?_); refine goesL_ (some 57) rfl rfl Try.func18 (by kernel_rfl) rfl #[.agg #[.int .i64 ((rd_T24 ((rd_T45 l0 x9_2).f0) x11_3).f0), .int .i64 ((rd_T24 ((rd_T45 l0 x9_2).f0) x11_3).f1)]] rfl (by (try simp only [zmt, List.map_cons, List.map_nil]); first | done | rfl | (simp only [zld, zlt]; rfl)) ?_; (with_reducible refine (isobathref01_Valid.calls ((rd_T24 ((rd_T45 l0 x9_2).f0) x11_3).f0) ((rd_T24 ((rd_T45 l0 x9_2).f0) x11_3).f1) false _ A17.out).mono ?_); rintro e w27 ⟨rfl, hb⟩; refine ⟨_, rfl, ?_⟩; have n0_ := zam (Kd.S_below (by (with_reducible repeat (first | apply Kd.S_alloc | apply Kd.S_drewN | apply Kd.S_drew)); exact HO_7.out) hb); have n1_ := zam (Kd.R_below (by (with_reducible repeat (first | apply zRa | apply zRn | apply zRd)); exact HO_10.out) hb); have n2_ := zam (zkb (g := gb101) (o := .cells #[.int .i64 a1_0, .int .i64 a1_1, .int .i64 a1_2] 39 (0, 0)) (by (with_reducible repeat (first | refine zkn ?_ _ | refine zkd ?_ | refine zka ?_ _)); exact BK101.out) hb); have n3_ := zam (zbt (by repeat (first | (with_reducible first | exact HB.out | apply zba | apply zbn | apply zb1 | refine zbs ?_ GE101.out) | exact HB.out)) hb); clear HO_7; clear HO_10; clear BK101; clear HB; have HO_7 := n0_; have HO_10 := n1_; have BK101 := n2_; have HB := n3_; clear n0_ n1_ n2_ n3_; (try clear hb); (try clear hb2); (try clear hk); (try clear hi)) | ((with_reducible refine zgc (f := 14) rfl ?_); refine goesL_ (some 59) rfl rfl Try.func14 (by kernel_rfl) rfl #[] rfl (by (try simp only [zmt, List.map_cons, List.map_nil]); first | done | rfl | (simp only [zld, zlt]; rfl)) ?_; (with_reducible refine (isobathlaw07_Works.calls k3  t118 _ A26.out).mono ?_); rintro e w28 ⟨rfl, hb⟩; refine ⟨_, rfl, ?_⟩; have n0_ := zam (Kd.S_below (by (with_reducible repeat (first | apply Kd.S_alloc | apply Kd.S_drewN | apply Kd.S_drew)); exact HO_7.out) hb); have n1_ := zam (Kd.R_below (by (with_reducible repeat (first | apply zRa | apply zRn | apply zRd)); exact HO_10.out) hb); have n2_ := zam (zkb (g := gb101) (o := .cells #[.int .i64 a1_0, .int .i64 a1_1, .int .i64 a1_2] 39 (0, 0)) (by (with_reducible repeat (first | refine zkn ?_ _ | refine zkd ?_ | refine zka ?_ _)); exact BK101.out) hb); have n3_ := zam (zbt (by repeat (first | (with_reducible first | exact HB.out | apply zba | apply zbn | apply zb1 | refine zbs ?_ GE101.out) | exact HB.out)) hb); clear HO_7; clear HO_10; clear BK101; clear HB; have HO_7 := n0_; have HO_10 := n1_; have BK101 := n2_; have HB := n3_; clear n0_ n1_ n2_ n3_; (try clear hb); (try clear hb2); (try clear hk); (try clear hi)))
            go_ret
            exact ⟨by first | rfl | (simp [errW_none, errW_some] <;> rfl) | (simp [*, errW_none, errW_some] <;> rfl), by repeat (first | (with_reducible first | exact HB.out | apply zba | apply zbn | apply zb1 | refine zbs ?_ GE101.out) | exact HB.out)⟩
           rw [if_neg c16] at H
           exact absurd H (by simp)
          rw [if_neg c15] at H
          have c15b0 : decide (x11_3 < (((rd_T45 l0 x9_2).f0).length : Int)) = false := zdf c15
          clear c15
          by_cases c29 : x7_2.length < 5864062014805
          ·rw [if_pos c29] at H
           have LMc29 := zam c29
           clear c29
           obtain ⟨y105, hy105⟩ : ∃ y_ : List (List Int), y_ = (x7_2 ++ [x10_3]) := ⟨_, rfl⟩
           replace H : (isobathlaw07_SoundSure.l0 k3 l0 l2 y105 x8_3 (wrap64 (x9_2 + 1)) a1_0 a1_1 a1_2) = some r := by first | (rw [hy105]; with_reducible exact H) | (have H2_ := (Option.bind_some _ _).symm.trans H; rw [hy105]; with_reducible exact H2_) | (have H2_ := (Option.bind_some _ _).symm.trans H; with_reducible exact H2_) | with_reducible exact H | (rw [hy105]; exact H) | exact H
           have Ny105 := zam hy105
           clear hy105
           have H' := zam H
           clear H
           have p104 : 0 ≤ (x9_2 : Int) := zod (by first | (with_reducible assumption) | assumption)
           have q104 : x9_2 < (l0.length : Int) := zod (by first | (with_reducible assumption) | assumption)
           obtain ⟨ad104, A104_0, c104_0, e104, hx104_0, hl104_0, hi104_0⟩ := at_T45 HR0.out x9_2 p104 q104
           have hw104_0 := zam hx104_0
           cases e104
           replace hx104_0 := (HB.out.cell (zwb w _ hx104_0)).trans hx104_0
           have HR104_0 := zam hi104_0
           have HC104_0 := zam hl104_0
           clear hi104_0 hl104_0
           replace p104 := eq_true p104
           replace q104 := eq_true q104
           obtain ⟨Ao31, co31, eo31⟩ := Kd.R_slice HO_10.out
           subst eo31
           go_wp2_with (first | ((with_reducible refine gate_builtin (b := .append) (xs := #[.tmp 77, .tmp 79]) rfl ?_); (try (refine gate_guard (by rfl) ?_; dsimp only)); at_builtin; refine Kd.S_append (Kd.slice 2 (Kd.int .i64)) (w0 := w) w.heap.size rfl (.tmp 77) (.tmp 79) 42 43 (.slice none 0 0) 24 rfl Try.underlying42 info43 rfl (by decide) (by omega) u7 x7_2 x10_3 [.slice Ao31 x10_3.length co31] (fun _ => True) (fun k_ => some k_ = (.slice Ao31 x10_3.length co31 : Value).ownBlock) rfl rfl ?aP (fun k_ hk_ => ((Kd.R_mono (ok' := fun k_ => ((fun _ => True)) k_ ∧ some k_ ≠ (u7 : Value).ownBlock) (Kd.R_apart' (HO_10.out) (Kd.S_typed HO_7.out) (by decide)) (fun k_ hk => ⟨trivial, hk.2⟩))).1 k_ hk_.symm) ?aF ?aO ?aB ?aS ?aL ?_; (case aP => exact Kd.M_row (Kd.R_mono (Kd.R_tight rfl (Kd.R_mono (ok' := fun k_ => ((fun _ => True)) k_ ∧ some k_ ≠ (u7 : Value).ownBlock) (Kd.R_apart' (HO_10.out) (Kd.S_typed HO_7.out) (by decide)) (fun k_ hk => ⟨trivial, hk.2⟩))) (fun _ h_ => h_))); (case aB => exact (by repeat (first | (with_reducible first | exact HB.out | apply zba | apply zbn | apply zb1 | refine zbs ?_ GE101.out) | exact HB.out))); (case aF => exact (fun _ _ => trivial)); (case aO => exact (by (with_reducible repeat (first | apply Kd.S_alloc | apply Kd.S_drewN | apply Kd.S_drew)); exact Kd.S_mono HO_7.out (fun k_ hk => ⟨trivial, fun e_ => hk e_⟩))); (case aS => exact (zbz (by repeat (first | (with_reducible first | exact HB.out | apply zba | apply zbn | apply zb1 | refine zbs ?_ GE101.out) | exact HB.out)))); (case aL => have := LMc29.out; omega); intro v106 w30 ho hb hg hat; rw [← Ny105.out] at ho; have n0_ := zam (blk_grown (g := gb101) (o := .cells #[.int .i64 a1_0, .int .i64 a1_1, .int .i64 a1_2] 39 (0, 0)) (by (with_reducible repeat (first | refine zkn ?_ _ | refine zkd ?_ | refine zka ?_ _)); exact BK101.out) hg (Kd.S_ne HO_7.out BK101.out (by decide))); have n1_ := zam (hb); have n2_ := zam (ho); clear BK101; clear HB; clear HO_7; clear HO_10; have BK101 := n0_; have HB := n1_; have HO107 := n2_; clear n0_ n1_ n2_; clear ho hb hg hat))
           go_roundg k3
           case measure => have := HJ3.out; have := HK2.out; have := HK3.out; omega
           case rel => exact ⟨(y105), (x8_3), (wrap64 (x9_2 + 1)), (by first | rfl | (simp; done) | (simp [*]; done)), (by first | rfl | (simp; done) | (simp [*]; done)), H', ⟨by have := HJ3.out; have := HK2.out; have := HK3.out; omega⟩, ⟨by (with_reducible repeat (first | apply Kd.S_alloc | apply Kd.S_drewN | apply Kd.S_drew)); exact HO107.out⟩, ⟨by (with_reducible repeat (first | refine zkn ?_ _ | refine zkd ?_ | refine zka ?_ _)); exact BK101.out⟩, ⟨by repeat (first | (with_reducible first | exact HB.out | apply zba | apply zbn | apply zb1 | refine zbs ?_ GE101.out) | exact HB.out)⟩⟩
          rw [if_neg c29] at H
          exact absurd H (by simp)
         rw [if_neg c14] at H
         exact absurd H (by simp)
        rw [if_neg c13] at H
        exact absurd H (by simp)
     rw [if_neg c12] at H
     have c12b0 : decide (x9_2 < (l0.length : Int)) = false := zdf c12
     clear c12
     have H' := zam H
     clear H
     go_wp2
     go_loopg [12, 13] k2 (fun kq v12 v13 w' => ∃ (x12_3 : Int) (x13_3 : Int), v12 = .int .i64 x12_3 ∧ v13 = .int .i64 x13_3 ∧ Aside0 (isobathlaw07_SoundSure.l2 kq l0 x7_2 x12_3 x13_3 a1_0 a1_1 a1_2 = some r) ∧ Aside0 (kq ≤ k2) ∧ Aside0 (Kd.S (Kd.slice 2 (Kd.int .i64)) 43 w' w.heap.size (fun _ => True) u7 x7_2) ∧ Aside0 (w'.heap[gb101]? = some (.cells #[.int .i64 a1_0, .int .i64 a1_1, .int .i64 a1_2] 39 (0, 0))) ∧ Aside0 (Below w.heap.size w w'))
     case atStart => exact ⟨(0), (0), (by first | rfl | (simp; done) | (simp [*]; done)), (by first | rfl | (simp; done) | (simp [*]; done)), H', ⟨Nat.le_refl _⟩, ⟨by (with_reducible repeat (first | apply Kd.S_alloc | apply Kd.S_drewN | apply Kd.S_drew)); exact HO_7.out⟩, ⟨by (with_reducible repeat (first | refine zkn ?_ _ | refine zkd ?_ | refine zka ?_ _)); exact BK101.out⟩, ⟨by repeat (first | (with_reducible first | exact HB.out | apply zba | apply zbn | apply zb1 | refine zbs ?_ GE101.out) | exact HB.out)⟩⟩
     case round =>
      clear H'
      try clear c1
      try clear p1
      try clear q1
      try clear hx1
      try clear c2
      try clear p2
      try clear c4
      try clear p6
      try clear c7
      try clear c8
      try clear c8b0
      try clear c8b1
      try clear c8b2
      try clear c9
      try clear c10
      try clear p10
      try clear q10
      try clear hx10
      try clear c11
      try clear p11
      try clear q11
      try clear hx11
      try clear c12
      try clear c12b0
      try clear c13
      try clear c13b0
      try clear c14
      try clear c14b0
      try clear c15
      try clear c15b0
      try clear c16
      try clear c16b0
      try clear c17
      try clear c18
      try clear c19
      try clear c20
      try clear c21
      try clear c29
      try clear hx104_0
      try clear hx108_0
      try clear hx109_0
      try clear hx109_1
      try clear hx111_0
      try clear hx112_0
      try clear hx112_1
      try clear p104
      try clear p108
      try clear p109
      try clear p111
      try clear p112
      try clear p2
      try clear q104
      try clear q108
      try clear q109
      try clear q111
      try clear q112
      obtain ⟨x12_3, x13_3, rfl, rfl, HA, HK3, HO_7, BK101, HB⟩ := hrel
      cases gk with
      | zero => exact absurd HA.out (by simp [isobathlaw07_SoundSure.l2])
      | succ k3 =>
       have H := HA.out
       clear HA
       simp only [isobathlaw07_SoundSure.l2] at H
       by_cases c32 : 0 < (l0.length : Int)
       ·rw [if_pos c32] at H
        have c32b0 : decide (0 < (l0.length : Int)) = true := zdt c32
        have c32b1 : decide (0 < l0.length) = true := zdt (by omega)
        clear c32
        by_cases c33 : x13_3 < (((rd_T45 l0 0).f0).length : Int)
        ·rw [if_pos c33] at H
         have c33b0 : decide (x13_3 < (((rd_T45 l0 0).f0).length : Int)) = true := zdt c33
         clear c33
         replace H := Option.bind_eq_some_iff.mp H
         obtain ⟨⟨t120, t121⟩, A340, H⟩ := H
         replace H : (if t121 = 0 then ((isobathlaw07_alarm.f k3 x7_2 a1_0 a1_1 a1_2 x13_3).bind fun t122 => (if t120 = 2 then (if t122 = true then (if t120 = 0 then (none) else (if t120 < x12_3 then (none) else (isobathlaw07_SoundSure.l2 k3 l0 x7_2 t120 (wrap64 (x13_3 + 1)) a1_0 a1_1 a1_2))) else (none)) else (if t120 = 0 then (if t122 = true then (none) else (if t120 < x12_3 then (none) else (isobathlaw07_SoundSure.l2 k3 l0 x7_2 t120 (wrap64 (x13_3 + 1)) a1_0 a1_1 a1_2))) else (if t120 < x12_3 then (none) else (isobathlaw07_SoundSure.l2 k3 l0 x7_2 t120 (wrap64 (x13_3 + 1)) a1_0 a1_1 a1_2))))) else ((isobathlaw07_Works.f k3).bind fun t123 => (some t123))) = some r := H
         have A34 := zam A340
         clear A340
         by_cases c35 : t121 = 0
         ·rw [if_pos c35] at H
          have c35b0 : (t121 == 0) = true := beq_iff_eq.mpr c35
          have c35b1 : (t121 != 0) = false := bne_eq_false_iff_eq.mpr c35
          clear c35
          replace H := Option.bind_eq_some_iff.mp H
          obtain ⟨t122, A360, H⟩ := H
          replace H : (if t120 = 2 then (if t122 = true then (if t120 = 0 then (none) else (if t120 < x12_3 then (none) else (isobathlaw07_SoundSure.l2 k3 l0 x7_2 t120 (wrap64 (x13_3 + 1)) a1_0 a1_1 a1_2))) else (none)) else (if t120 = 0 then (if t122 = true then (none) else (if t120 < x12_3 then (none) else (isobathlaw07_SoundSure.l2 k3 l0 x7_2 t120 (wrap64 (x13_3 + 1)) a1_0 a1_1 a1_2))) else (if t120 < x12_3 then (none) else (isobathlaw07_SoundSure.l2 k3 l0 x7_2 t120 (wrap64 (x13_3 + 1)) a1_0 a1_1 a1_2)))) = some r := H
          have A36 := zam A360
          clear A360
          by_cases c37 : t120 = 2
          ·rw [if_pos c37] at H
           have c37b0 : (t120 == 2) = true := beq_iff_eq.mpr c37
           have c37b1 : (t120 != 2) = false := bne_eq_false_iff_eq.mpr c37
           clear c37
           by_cases c38 : t122 = true
           ·subst c38
            have H1 : (if t120 = 0 then (none) else (if t120 < x12_3 then (none) else (isobathlaw07_SoundSure.l2 k3 l0 x7_2 t120 (wrap64 (x13_3 + 1)) a1_0 a1_1 a1_2))) = some r := by rw [if_pos rfl] at H; exact H
            clear H
            have H := H1
            clear H1
            by_cases c39 : t120 = 0
            ·rw [if_pos c39] at H
             exact absurd H (by simp)
            rw [if_neg c39] at H
            have c39b0 : (t120 == 0) = false := beq_eq_false_iff_ne.mpr c39
            have c39b1 : (t120 != 0) = true := bne_iff_ne.mpr c39
            by_cases c40 : t120 < x12_3
            ·rw [if_pos c40] at H
             exact absurd H (by simp)
            rw [if_neg c40] at H
            have c40b0 : decide (t120 < x12_3) = false := zdf c40
            clear c40
            have H' := zam H
            clear H
            have p119 : 0 ≤ (0 : Int) := (by omega)
            have q119 : 0 < (l0.length : Int) := zod (by first | (with_reducible assumption) | assumption)
            obtain ⟨ad119, A119_0, c119_0, e119, hx119_0, hl119_0, hi119_0⟩ := at_T45 HR0.out 0 p119 q119
            cases e119
            have qi119 : (0 < l0.length) = True := eq_true (by omega)
            (try rw [show ((0 : Int)).toNat = 0 from rfl] at hx119_0)
            (try rw [Addr.add_zero'] at hx119_0)
            replace hx119_0 := (HB.out.cell (zwb w _ hx119_0)).trans hx119_0
            have HR119_0 := zam hi119_0
            have HC119_0 := zam hl119_0
            clear hi119_0 hl119_0
            replace p119 := eq_true p119
            replace q119 := eq_true q119
            have hcz41_0 : wr.cell? ⟨gb101, 0, none⟩ = some (.int .i64 a1_0) := (zkc BK101.out 0).trans rfl
            have hcz41_1 : wr.cell? ⟨gb101, 1, none⟩ = some (.int .i64 a1_1) := (zkc BK101.out 1).trans rfl
            have hcz41_2 : wr.cell? ⟨gb101, 2, none⟩ = some (.int .i64 a1_2) := (zkc BK101.out 2).trans rfl
            have hfz41_0 := zkz BK101.out 0
            have hfz41_1 := zkz BK101.out 1
            have hfz41_2 := zkz BK101.out 2
            go_wp2_with (first | ((with_reducible refine zgc (f := 21) rfl ?_); refine goesL_ (some 94) rfl rfl Try.func21 (by kernel_rfl) rfl #[.slice (some ad119) l0.length c0, .agg #[.int .i64 a1_0, .int .i64 a1_1, .int .i64 a1_2], .int .i64 x13_3] rfl (by (try simp only [zmt, List.map_cons, List.map_nil]); first | done | rfl | (simp only [zld, zlt]; rfl)) ?_; (with_reducible refine (sound_Raised.calls k3 _ _ l0 a1_0 a1_1 a1_2 x13_3 t120 t121 _ ?side1 ?side2 A34.out).mono ?_); (case side1 => repeat (first | exact (Kd.C_below HR0.out HB.out) | (with_reducible refine Kd.C_alloc ?_ _) | (with_reducible refine Kd.C_drewN ?_ _) | (with_reducible refine Kd.C_drew ?_))); (case side2 => exact HC0.out); rintro e w42 ⟨rfl, hb⟩; refine ⟨_, rfl, ?_⟩; have n0_ := zam (Kd.S_below (by (with_reducible repeat (first | apply Kd.S_alloc | apply Kd.S_drewN | apply Kd.S_drew)); exact HO_7.out) hb); have n1_ := zam (zkb (g := gb101) (o := .cells #[.int .i64 a1_0, .int .i64 a1_1, .int .i64 a1_2] 39 (0, 0)) (by (with_reducible repeat (first | refine zkn ?_ _ | refine zkd ?_ | refine zka ?_ _)); exact BK101.out) hb); have n2_ := zam (zbt (by repeat (first | (with_reducible first | exact HB.out | apply zba | apply zbn | apply zb1 | refine zbs ?_ GE101.out) | exact HB.out)) hb); clear HO_7; clear BK101; clear HB; have HO_7 := n0_; have BK101 := n1_; have HB := n2_; clear n0_ n1_ n2_; (try clear hb); (try clear hb2); (try clear hk); (try clear hi); have hcz43_0 : w42.cell? ⟨gb101, 0, none⟩ = some (.int .i64 a1_0) := (zkc BK101.out 0).trans rfl; have hcz43_1 : w42.cell? ⟨gb101, 1, none⟩ = some (.int .i64 a1_1) := (zkc BK101.out 1).trans rfl; have hcz43_2 : w42.cell? ⟨gb101, 2, none⟩ = some (.int .i64 a1_2) := (zkc BK101.out 2).trans rfl; have hfz43_0 := zkz BK101.out 0; have hfz43_1 := zkz BK101.out 1; have hfz43_2 := zkz BK101.out 2; obtain ⟨Ao44, co44, eo44⟩ := Kd.S_slice HO_7.out; subst eo44) | ((with_reducible refine zgc (f := 22) rfl ?_); refine goesL_ (some 103) rfl rfl Try.func22 (by kernel_rfl) rfl #[.slice Ao44 x7_2.length co44, .agg #[.int .i64 a1_0, .int .i64 a1_1, .int .i64 a1_2], .int .i64 x13_3] rfl (by (try simp only [zmt, List.map_cons, List.map_nil]); first | done | rfl | (simp only [zld, zlt]; rfl)) ?_; (with_reducible refine (isobathlaw07_alarm.calls k3 _ _ x7_2 a1_0 a1_1 a1_2 x13_3 true _ ?side1 ?side2 A36.out).mono ?_); (case side1 => repeat (first | exact (Kd.S_reads' HO_7.out).2.2 | (with_reducible refine Kd.C_alloc ?_ _) | (with_reducible refine Kd.C_drewN ?_ _) | (with_reducible refine Kd.C_drew ?_))); (case side2 => exact (Kd.S_reads' HO_7.out).2.1); rintro e w45 ⟨rfl, hb⟩; refine ⟨_, rfl, ?_⟩; have n0_ := zam (Kd.S_below (by (with_reducible repeat (first | apply Kd.S_alloc | apply Kd.S_drewN | apply Kd.S_drew)); exact HO_7.out) hb); have n1_ := zam (zkb (g := gb101) (o := .cells #[.int .i64 a1_0, .int .i64 a1_1, .int .i64 a1_2] 39 (0, 0)) (by (with_reducible repeat (first | refine zkn ?_ _ | refine zkd ?_ | refine zka ?_ _)); exact BK101.out) hb); have n2_ := zam (zbt (by repeat (first | (with_reducible first | exact HB.out | apply zba | apply zbn | apply zb1 | refine zbs ?_ GE101.out) | exact HB.out)) hb); clear HO_7; clear BK101; clear HB; have HO_7 := n0_; have BK101 := n1_; have HB := n2_; clear n0_ n1_ n2_; (try clear hb); (try clear hb2); (try clear hk); (try clear hi)))
            go_roundg k3
            case measure => have := HJ3.out; have := HK2.out; have := HK3.out; omega
            case rel => exact ⟨(t120), (wrap64 (x13_3 + 1)), (by first | rfl | (simp; done) | (simp [*]; done)), (by first | rfl | (simp; done) | (simp [*]; done)), H', ⟨by have := HJ3.out; have := HK2.out; have := HK3.out; omega⟩, ⟨by (with_reducible repeat (first | apply Kd.S_alloc | apply Kd.S_drewN | apply Kd.S_drew)); exact HO_7.out⟩, ⟨by (with_reducible repeat (first | refine zkn ?_ _ | refine zkd ?_ | refine zka ?_ _)); exact BK101.out⟩, ⟨by repeat (first | (with_reducible first | exact HB.out | apply zba | apply zbn | apply zb1 | refine zbs ?_ GE101.out) | exact HB.out)⟩⟩
           replace c38 := Bool.eq_false_iff.mpr c38
           subst c38
           have H1 : (none) = some r := by rw [if_neg (show ¬ (false = true) by decide)] at H; exact H
           clear H
           have H := H1
           clear H1
           exact absurd H (by simp)
          rw [if_neg c37] at H
          have c37b0 : (t120 == 2) = false := beq_eq_false_iff_ne.mpr c37
          have c37b1 : (t120 != 2) = true := bne_iff_ne.mpr c37
          by_cases c46 : t120 = 0
          ·rw [if_pos c46] at H
           have c46b0 : (t120 == 0) = true := beq_iff_eq.mpr c46
           have c46b1 : (t120 != 0) = false := bne_eq_false_iff_eq.mpr c46
           clear c46
           by_cases c47 : t122 = true
           ·subst c47
            have H1 : (none) = some r := by rw [if_pos rfl] at H; exact H
            clear H
            have H := H1
            clear H1
            exact absurd H (by simp)
           replace c47 := Bool.eq_false_iff.mpr c47
           subst c47
           have H1 : (if t120 < x12_3 then (none) else (isobathlaw07_SoundSure.l2 k3 l0 x7_2 t120 (wrap64 (x13_3 + 1)) a1_0 a1_1 a1_2)) = some r := by rw [if_neg (show ¬ (false = true) by decide)] at H; exact H
           clear H
           have H := H1
           clear H1
           by_cases c48 : t120 < x12_3
           ·rw [if_pos c48] at H
            exact absurd H (by simp)
           rw [if_neg c48] at H
           have c48b0 : decide (t120 < x12_3) = false := zdf c48
           clear c48
           have H' := zam H
           clear H
           have p119 : 0 ≤ (0 : Int) := (by omega)
           have q119 : 0 < (l0.length : Int) := zod (by first | (with_reducible assumption) | assumption)
           obtain ⟨ad119, A119_0, c119_0, e119, hx119_0, hl119_0, hi119_0⟩ := at_T45 HR0.out 0 p119 q119
           cases e119
           have qi119 : (0 < l0.length) = True := eq_true (by omega)
           (try rw [show ((0 : Int)).toNat = 0 from rfl] at hx119_0)
           (try rw [Addr.add_zero'] at hx119_0)
           replace hx119_0 := (HB.out.cell (zwb w _ hx119_0)).trans hx119_0
           have HR119_0 := zam hi119_0
           have HC119_0 := zam hl119_0
           clear hi119_0 hl119_0
           replace p119 := eq_true p119
           replace q119 := eq_true q119
           have hcz49_0 : wr.cell? ⟨gb101, 0, none⟩ = some (.int .i64 a1_0) := (zkc BK101.out 0).trans rfl
           have hcz49_1 : wr.cell? ⟨gb101, 1, none⟩ = some (.int .i64 a1_1) := (zkc BK101.out 1).trans rfl
           have hcz49_2 : wr.cell? ⟨gb101, 2, none⟩ = some (.int .i64 a1_2) := (zkc BK101.out 2).trans rfl
           have hfz49_0 := zkz BK101.out 0
           have hfz49_1 := zkz BK101.out 1
           have hfz49_2 := zkz BK101.out 2
           go_wp2_with (first | ((with_reducible refine zgc (f := 21) rfl ?_); refine goesL_ (some 94) rfl rfl Try.func21 (by kernel_rfl) rfl #[.slice (some ad119) l0.length c0, .agg #[.int .i64 a1_0, .int .i64 a1_1, .int .i64 a1_2], .int .i64 x13_3] rfl (by (try simp only [zmt, List.map_cons, List.map_nil]); first | done | rfl | (simp only [zld, zlt]; rfl)) ?_; (with_reducible refine (sound_Raised.calls k3 _ _ l0 a1_0 a1_1 a1_2 x13_3 t120 t121 _ ?side1 ?side2 A34.out).mono ?_); (case side1 => repeat (first | exact (Kd.C_below HR0.out HB.out) | (with_reducible refine Kd.C_alloc ?_ _) | (with_reducible refine Kd.C_drewN ?_ _) | (with_reducible refine Kd.C_drew ?_))); (case side2 => exact HC0.out); rintro e w50 ⟨rfl, hb⟩; refine ⟨_, rfl, ?_⟩; have n0_ := zam (Kd.S_below (by (with_reducible repeat (first | apply Kd.S_alloc | apply Kd.S_drewN | apply Kd.S_drew)); exact HO_7.out) hb); have n1_ := zam (zkb (g := gb101) (o := .cells #[.int .i64 a1_0, .int .i64 a1_1, .int .i64 a1_2] 39 (0, 0)) (by (with_reducible repeat (first | refine zkn ?_ _ | refine zkd ?_ | refine zka ?_ _)); exact BK101.out) hb); have n2_ := zam (zbt (by repeat (first | (with_reducible first | exact HB.out | apply zba | apply zbn | apply zb1 | refine zbs ?_ GE101.out) | exact HB.out)) hb); clear HO_7; clear BK101; clear HB; have HO_7 := n0_; have BK101 := n1_; have HB := n2_; clear n0_ n1_ n2_; (try clear hb); (try clear hb2); (try clear hk); (try clear hi); have hcz51_0 : w50.cell? ⟨gb101, 0, none⟩ = some (.int .i64 a1_0) := (zkc BK101.out 0).trans rfl; have hcz51_1 : w50.cell? ⟨gb101, 1, none⟩ = some (.int .i64 a1_1) := (zkc BK101.out 1).trans rfl; have hcz51_2 : w50.cell? ⟨gb101, 2, none⟩ = some (.int .i64 a1_2) := (zkc BK101.out 2).trans rfl; have hfz51_0 := zkz BK101.out 0; have hfz51_1 := zkz BK101.out 1; have hfz51_2 := zkz BK101.out 2; obtain ⟨Ao52, co52, eo52⟩ := Kd.S_slice HO_7.out; subst eo52) | ((with_reducible refine zgc (f := 22) rfl ?_); refine goesL_ (some 103) rfl rfl Try.func22 (by kernel_rfl) rfl #[.slice Ao52 x7_2.length co52, .agg #[.int .i64 a1_0, .int .i64 a1_1, .int .i64 a1_2], .int .i64 x13_3] rfl (by (try simp only [zmt, List.map_cons, List.map_nil]); first | done | rfl | (simp only [zld, zlt]; rfl)) ?_; (with_reducible refine (isobathlaw07_alarm.calls k3 _ _ x7_2 a1_0 a1_1 a1_2 x13_3 false _ ?side1 ?side2 A36.out).mono ?_); (case side1 => repeat (first | exact (Kd.S_reads' HO_7.out).2.2 | (with_reducible refine Kd.C_alloc ?_ _) | (with_reducible refine Kd.C_drewN ?_ _) | (with_reducible refine Kd.C_drew ?_))); (case side2 => exact (Kd.S_reads' HO_7.out).2.1); rintro e w53 ⟨rfl, hb⟩; refine ⟨_, rfl, ?_⟩; have n0_ := zam (Kd.S_below (by (with_reducible repeat (first | apply Kd.S_alloc | apply Kd.S_drewN | apply Kd.S_drew)); exact HO_7.out) hb); have n1_ := zam (zkb (g := gb101) (o := .cells #[.int .i64 a1_0, .int .i64 a1_1, .int .i64 a1_2] 39 (0, 0)) (by (with_reducible repeat (first | refine zkn ?_ _ | refine zkd ?_ | refine zka ?_ _)); exact BK101.out) hb); have n2_ := zam (zbt (by repeat (first | (with_reducible first | exact HB.out | apply zba | apply zbn | apply zb1 | refine zbs ?_ GE101.out) | exact HB.out)) hb); clear HO_7; clear BK101; clear HB; have HO_7 := n0_; have BK101 := n1_; have HB := n2_; clear n0_ n1_ n2_; (try clear hb); (try clear hb2); (try clear hk); (try clear hi)))
           go_roundg k3
           case measure => have := HJ3.out; have := HK2.out; have := HK3.out; omega
           case rel => exact ⟨(t120), (wrap64 (x13_3 + 1)), (by first | rfl | (simp; done) | (simp [*]; done)), (by first | rfl | (simp; done) | (simp [*]; done)), H', ⟨by have := HJ3.out; have := HK2.out; have := HK3.out; omega⟩, ⟨by (with_reducible repeat (first | apply Kd.S_alloc | apply Kd.S_drewN | apply Kd.S_drew)); exact HO_7.out⟩, ⟨by (with_reducible repeat (first | refine zkn ?_ _ | refine zkd ?_ | refine zka ?_ _)); exact BK101.out⟩, ⟨by repeat (first | (with_reducible first | exact HB.out | apply zba | apply zbn | apply zb1 | refine zbs ?_ GE101.out) | exact HB.out)⟩⟩
          rw [if_neg c46] at H
          have c46b0 : (t120 == 0) = false := beq_eq_false_iff_ne.mpr c46
          have c46b1 : (t120 != 0) = true := bne_iff_ne.mpr c46
          by_cases c54 : t120 < x12_3
          ·rw [if_pos c54] at H
           exact absurd H (by simp)
          rw [if_neg c54] at H
          have c54b0 : decide (t120 < x12_3) = false := zdf c54
          clear c54
          have H' := zam H
          clear H
          have p119 : 0 ≤ (0 : Int) := (by omega)
          have q119 : 0 < (l0.length : Int) := zod (by first | (with_reducible assumption) | assumption)
          obtain ⟨ad119, A119_0, c119_0, e119, hx119_0, hl119_0, hi119_0⟩ := at_T45 HR0.out 0 p119 q119
          cases e119
          have qi119 : (0 < l0.length) = True := eq_true (by omega)
          (try rw [show ((0 : Int)).toNat = 0 from rfl] at hx119_0)
          (try rw [Addr.add_zero'] at hx119_0)
          replace hx119_0 := (HB.out.cell (zwb w _ hx119_0)).trans hx119_0
          have HR119_0 := zam hi119_0
          have HC119_0 := zam hl119_0
          clear hi119_0 hl119_0
          replace p119 := eq_true p119
          replace q119 := eq_true q119
          have hcz55_0 : wr.cell? ⟨gb101, 0, none⟩ = some (.int .i64 a1_0) := (zkc BK101.out 0).trans rfl
          have hcz55_1 : wr.cell? ⟨gb101, 1, none⟩ = some (.int .i64 a1_1) := (zkc BK101.out 1).trans rfl
          have hcz55_2 : wr.cell? ⟨gb101, 2, none⟩ = some (.int .i64 a1_2) := (zkc BK101.out 2).trans rfl
          have hfz55_0 := zkz BK101.out 0
          have hfz55_1 := zkz BK101.out 1
          have hfz55_2 := zkz BK101.out 2
          go_wp2_with (first | ((with_reducible refine zgc (f := 21) rfl ?_); refine goesL_ (some 94) rfl rfl Try.func21 (by kernel_rfl) rfl #[.slice (some ad119) l0.length c0, .agg #[.int .i64 a1_0, .int .i64 a1_1, .int .i64 a1_2], .int .i64 x13_3] rfl (by (try simp only [zmt, List.map_cons, List.map_nil]); first | done | rfl | (simp only [zld, zlt]; rfl)) ?_; (with_reducible refine (sound_Raised.calls k3 _ _ l0 a1_0 a1_1 a1_2 x13_3 t120 t121 _ ?side1 ?side2 A34.out).mono ?_); (case side1 => repeat (first | exact (Kd.C_below HR0.out HB.out) | (with_reducible refine Kd.C_alloc ?_ _) | (with_reducible refine Kd.C_drewN ?_ _) | (with_reducible refine Kd.C_drew ?_))); (case side2 => exact HC0.out); rintro e w56 ⟨rfl, hb⟩; refine ⟨_, rfl, ?_⟩; have n0_ := zam (Kd.S_below (by (with_reducible repeat (first | apply Kd.S_alloc | apply Kd.S_drewN | apply Kd.S_drew)); exact HO_7.out) hb); have n1_ := zam (zkb (g := gb101) (o := .cells #[.int .i64 a1_0, .int .i64 a1_1, .int .i64 a1_2] 39 (0, 0)) (by (with_reducible repeat (first | refine zkn ?_ _ | refine zkd ?_ | refine zka ?_ _)); exact BK101.out) hb); have n2_ := zam (zbt (by repeat (first | (with_reducible first | exact HB.out | apply zba | apply zbn | apply zb1 | refine zbs ?_ GE101.out) | exact HB.out)) hb); clear HO_7; clear BK101; clear HB; have HO_7 := n0_; have BK101 := n1_; have HB := n2_; clear n0_ n1_ n2_; (try clear hb); (try clear hb2); (try clear hk); (try clear hi); have hcz57_0 : w56.cell? ⟨gb101, 0, none⟩ = some (.int .i64 a1_0) := (zkc BK101.out 0).trans rfl; have hcz57_1 : w56.cell? ⟨gb101, 1, none⟩ = some (.int .i64 a1_1) := (zkc BK101.out 1).trans rfl; have hcz57_2 : w56.cell? ⟨gb101, 2, none⟩ = some (.int .i64 a1_2) := (zkc BK101.out 2).trans rfl; have hfz57_0 := zkz BK101.out 0; have hfz57_1 := zkz BK101.out 1; have hfz57_2 := zkz BK101.out 2; obtain ⟨Ao58, co58, eo58⟩ := Kd.S_slice HO_7.out; subst eo58) | ((with_reducible refine zgc (f := 22) rfl ?_); refine goesL_ (some 103) rfl rfl Try.func22 (by kernel_rfl) rfl #[.slice Ao58 x7_2.length co58, .agg #[.int .i64 a1_0, .int .i64 a1_1, .int .i64 a1_2], .int .i64 x13_3] rfl (by (try simp only [zmt, List.map_cons, List.map_nil]); first | done | rfl | (simp only [zld, zlt]; rfl)) ?_; (with_reducible refine (isobathlaw07_alarm.calls k3 _ _ x7_2 a1_0 a1_1 a1_2 x13_3 t122 _ ?side1 ?side2 A36.out).mono ?_); (case side1 => repeat (first | exact (Kd.S_reads' HO_7.out).2.2 | (with_reducible refine Kd.C_alloc ?_ _) | (with_reducible refine Kd.C_drewN ?_ _) | (with_reducible refine Kd.C_drew ?_))); (case side2 => exact (Kd.S_reads' HO_7.out).2.1); rintro e w59 ⟨rfl, hb⟩; refine ⟨_, rfl, ?_⟩; have n0_ := zam (Kd.S_below (by (with_reducible repeat (first | apply Kd.S_alloc | apply Kd.S_drewN | apply Kd.S_drew)); exact HO_7.out) hb); have n1_ := zam (zkb (g := gb101) (o := .cells #[.int .i64 a1_0, .int .i64 a1_1, .int .i64 a1_2] 39 (0, 0)) (by (with_reducible repeat (first | refine zkn ?_ _ | refine zkd ?_ | refine zka ?_ _)); exact BK101.out) hb); have n2_ := zam (zbt (by repeat (first | (with_reducible first | exact HB.out | apply zba | apply zbn | apply zb1 | refine zbs ?_ GE101.out) | exact HB.out)) hb); clear HO_7; clear BK101; clear HB; have HO_7 := n0_; have BK101 := n1_; have HB := n2_; clear n0_ n1_ n2_; (try clear hb); (try clear hb2); (try clear hk); (try clear hi)))
          go_roundg k3
          case measure => have := HJ3.out; have := HK2.out; have := HK3.out; omega
          case rel => exact ⟨(t120), (wrap64 (x13_3 + 1)), (by first | rfl | (simp; done) | (simp [*]; done)), (by first | rfl | (simp; done) | (simp [*]; done)), H', ⟨by have := HJ3.out; have := HK2.out; have := HK3.out; omega⟩, ⟨by (with_reducible repeat (first | apply Kd.S_alloc | apply Kd.S_drewN | apply Kd.S_drew)); exact HO_7.out⟩, ⟨by (with_reducible repeat (first | refine zkn ?_ _ | refine zkd ?_ | refine zka ?_ _)); exact BK101.out⟩, ⟨by repeat (first | (with_reducible first | exact HB.out | apply zba | apply zbn | apply zb1 | refine zbs ?_ GE101.out) | exact HB.out)⟩⟩
         rw [if_neg c35] at H
         have c35b0 : (t121 == 0) = false := beq_eq_false_iff_ne.mpr c35
         have c35b1 : (t121 != 0) = true := bne_iff_ne.mpr c35
         replace H := Option.bind_eq_some_iff.mp H
         obtain ⟨t123, A600, H⟩ := H
         replace H : (some t123) = some r := H
         have A60 := zam A600
         clear A600
         obtain rfl := zsi H
         have p119 : 0 ≤ (0 : Int) := (by omega)
         have q119 : 0 < (l0.length : Int) := zod (by first | (with_reducible assumption) | assumption)
         obtain ⟨ad119, A119_0, c119_0, e119, hx119_0, hl119_0, hi119_0⟩ := at_T45 HR0.out 0 p119 q119
         cases e119
         have qi119 : (0 < l0.length) = True := eq_true (by omega)
         (try rw [show ((0 : Int)).toNat = 0 from rfl] at hx119_0)
         (try rw [Addr.add_zero'] at hx119_0)
         replace hx119_0 := (HB.out.cell (zwb w _ hx119_0)).trans hx119_0
         have HR119_0 := zam hi119_0
         have HC119_0 := zam hl119_0
         clear hi119_0 hl119_0
         replace p119 := eq_true p119
         replace q119 := eq_true q119
         have hcz61_0 : wr.cell? ⟨gb101, 0, none⟩ = some (.int .i64 a1_0) := (zkc BK101.out 0).trans rfl
         have hcz61_1 : wr.cell? ⟨gb101, 1, none⟩ = some (.int .i64 a1_1) := (zkc BK101.out 1).trans rfl
         have hcz61_2 : wr.cell? ⟨gb101, 2, none⟩ = some (.int .i64 a1_2) := (zkc BK101.out 2).trans rfl
         have hfz61_0 := zkz BK101.out 0
         have hfz61_1 := zkz BK101.out 1
         have hfz61_2 := zkz BK101.out 2
         go_wp2_with (first | ((with_reducible refine zgc (f := 21) rfl ?_); refine goesL_ (some 94) rfl rfl Try.func21 (by kernel_rfl) rfl #[.slice (some ad119) l0.length c0, .agg #[.int .i64 a1_0, .int .i64 a1_1, .int .i64 a1_2], .int .i64 x13_3] rfl (by (try simp only [zmt, List.map_cons, List.map_nil]); first | done | rfl | (simp only [zld, zlt]; rfl)) ?_; (with_reducible refine (sound_Raised.calls k3 _ _ l0 a1_0 a1_1 a1_2 x13_3 t120 t121 _ ?side1 ?side2 A34.out).mono ?_); (case side1 => repeat (first | exact (Kd.C_below HR0.out HB.out) | (with_reducible refine Kd.C_alloc ?_ _) | (with_reducible refine Kd.C_drewN ?_ _) | (with_reducible refine Kd.C_drew ?_))); (case side2 => exact HC0.out); rintro e w62 ⟨rfl, hb⟩; refine ⟨_, rfl, ?_⟩; have n0_ := zam (Kd.S_below (by (with_reducible repeat (first | apply Kd.S_alloc | apply Kd.S_drewN | apply Kd.S_drew)); exact HO_7.out) hb); have n1_ := zam (zkb (g := gb101) (o := .cells #[.int .i64 a1_0, .int .i64 a1_1, .int .i64 a1_2] 39 (0, 0)) (by (with_reducible repeat (first | refine zkn ?_ _ | refine zkd ?_ | refine zka ?_ _)); exact BK101.out) hb); have n2_ := zam (zbt (by repeat (first | (with_reducible first | exact HB.out | apply zba | apply zbn | apply zb1 | refine zbs ?_ GE101.out) | exact HB.out)) hb); clear HO_7; clear BK101; clear HB; have HO_7 := n0_; have BK101 := n1_; have HB := n2_; clear n0_ n1_ n2_; (try clear hb); (try clear hb2); (try clear hk); (try clear hi)) | ((with_reducible refine zgc (f := 14) rfl ?_); refine goesL_ (some 99) rfl rfl Try.func14 (by kernel_rfl) rfl #[] rfl (by (try simp only [zmt, List.map_cons, List.map_nil]); first | done | rfl | (simp only [zld, zlt]; rfl)) ?_; (with_reducible refine (isobathlaw07_Works.calls k3  t123 _ A60.out).mono ?_); rintro e w63 ⟨rfl, hb⟩; refine ⟨_, rfl, ?_⟩; have n0_ := zam (Kd.S_below (by (with_reducible repeat (first | apply Kd.S_alloc | apply Kd.S_drewN | apply Kd.S_drew)); exact HO_7.out) hb); have n1_ := zam (zkb (g := gb101) (o := .cells #[.int .i64 a1_0, .int .i64 a1_1, .int .i64 a1_2] 39 (0, 0)) (by (with_reducible repeat (first | refine zkn ?_ _ | refine zkd ?_ | refine zka ?_ _)); exact BK101.out) hb); have n2_ := zam (zbt (by repeat (first | (with_reducible first | exact HB.out | apply zba | apply zbn | apply zb1 | refine zbs ?_ GE101.out) | exact HB.out)) hb); clear HO_7; clear BK101; clear HB; have HO_7 := n0_; have BK101 := n1_; have HB := n2_; clear n0_ n1_ n2_; (try clear hb); (try clear hb2); (try clear hk); (try clear hi)))
         go_ret
         exact ⟨by first | rfl | (simp [errW_none, errW_some] <;> rfl) | (simp [*, errW_none, errW_some] <;> rfl), by repeat (first | (with_reducible first | exact HB.out | apply zba | apply zbn | apply zb1 | refine zbs ?_ GE101.out) | exact HB.out)⟩
        rw [if_neg c33] at H
        have c33b0 : decide (x13_3 < (((rd_T45 l0 0).f0).length : Int)) = false := zdf c33
        clear c33
        replace H := Option.bind_eq_some_iff.mp H
        obtain ⟨⟨t124, t125, t126⟩, A640, H⟩ := H
        replace H : (if t126 = 0 then (if t125 ≥ 0 then (if t125 ≤ t124 then (if t124 < (((rd_T45 l0 0).f0).length : Int) then ((isobathlaw07_alarm.f k3 x7_2 a1_0 a1_1 a1_2 t124).bind fun t128 => (if t128 = true then (if t125 = 0 then ((isobathlaw07_Works.f k3).bind fun t129 => (some t129)) else ((isobathlaw07_alarm.f k3 x7_2 a1_0 a1_1 a1_2 (wrap64 (t125 - 1))).bind fun t130 => (if t130 = true then (none) else ((isobathlaw07_Works.f k3).bind fun t131 => (some t131))))) else (none))) else (none)) else (none)) else (none)) else (if t126 = 5 then (if x12_3 = 2 then (none) else ((isobathlaw07_Works.f k3).bind fun t132 => (some t132))) else ((isobathlaw07_Works.f k3).bind fun t133 => (some t133)))) = some r := H
        have A64 := zam A640
        clear A640
        by_cases c65 : t126 = 0
        ·rw [if_pos c65] at H
         have c65b0 : (t126 == 0) = true := beq_iff_eq.mpr c65
         have c65b1 : (t126 != 0) = false := bne_eq_false_iff_eq.mpr c65
         clear c65
         by_cases c66 : t125 ≥ 0
         ·rw [if_pos c66] at H
          have c66b0 : decide (0 ≤ t125) = true := zdt c66
          clear c66
          by_cases c67 : t125 ≤ t124
          ·rw [if_pos c67] at H
           have c67b0 : decide (t125 ≤ t124) = true := zdt c67
           clear c67
           by_cases c68 : t124 < (((rd_T45 l0 0).f0).length : Int)
           ·rw [if_pos c68] at H
            have c68b0 : decide (t124 < (((rd_T45 l0 0).f0).length : Int)) = true := zdt c68
            clear c68
            replace H := Option.bind_eq_some_iff.mp H
            obtain ⟨t128, A690, H⟩ := H
            replace H : (if t128 = true then (if t125 = 0 then ((isobathlaw07_Works.f k3).bind fun t129 => (some t129)) else ((isobathlaw07_alarm.f k3 x7_2 a1_0 a1_1 a1_2 (wrap64 (t125 - 1))).bind fun t130 => (if t130 = true then (none) else ((isobathlaw07_Works.f k3).bind fun t131 => (some t131))))) else (none)) = some r := H
            have A69 := zam A690
            clear A690
            by_cases c70 : t128 = true
            ·subst c70
             have H1 : (if t125 = 0 then ((isobathlaw07_Works.f k3).bind fun t129 => (some t129)) else ((isobathlaw07_alarm.f k3 x7_2 a1_0 a1_1 a1_2 (wrap64 (t125 - 1))).bind fun t130 => (if t130 = true then (none) else ((isobathlaw07_Works.f k3).bind fun t131 => (some t131))))) = some r := by rw [if_pos rfl] at H; exact H
             clear H
             have H := H1
             clear H1
             by_cases c71 : t125 = 0
             ·rw [if_pos c71] at H
              have c71b0 : (t125 == 0) = true := beq_iff_eq.mpr c71
              have c71b1 : (t125 != 0) = false := bne_eq_false_iff_eq.mpr c71
              clear c71
              replace H := Option.bind_eq_some_iff.mp H
              obtain ⟨t129, A720, H⟩ := H
              replace H : (some t129) = some r := H
              have A72 := zam A720
              clear A720
              obtain rfl := zsi H
              have p119 : 0 ≤ (0 : Int) := (by omega)
              have q119 : 0 < (l0.length : Int) := zod (by first | (with_reducible assumption) | assumption)
              obtain ⟨ad119, A119_0, c119_0, e119, hx119_0, hl119_0, hi119_0⟩ := at_T45 HR0.out 0 p119 q119
              cases e119
              have qi119 : (0 < l0.length) = True := eq_true (by omega)
              (try rw [show ((0 : Int)).toNat = 0 from rfl] at hx119_0)
              (try rw [Addr.add_zero'] at hx119_0)
              replace hx119_0 := (HB.out.cell (zwb w _ hx119_0)).trans hx119_0
              have HR119_0 := zam hi119_0
              have HC119_0 := zam hl119_0
              clear hi119_0 hl119_0
              replace p119 := eq_true p119
              replace q119 := eq_true q119
              have hcz73_0 : wr.cell? ⟨gb101, 0, none⟩ = some (.int .i64 a1_0) := (zkc BK101.out 0).trans rfl
              have hcz73_1 : wr.cell? ⟨gb101, 1, none⟩ = some (.int .i64 a1_1) := (zkc BK101.out 1).trans rfl
              have hcz73_2 : wr.cell? ⟨gb101, 2, none⟩ = some (.int .i64 a1_2) := (zkc BK101.out 2).trans rfl
              have hfz73_0 := zkz BK101.out 0
              have hfz73_1 := zkz BK101.out 1
              have hfz73_2 := zkz BK101.out 2
              go_wp2_with (first | ((with_reducible refine zgc (f := 23) rfl ?_); refine goesL_ (some 126) rfl rfl Try.func23 (by kernel_rfl) rfl #[.slice (some ad119) l0.length c0, .agg #[.int .i64 a1_0, .int .i64 a1_1, .int .i64 a1_2]] rfl (by (try simp only [zmt, List.map_cons, List.map_nil]); first | done | rfl | (simp only [zld, zlt]; rfl)) ?_; (with_reducible refine (sound_First.calls k3 _ _ l0 a1_0 a1_1 a1_2 t124 t125 t126 _ ?side1 ?side2 A64.out).mono ?_); (case side1 => repeat (first | exact (Kd.C_below HR0.out HB.out) | (with_reducible refine Kd.C_alloc ?_ _) | (with_reducible refine Kd.C_drewN ?_ _) | (with_reducible refine Kd.C_drew ?_))); (case side2 => exact HC0.out); rintro e w74 ⟨rfl, hb⟩; refine ⟨_, rfl, ?_⟩; have n0_ := zam (Kd.S_below (by (with_reducible repeat (first | apply Kd.S_alloc | apply Kd.S_drewN | apply Kd.S_drew)); exact HO_7.out) hb); have n1_ := zam (zkb (g := gb101) (o := .cells #[.int .i64 a1_0, .int .i64 a1_1, .int .i64 a1_2] 39 (0, 0)) (by (with_reducible repeat (first | refine zkn ?_ _ | refine zkd ?_ | refine zka ?_ _)); exact BK101.out) hb); have n2_ := zam (zbt (by repeat (first | (with_reducible first | exact HB.out | apply zba | apply zbn | apply zb1 | refine zbs ?_ GE101.out) | exact HB.out)) hb); clear HO_7; clear BK101; clear HB; have HO_7 := n0_; have BK101 := n1_; have HB := n2_; clear n0_ n1_ n2_; (try clear hb); (try clear hb2); (try clear hk); (try clear hi); have p127 : 0 ≤ (0 : Int) := (by omega); have q127 : 0 < (l0.length : Int) := zod (by first | (with_reducible assumption) | assumption); obtain ⟨ad127, A127_0, c127_0, e127, hx127_0, hl127_0, hi127_0⟩ := at_T45 HR0.out 0 p127 q127; obtain rfl : ad119 = ad127 := (by injection e127); have qi127 : (0 < l0.length) = True := eq_true (by omega); (try rw [show ((0 : Int)).toNat = 0 from rfl] at hx127_0); (try rw [Addr.add_zero'] at hx127_0); replace hx127_0 := (HB.out.cell (zwb w _ hx127_0)).trans hx127_0; have HR127_0 := zam hi127_0; have HC127_0 := zam hl127_0; clear hi127_0 hl127_0; replace p127 := eq_true p127; replace q127 := eq_true q127; have hcz75_0 : w74.cell? ⟨gb101, 0, none⟩ = some (.int .i64 a1_0) := (zkc BK101.out 0).trans rfl; have hcz75_1 : w74.cell? ⟨gb101, 1, none⟩ = some (.int .i64 a1_1) := (zkc BK101.out 1).trans rfl; have hcz75_2 : w74.cell? ⟨gb101, 2, none⟩ = some (.int .i64 a1_2) := (zkc BK101.out 2).trans rfl; have hfz75_0 := zkz BK101.out 0; have hfz75_1 := zkz BK101.out 1; have hfz75_2 := zkz BK101.out 2; obtain ⟨Ao76, co76, eo76⟩ := Kd.S_slice HO_7.out; subst eo76) | (go_at_call 22; (with_reducible refine (isobathlaw07_alarm.calls k3 _ _ x7_2 a1_0 a1_1 a1_2 t124 true _ ?side1 ?side2 A69.out).mono ?_); (case side1 => repeat (first | exact (Kd.S_reads' HO_7.out).2.2 | (with_reducible refine Kd.C_alloc ?_ _) | (with_reducible refine Kd.C_drewN ?_ _) | (with_reducible refine Kd.C_drew ?_))); (case side2 => exact (Kd.S_reads' HO_7.out).2.1); rintro e w77 ⟨rfl, hb⟩; have n0_ := zam (Kd.S_below (by (with_reducible repeat (first | apply Kd.S_alloc | apply Kd.S_drewN | apply Kd.S_drew)); exact HO_7.out) hb); have n1_ := zam (zkb (g := gb101) (o := .cells #[.int .i64 a1_0, .int .i64 a1_1, .int .i64 a1_2] 39 (0, 0)) (by (with_reducible repeat (first | refine zkn ?_ _ | refine zkd ?_ | refine zka ?_ _)); exact BK101.out) hb); have n2_ := zam (zbt (by repeat (first | (with_reducible first | exact HB.out | apply zba | apply zbn | apply zb1 | refine zbs ?_ GE101.out) | exact HB.out)) hb); clear HO_7; clear BK101; clear HB; have HO_7 := n0_; have BK101 := n1_; have HB := n2_; clear n0_ n1_ n2_; (try clear hb); (try clear hb2); (try clear hk); (try clear hi)) | (go_at_call 14; (with_reducible refine (isobathlaw07_Works.calls k3  t129 _ A72.out).mono ?_); rintro e w78 ⟨rfl, hb⟩; have n0_ := zam (Kd.S_below (by (with_reducible repeat (first | apply Kd.S_alloc | apply Kd.S_drewN | apply Kd.S_drew)); exact HO_7.out) hb); have n1_ := zam (zkb (g := gb101) (o := .cells #[.int .i64 a1_0, .int .i64 a1_1, .int .i64 a1_2] 39 (0, 0)) (by (with_reducible repeat (first | refine zkn ?_ _ | refine zkd ?_ | refine zka ?_ _)); exact BK101.out) hb); have n2_ := zam (zbt (by repeat (first | (with_reducible first | exact HB.out | apply zba | apply zbn | apply zb1 | refine zbs ?_ GE101.out) | exact HB.out)) hb); clear HO_7; clear BK101; clear HB; have HO_7 := n0_; have BK101 := n1_; have HB := n2_; clear n0_ n1_ n2_; (try clear hb); (try clear hb2); (try clear hk); (try clear hi)))
              go_ret
              exact ⟨by first | rfl | (simp [errW_none, errW_some] <;> rfl) | (simp [*, errW_none, errW_some] <;> rfl), by repeat (first | (with_reducible first | exact HB.out | apply zba | apply zbn | apply zb1 | refine zbs ?_ GE101.out) | exact HB.out)⟩
             rw [if_neg c71] at H
             have c71b0 : (t125 == 0) = false := beq_eq_false_iff_ne.mpr c71
             have c71b1 : (t125 != 0) = true := bne_iff_ne.mpr c71
             replace H := Option.bind_eq_some_iff.mp H
             obtain ⟨t130, A790, H⟩ := H
             replace H : (if t130 = true then (none) else ((isobathlaw07_Works.f k3).bind fun t131 => (some t131))) = some r := H
             have A79 := zam A790
             clear A790
             by_cases c80 : t130 = true
             ·subst c80
              have H1 : (none) = some r := by rw [if_pos rfl] at H; exact H
              clear H
              have H := H1
              clear H1
              exact absurd H (by simp)
             replace c80 := Bool.eq_false_iff.mpr c80
             subst c80
             have H1 : ((isobathlaw07_Works.f k3).bind fun t131 => (some t131)) = some r := by rw [if_neg (show ¬ (false = true) by decide)] at H; exact H
             clear H
             have H := H1
             clear H1
             replace H := Option.bind_eq_some_iff.mp H
             obtain ⟨t131, A810, H⟩ := H
             replace H : (some t131) = some r := H
             have A81 := zam A810
             clear A810
             obtain rfl := zsi H
             have p119 : 0 ≤ (0 : Int) := (by omega)
             have q119 : 0 < (l0.length : Int) := zod (by first | (with_reducible assumption) | assumption)
             obtain ⟨ad119, A119_0, c119_0, e119, hx119_0, hl119_0, hi119_0⟩ := at_T45 HR0.out 0 p119 q119
             cases e119
             have qi119 : (0 < l0.length) = True := eq_true (by omega)
             (try rw [show ((0 : Int)).toNat = 0 from rfl] at hx119_0)
             (try rw [Addr.add_zero'] at hx119_0)
             replace hx119_0 := (HB.out.cell (zwb w _ hx119_0)).trans hx119_0
             have HR119_0 := zam hi119_0
             have HC119_0 := zam hl119_0
             clear hi119_0 hl119_0
             replace p119 := eq_true p119
             replace q119 := eq_true q119
             have hcz82_0 : wr.cell? ⟨gb101, 0, none⟩ = some (.int .i64 a1_0) := (zkc BK101.out 0).trans rfl
             have hcz82_1 : wr.cell? ⟨gb101, 1, none⟩ = some (.int .i64 a1_1) := (zkc BK101.out 1).trans rfl
             have hcz82_2 : wr.cell? ⟨gb101, 2, none⟩ = some (.int .i64 a1_2) := (zkc BK101.out 2).trans rfl
             have hfz82_0 := zkz BK101.out 0
             have hfz82_1 := zkz BK101.out 1
             have hfz82_2 := zkz BK101.out 2
             go_wp2_with (first | ((with_reducible refine zgc (f := 23) rfl ?_); refine goesL_ (some 126) rfl rfl Try.func23 (by kernel_rfl) rfl #[.slice (some ad119) l0.length c0, .agg #[.int .i64 a1_0, .int .i64 a1_1, .int .i64 a1_2]] rfl (by (try simp only [zmt, List.map_cons, List.map_nil]); first | done | rfl | (simp only [zld, zlt]; rfl)) ?_; (with_reducible refine (sound_First.calls k3 _ _ l0 a1_0 a1_1 a1_2 t124 t125 t126 _ ?side1 ?side2 A64.out).mono ?_); (case side1 => repeat (first | exact (Kd.C_below HR0.out HB.out) | (with_reducible refine Kd.C_alloc ?_ _) | (with_reducible refine Kd.C_drewN ?_ _) | (with_reducible refine Kd.C_drew ?_))); (case side2 => exact HC0.out); rintro e w83 ⟨rfl, hb⟩; refine ⟨_, rfl, ?_⟩; have n0_ := zam (Kd.S_below (by (with_reducible repeat (first | apply Kd.S_alloc | apply Kd.S_drewN | apply Kd.S_drew)); exact HO_7.out) hb); have n1_ := zam (zkb (g := gb101) (o := .cells #[.int .i64 a1_0, .int .i64 a1_1, .int .i64 a1_2] 39 (0, 0)) (by (with_reducible repeat (first | refine zkn ?_ _ | refine zkd ?_ | refine zka ?_ _)); exact BK101.out) hb); have n2_ := zam (zbt (by repeat (first | (with_reducible first | exact HB.out | apply zba | apply zbn | apply zb1 | refine zbs ?_ GE101.out) | exact HB.out)) hb); clear HO_7; clear BK101; clear HB; have HO_7 := n0_; have BK101 := n1_; have HB := n2_; clear n0_ n1_ n2_; (try clear hb); (try clear hb2); (try clear hk); (try clear hi); have p127 : 0 ≤ (0 : Int) := (by omega); have q127 : 0 < (l0.length : Int) := zod (by first | (with_reducible assumption) | assumption); obtain ⟨ad127, A127_0, c127_0, e127, hx127_0, hl127_0, hi127_0⟩ := at_T45 HR0.out 0 p127 q127; obtain rfl : ad119 = ad127 := (by injection e127); have qi127 : (0 < l0.length) = True := eq_true (by omega); (try rw [show ((0 : Int)).toNat = 0 from rfl] at hx127_0); (try rw [Addr.add_zero'] at hx127_0); replace hx127_0 := (HB.out.cell (zwb w _ hx127_0)).trans hx127_0; have HR127_0 := zam hi127_0; have HC127_0 := zam hl127_0; clear hi127_0 hl127_0; replace p127 := eq_true p127; replace q127 := eq_true q127; have hcz84_0 : w83.cell? ⟨gb101, 0, none⟩ = some (.int .i64 a1_0) := (zkc BK101.out 0).trans rfl; have hcz84_1 : w83.cell? ⟨gb101, 1, none⟩ = some (.int .i64 a1_1) := (zkc BK101.out 1).trans rfl; have hcz84_2 : w83.cell? ⟨gb101, 2, none⟩ = some (.int .i64 a1_2) := (zkc BK101.out 2).trans rfl; have hfz84_0 := zkz BK101.out 0; have hfz84_1 := zkz BK101.out 1; have hfz84_2 := zkz BK101.out 2; obtain ⟨Ao85, co85, eo85⟩ := Kd.S_slice HO_7.out; subst eo85) | (go_at_call 22; (with_reducible refine (isobathlaw07_alarm.calls k3 _ _ x7_2 a1_0 a1_1 a1_2 t124 true _ ?side1 ?side2 A69.out).mono ?_); (case side1 => repeat (first | exact (Kd.S_reads' HO_7.out).2.2 | (with_reducible refine Kd.C_alloc ?_ _) | (with_reducible refine Kd.C_drewN ?_ _) | (with_reducible refine Kd.C_drew ?_))); (case side2 => exact (Kd.S_reads' HO_7.out).2.1); rintro e w86 ⟨rfl, hb⟩; have n0_ := zam (Kd.S_below (by (with_reducible repeat (first | apply Kd.S_alloc | apply Kd.S_drewN | apply Kd.S_drew)); exact HO_7.out) hb); have n1_ := zam (zkb (g := gb101) (o := .cells #[.int .i64 a1_0, .int .i64 a1_1, .int .i64 a1_2] 39 (0, 0)) (by (with_reducible repeat (first | refine zkn ?_ _ | refine zkd ?_ | refine zka ?_ _)); exact BK101.out) hb); have n2_ := zam (zbt (by repeat (first | (with_reducible first | exact HB.out | apply zba | apply zbn | apply zb1 | refine zbs ?_ GE101.out) | exact HB.out)) hb); clear HO_7; clear BK101; clear HB; have HO_7 := n0_; have BK101 := n1_; have HB := n2_; clear n0_ n1_ n2_; (try clear hb); (try clear hb2); (try clear hk); (try clear hi); have hcz87_0 : w86.cell? ⟨gb101, 0, none⟩ = some (.int .i64 a1_0) := (zkc BK101.out 0).trans rfl; have hcz87_1 : w86.cell? ⟨gb101, 1, none⟩ = some (.int .i64 a1_1) := (zkc BK101.out 1).trans rfl; have hcz87_2 : w86.cell? ⟨gb101, 2, none⟩ = some (.int .i64 a1_2) := (zkc BK101.out 2).trans rfl; have hfz87_0 := zkz BK101.out 0; have hfz87_1 := zkz BK101.out 1; have hfz87_2 := zkz BK101.out 2) | (go_at_call 22; (with_reducible refine (isobathlaw07_alarm.calls k3 _ _ x7_2 a1_0 a1_1 a1_2 (wrap64 (t125 - 1)) false _ ?side1 ?side2 A79.out).mono ?_); (case side1 => repeat (first | exact (Kd.S_reads' HO_7.out).2.2 | (with_reducible refine Kd.C_alloc ?_ _) | (with_reducible refine Kd.C_drewN ?_ _) | (with_reducible refine Kd.C_drew ?_))); (case side2 => exact (Kd.S_reads' HO_7.out).2.1); rintro e w88 ⟨rfl, hb⟩; have n0_ := zam (Kd.S_below (by (with_reducible repeat (first | apply Kd.S_alloc | apply Kd.S_drewN | apply Kd.S_drew)); exact HO_7.out) hb); have n1_ := zam (zkb (g := gb101) (o := .cells #[.int .i64 a1_0, .int .i64 a1_1, .int .i64 a1_2] 39 (0, 0)) (by (with_reducible repeat (first | refine zkn ?_ _ | refine zkd ?_ | refine zka ?_ _)); exact BK101.out) hb); have n2_ := zam (zbt (by repeat (first | (with_reducible first | exact HB.out | apply zba | apply zbn | apply zb1 | refine zbs ?_ GE101.out) | exact HB.out)) hb); clear HO_7; clear BK101; clear HB; have HO_7 := n0_; have BK101 := n1_; have HB := n2_; clear n0_ n1_ n2_; (try clear hb); (try clear hb2); (try clear hk); (try clear hi)) | (go_at_call 14; (with_reducible refine (isobathlaw07_Works.calls k3  t131 _ A81.out).mono ?_); rintro e w89 ⟨rfl, hb⟩; have n0_ := zam (Kd.S_below (by (with_reducible repeat (first | apply Kd.S_alloc | apply Kd.S_drewN | apply Kd.S_drew)); exact HO_7.out) hb); have n1_ := zam (zkb (g := gb101) (o := .cells #[.int .i64 a1_0, .int .i64 a1_1, .int .i64 a1_2] 39 (0, 0)) (by (with_reducible repeat (first | refine zkn ?_ _ | refine zkd ?_ | refine zka ?_ _)); exact BK101.out) hb); have n2_ := zam (zbt (by repeat (first | (with_reducible first | exact HB.out | apply zba | apply zbn | apply zb1 | refine zbs ?_ GE101.out) | exact HB.out)) hb); clear HO_7; clear BK101; clear HB; have HO_7 := n0_; have BK101 := n1_; have HB := n2_; clear n0_ n1_ n2_; (try clear hb); (try clear hb2); (try clear hk); (try clear hi)))
             go_ret
             exact ⟨by first | rfl | (simp [errW_none, errW_some] <;> rfl) | (simp [*, errW_none, errW_some] <;> rfl), by repeat (first | (with_reducible first | exact HB.out | apply zba | apply zbn | apply zb1 | refine zbs ?_ GE101.out) | exact HB.out)⟩
            replace c70 := Bool.eq_false_iff.mpr c70
            subst c70
            have H1 : (none) = some r := by rw [if_neg (show ¬ (false = true) by decide)] at H; exact H
            clear H
            have H := H1
            clear H1
            exact absurd H (by simp)
           rw [if_neg c68] at H
           exact absurd H (by simp)
          rw [if_neg c67] at H
          exact absurd H (by simp)
         rw [if_neg c66] at H
         exact absurd H (by simp)
        rw [if_neg c65] at H
        have c65b0 : (t126 == 0) = false := beq_eq_false_iff_ne.mpr c65
        have c65b1 : (t126 != 0) = true := bne_iff_ne.mpr c65
        by_cases c90 : t126 = 5
        ·rw [if_pos c90] at H
         have c90b0 : (t126 == 5) = true := beq_iff_eq.mpr c90
         have c90b1 : (t126 != 5) = false := bne_eq_false_iff_eq.mpr c90
         clear c90
         by_cases c91 : x12_3 = 2
         ·rw [if_pos c91] at H
          exact absurd H (by simp)
         rw [if_neg c91] at H
         have c91b0 : (x12_3 == 2) = false := beq_eq_false_iff_ne.mpr c91
         have c91b1 : (x12_3 != 2) = true := bne_iff_ne.mpr c91
         replace H := Option.bind_eq_some_iff.mp H
         obtain ⟨t132, A920, H⟩ := H
         replace H : (some t132) = some r := H
         have A92 := zam A920
         clear A920
         obtain rfl := zsi H
         have p119 : 0 ≤ (0 : Int) := (by omega)
         have q119 : 0 < (l0.length : Int) := zod (by first | (with_reducible assumption) | assumption)
         obtain ⟨ad119, A119_0, c119_0, e119, hx119_0, hl119_0, hi119_0⟩ := at_T45 HR0.out 0 p119 q119
         cases e119
         have qi119 : (0 < l0.length) = True := eq_true (by omega)
         (try rw [show ((0 : Int)).toNat = 0 from rfl] at hx119_0)
         (try rw [Addr.add_zero'] at hx119_0)
         replace hx119_0 := (HB.out.cell (zwb w _ hx119_0)).trans hx119_0
         have HR119_0 := zam hi119_0
         have HC119_0 := zam hl119_0
         clear hi119_0 hl119_0
         replace p119 := eq_true p119
         replace q119 := eq_true q119
         have hcz93_0 : wr.cell? ⟨gb101, 0, none⟩ = some (.int .i64 a1_0) := (zkc BK101.out 0).trans rfl
         have hcz93_1 : wr.cell? ⟨gb101, 1, none⟩ = some (.int .i64 a1_1) := (zkc BK101.out 1).trans rfl
         have hcz93_2 : wr.cell? ⟨gb101, 2, none⟩ = some (.int .i64 a1_2) := (zkc BK101.out 2).trans rfl
         have hfz93_0 := zkz BK101.out 0
         have hfz93_1 := zkz BK101.out 1
         have hfz93_2 := zkz BK101.out 2
         go_wp2_with (first | ((with_reducible refine zgc (f := 23) rfl ?_); refine goesL_ (some 126) rfl rfl Try.func23 (by kernel_rfl) rfl #[.slice (some ad119) l0.length c0, .agg #[.int .i64 a1_0, .int .i64 a1_1, .int .i64 a1_2]] rfl (by (try simp only [zmt, List.map_cons, List.map_nil]); first | done | rfl | (simp only [zld, zlt]; rfl)) ?_; (with_reducible refine (sound_First.calls k3 _ _ l0 a1_0 a1_1 a1_2 t124 t125 t126 _ ?side1 ?side2 A64.out).mono ?_); (case side1 => repeat (first | exact (Kd.C_below HR0.out HB.out) | (with_reducible refine Kd.C_alloc ?_ _) | (with_reducible refine Kd.C_drewN ?_ _) | (with_reducible refine Kd.C_drew ?_))); (case side2 => exact HC0.out); rintro e w94 ⟨rfl, hb⟩; refine ⟨_, rfl, ?_⟩; have n0_ := zam (Kd.S_below (by (with_reducible repeat (first | apply Kd.S_alloc | apply Kd.S_drewN | apply Kd.S_drew)); exact HO_7.out) hb); have n1_ := zam (zkb (g := gb101) (o := .cells #[.int .i64 a1_0, .int .i64 a1_1, .int .i64 a1_2] 39 (0, 0)) (by (with_reducible repeat (first | refine zkn ?_ _ | refine zkd ?_ | refine zka ?_ _)); exact BK101.out) hb); have n2_ := zam (zbt (by repeat (first | (with_reducible first | exact HB.out | apply zba | apply zbn | apply zb1 | refine zbs ?_ GE101.out) | exact HB.out)) hb); clear HO_7; clear BK101; clear HB; have HO_7 := n0_; have BK101 := n1_; have HB := n2_; clear n0_ n1_ n2_; (try clear hb); (try clear hb2); (try clear hk); (try clear hi)) | (go_at_call 14; (with_reducible refine (isobathlaw07_Works.calls k3  t132 _ A92.out).mono ?_); rintro e w95 ⟨rfl, hb⟩; have n0_ := zam (Kd.S_below (by (with_reducible repeat (first | apply Kd.S_alloc | apply Kd.S_drewN | apply Kd.S_drew)); exact HO_7.out) hb); have n1_ := zam (zkb (g := gb101) (o := .cells #[.int .i64 a1_0, .int .i64 a1_1, .int .i64 a1_2] 39 (0, 0)) (by (with_reducible repeat (first | refine zkn ?_ _ | refine zkd ?_ | refine zka ?_ _)); exact BK101.out) hb); have n2_ := zam (zbt (by repeat (first | (with_reducible first | exact HB.out | apply zba | apply zbn | apply zb1 | refine zbs ?_ GE101.out) | exact HB.out)) hb); clear HO_7; clear BK101; clear HB; have HO_7 := n0_; have BK101 := n1_; have HB := n2_; clear n0_ n1_ n2_; (try clear hb); (try clear hb2); (try clear hk); (try clear hi)))
         go_ret
         exact ⟨by first | rfl | (simp [errW_none, errW_some] <;> rfl) | (simp [*, errW_none, errW_some] <;> rfl), by repeat (first | (with_reducible first | exact HB.out | apply zba | apply zbn | apply zb1 | refine zbs ?_ GE101.out) | exact HB.out)⟩
        rw [if_neg c90] at H
        have c90b0 : (t126 == 5) = false := beq_eq_false_iff_ne.mpr c90
        have c90b1 : (t126 != 5) = true := bne_iff_ne.mpr c90
        replace H := Option.bind_eq_some_iff.mp H
        obtain ⟨t133, A960, H⟩ := H
        replace H : (some t133) = some r := H
        have A96 := zam A960
        clear A960
        obtain rfl := zsi H
        have p119 : 0 ≤ (0 : Int) := (by omega)
        have q119 : 0 < (l0.length : Int) := zod (by first | (with_reducible assumption) | assumption)
        obtain ⟨ad119, A119_0, c119_0, e119, hx119_0, hl119_0, hi119_0⟩ := at_T45 HR0.out 0 p119 q119
        cases e119
        have qi119 : (0 < l0.length) = True := eq_true (by omega)
        (try rw [show ((0 : Int)).toNat = 0 from rfl] at hx119_0)
        (try rw [Addr.add_zero'] at hx119_0)
        replace hx119_0 := (HB.out.cell (zwb w _ hx119_0)).trans hx119_0
        have HR119_0 := zam hi119_0
        have HC119_0 := zam hl119_0
        clear hi119_0 hl119_0
        replace p119 := eq_true p119
        replace q119 := eq_true q119
        have hcz97_0 : wr.cell? ⟨gb101, 0, none⟩ = some (.int .i64 a1_0) := (zkc BK101.out 0).trans rfl
        have hcz97_1 : wr.cell? ⟨gb101, 1, none⟩ = some (.int .i64 a1_1) := (zkc BK101.out 1).trans rfl
        have hcz97_2 : wr.cell? ⟨gb101, 2, none⟩ = some (.int .i64 a1_2) := (zkc BK101.out 2).trans rfl
        have hfz97_0 := zkz BK101.out 0
        have hfz97_1 := zkz BK101.out 1
        have hfz97_2 := zkz BK101.out 2
        go_wp2_with (first | ((with_reducible refine zgc (f := 23) rfl ?_); refine goesL_ (some 126) rfl rfl Try.func23 (by kernel_rfl) rfl #[.slice (some ad119) l0.length c0, .agg #[.int .i64 a1_0, .int .i64 a1_1, .int .i64 a1_2]] rfl (by (try simp only [zmt, List.map_cons, List.map_nil]); first | done | rfl | (simp only [zld, zlt]; rfl)) ?_; (with_reducible refine (sound_First.calls k3 _ _ l0 a1_0 a1_1 a1_2 t124 t125 t126 _ ?side1 ?side2 A64.out).mono ?_); (case side1 => repeat (first | exact (Kd.C_below HR0.out HB.out) | (with_reducible refine Kd.C_alloc ?_ _) | (with_reducible refine Kd.C_drewN ?_ _) | (with_reducible refine Kd.C_drew ?_))); (case side2 => exact HC0.out); rintro e w98 ⟨rfl, hb⟩; refine ⟨_, rfl, ?_⟩; have n0_ := zam (Kd.S_below (by (with_reducible repeat (first | apply Kd.S_alloc | apply Kd.S_drewN | apply Kd.S_drew)); exact HO_7.out) hb); have n1_ := zam (zkb (g := gb101) (o := .cells #[.int .i64 a1_0, .int .i64 a1_1, .int .i64 a1_2] 39 (0, 0)) (by (with_reducible repeat (first | refine zkn ?_ _ | refine zkd ?_ | refine zka ?_ _)); exact BK101.out) hb); have n2_ := zam (zbt (by repeat (first | (with_reducible first | exact HB.out | apply zba | apply zbn | apply zb1 | refine zbs ?_ GE101.out) | exact HB.out)) hb); clear HO_7; clear BK101; clear HB; have HO_7 := n0_; have BK101 := n1_; have HB := n2_; clear n0_ n1_ n2_; (try clear hb); (try clear hb2); (try clear hk); (try clear hi)) | (go_at_call 14; (with_reducible refine (isobathlaw07_Works.calls k3  t133 _ A96.out).mono ?_); rintro e w99 ⟨rfl, hb⟩; have n0_ := zam (Kd.S_below (by (with_reducible repeat (first | apply Kd.S_alloc | apply Kd.S_drewN | apply Kd.S_drew)); exact HO_7.out) hb); have n1_ := zam (zkb (g := gb101) (o := .cells #[.int .i64 a1_0, .int .i64 a1_1, .int .i64 a1_2] 39 (0, 0)) (by (with_reducible repeat (first | refine zkn ?_ _ | refine zkd ?_ | refine zka ?_ _)); exact BK101.out) hb); have n2_ := zam (zbt (by repeat (first | (with_reducible first | exact HB.out | apply zba | apply zbn | apply zb1 | refine zbs ?_ GE101.out) | exact HB.out)) hb); clear HO_7; clear BK101; clear HB; have HO_7 := n0_; have BK101 := n1_; have HB := n2_; clear n0_ n1_ n2_; (try clear hb); (try clear hb2); (try clear hk); (try clear hi)))
        go_ret
        exact ⟨by first | rfl | (simp [errW_none, errW_some] <;> rfl) | (simp [*, errW_none, errW_some] <;> rfl), by repeat (first | (with_reducible first | exact HB.out | apply zba | apply zbn | apply zb1 | refine zbs ?_ GE101.out) | exact HB.out)⟩
       rw [if_neg c32] at H
       exact absurd H (by simp)
end Go.Proofs.Ytaheamdoldiojaa.P
namespace Go.Proofs.Ytaheamdoldiojaa.P
open Go.RowKit Go.Proofs.YtaheamdoldiojaaW.PrintWords Go.Proofs.YtaheamdoldiojaaW.PrintLast Go.Proofs.YtaheamdoldiojaaW.PrintMore
namespace soundSure
open Go.ChangeShapes Go.WideShapes Go.ChangeAt
set_option linter.unusedVariables false
set_option linter.unusedSimpArgs false
def B24 (x : S24) : Prop := (fun n : Int => (Lit.int .i64 n).wf = true) x.f0 ∧ (fun n : Int => (Lit.int .i64 n).wf = true) x.f1
theorem opens24 : Opens Try.prog 24 k24 B24 := Opens.struct (fs := _) Try.underlying24 (fun x : S24 => (x.f0, x.f1)) (fun t => ⟨t.1, t.2⟩) (fun _ => rfl) (OpensF.cons rfl (by kernel_rfl) (Opens.int Try.underlying2) (OpensF.last rfl (by kernel_rfl) (Opens.int Try.underlying2)))
def B45 (x : S45) : Prop := (fun xs : List S24 => xs.length ≤ 9223372036854775807 ∧ ∀ x ∈ xs, B24 x) x.f0
theorem opens45 : Opens Try.prog 45 k45 B45 := Opens.struct (fs := _) Try.underlying45 (fun x : S45 => x.f0) (fun t => ⟨t⟩) (fun _ => rfl) (OpensF.last rfl (by kernel_rfl) (Opens.slice Try.underlying27 (by kernel_rfl) opens24))
def B39 (x : S39) : Prop := (fun n : Int => (Lit.int .i64 n).wf = true) x.f0 ∧ (fun n : Int => (Lit.int .i64 n).wf = true) x.f1 ∧ (fun n : Int => (Lit.int .i64 n).wf = true) x.f2
theorem opens39 : Opens Try.prog 39 k39 B39 := Opens.struct (fs := _) Try.underlying39 (fun x : S39 => (x.f0, x.f1, x.f2)) (fun t => ⟨t.1, t.2.1, t.2.2⟩) (fun _ => rfl) (OpensF.cons rfl (by kernel_rfl) (Opens.int Try.underlying2) (OpensF.cons rfl (by kernel_rfl) (Opens.int Try.underlying3) (OpensF.last rfl (by kernel_rfl) (Opens.int Try.underlying3))))
def Pure : Prop := ∀ (x0 : (List S45)) (x1 : S39) (x2 : (List Int)), (fun xs : List S45 => xs.length ≤ 9223372036854775807 ∧ ∀ x ∈ xs, B45 x) x0 → B39 x1 → (fun xs : List Int => xs.length ≤ 9223372036854775807 ∧ ∀ x ∈ xs, (fun n : Int => (Lit.int .u16 n).wf = true) x) x2 → ∃ k, isobathlaw07_SoundSure.f k x0 x1.f0 x1.f1 x1.f2 x2 = some true
theorem own : ownKnob Try.prog.godebug = none := by kernel_rfl
theorem laidOut : laidOutB Try.prog = true := by kernel_rfl
set_option maxRecDepth 100000 in
theorem lifted (hP : Pure) (os : Os) (started : os.Started) (H : Type) (enc : TypeId × Value → H) :
  ReturnsInHanded {} Try.checked os 4 .any (Rows.soundSureSpec.pre6 enc Try.prog Try.f4 Rows.soundSureRow.domain false) (Rows.soundSureSpec.post enc Try.prog Try.f4 false true false false) := by
 refine returnsInHanded_of_change_sized (C := Try.checked) own started (by kernel_rfl) Try.func4
  (ChangeSpec.witness6 (enc := enc) (C := Try.checked) false ⟨#[], #[.slice none 0 0, .agg #[.int .i64 0, .int .i64 0, .int .i64 0], .slice none 0 0], []⟩ 8 (by kernel_rfl) (by kernel_rfl) (by kernel_rfl) (by kernel_rfl)) ?_
 intro W base args ds gs before hval0 hW hcnd hsz0 _
 have hval : ∀ (j : Nat) t v, Try.f4.params[j]? = some t → args[j]? = some v → Value.okWide Try.prog W .any base t v := hval0
 have hW' := hW
 obtain ⟨p, q, hA0, hV, rfl, hfz, hnd⟩ := hW
 have hA : DataW.TrodAll enc Try.prog W 0 (fun _ => true) true Try.f4.params.toList args.toList ds p := hA0
 rw [Try.params4] at hA hval
 obtain ⟨v0, vs0, d0, ds0, p0, q0, hargs, rfl, rfl, h0, r0⟩ := trodAll_cons hA
 obtain ⟨v1, vs1, d1, ds1, p1, q1, rfl, rfl, rfl, h1, r1⟩ := trodAll_cons r0
 obtain ⟨v2, vs2, d2, ds2, p2, q2, rfl, rfl, rfl, h2, r2⟩ := trodAll_cons r1
 obtain ⟨rfl, rfl, rfl⟩ := trodAll_nil r2
 obtain rfl : args = #[v0, v1, v2] := by cases args; simp_all
 obtain ⟨rfl, rfl⟩ := trodVars_none hV
 have k0 := h0
 have lt0 : ∀ x ∈ p0, x.block < W.heap.size := by obtain ⟨m, hm⟩ := k0; exact DataW.trod_lt m _ _ _ hm
 obtain ⟨m0, hm0⟩ := h0
 obtain ⟨x0, hk0, w0⟩ := Opens.run (Opens.slice Try.underlying37 (by kernel_rfl) opens45) hm0
 obtain ⟨a0, len0, cap0, rfl⟩ := okWide_slice Try.underlying37 (hval 0 37 v0 rfl rfl)
 obtain ⟨A0, c0, hcs0, hc0, hr0⟩ := hk0
 simp [Value.cells] at hcs0
 obtain ⟨rfl, rfl, rfl⟩ := hcs0
 have k1 := h1
 have lt1 : ∀ x ∈ p1, x.block < W.heap.size := by obtain ⟨m, hm⟩ := k1; exact DataW.trod_lt m _ _ _ hm
 obtain ⟨m1, hm1⟩ := h1
 obtain ⟨x1, hk1, w1⟩ := Opens.run opens39 hm1
 have hcs1 := k39_open hk1
 obtain rfl := cells_agg hcs1 (by simp)
 have k2 := h2
 have lt2 : ∀ x ∈ p2, x.block < W.heap.size := by obtain ⟨m, hm⟩ := k2; exact DataW.trod_lt m _ _ _ hm
 obtain ⟨m2, hm2⟩ := h2
 obtain ⟨x2, hk2, w2⟩ := Opens.run (Opens.slice Try.underlying40 (by kernel_rfl) (Opens.int Try.underlying48)) hm2
 obtain ⟨a2, len2, cap2, rfl⟩ := okWide_slice Try.underlying40 (hval 2 40 v2 rfl rfl)
 obtain ⟨A2, c2, hcs2, hc2, hr2⟩ := hk2
 simp [Value.cells] at hcs2
 obtain ⟨rfl, rfl, rfl⟩ := hcs2
 clear hA0 hval0 hsz0
 obtain ⟨k, hf⟩ := hP x0 x1 x2 w0 w1 w2
 refine (isobathlaw07_SoundSure.calls (k := k) (A0 := a0) (c0 := cap0) (l0 := x0) (a1_0 := x1.f0) (a1_1 := x1.f1) (a1_2 := x1.f2) (A2 := a2) (c2 := cap2) (l2 := x2) (r := true) (w := W) (hr0 := hr0) (hc0 := hc0) (hr2 := hr2) (hc2 := hc2) (h := hf)).mono fun e W' ⟨he, hd⟩ => ?_
 have bel : Below W.heap.size W W' := by first | exact hd | (obtain ⟨m, rfl⟩ := hd; exact zbn (Below.refl _ _) m)
 subst he
 exact ⟨_, rfl, _, _, _, [], _, [], hW', trodAll_mk1 (shut_bool Try.underlying4 _), (trodAll_cons_mk (Below.trod laidOut (by kernel_rfl) (zod (by kernel_rfl)) k0 bel lt0) (trodAll_cons_mk (Below.trod laidOut (by kernel_rfl) (zod (by kernel_rfl)) k1 bel lt1) (trodAll_cons_mk (Below.trod laidOut (by kernel_rfl) (zod (by kernel_rfl)) k2 bel lt2) trodAll_mk0))), rfl, bel.frame _, fun h => by cases h⟩
theorem over (hP : Pure) : Rows.soundSureRow.holds Try.pinned (OpenSpec.ofChange Rows.soundSureSpec) :=
 OpenClaim.holds_of_wide 4 Try.f4 rfl rfl rfl rfl rfl rfl rfl ⟨rfl, rfl, rfl, rfl, rfl⟩ rfl rfl rfl rfl rfl (by kernel_rfl) Try.func4 (by kernel_rfl)
  (zod (by kernel_rfl)) (by unfold Func.isWrapper; first | (rw [if_pos (by decide +kernel)]; kernel_rfl) | (rw [if_neg (by decide +kernel)]; exact ⟨rfl, rfl⟩))
  (fun os started H enc _ => lifted hP os started H enc)
theorem proved (hP : Pure) : Rows.SoundSureSaid := over hP
end soundSure
end Go.Proofs.Ytaheamdoldiojaa.P
namespace Go.Proofs.Ytaheamdoldiojaa.P
open Go.RowKit Go.Proofs.YtaheamdoldiojaaW.PrintWords Go.Proofs.YtaheamdoldiojaaW.PrintLast Go.Proofs.YtaheamdoldiojaaW.PrintMore
attribute [local go_sem] max2_int min2_int max_two min_two max_three min_three max_four min_four   -- for this text's walks alone
set_option linter.unusedVariables false
set_option linter.unusedSimpArgs false
def Sp.high (s : S24) (h : Int) : Int := if s.f0 ≥ h ∨ s.f1 ≤ -h then 2 else if s.f0 > -h ∧ s.f1 < h then 0 else 1
theorem Sp.high_b (s : S24) {h : Int} (h1 : 1 ≤ h) (h2 : h ≤ 1073741824) {k : Nat} (hk : 2 ≤ k) : sound_high.f k s.f0 s.f1 h = some (Sp.high s h) := by
 obtain ⟨k, rfl⟩ : ∃ m, k = m + 1 := ⟨k - 1, by omega⟩
 unfold sound_high.f Sp.high
 rw [wrap_id (n := -h) (by omega) (by omega)]
 by_cases a : s.f0 ≥ h
 ·rw [if_pos a, sound_high.j0, if_pos rfl, if_pos (.inl a)]
 rw [if_neg a, sound_high.j0, wrap_id (n := -h) (by omega) (by omega)]
 by_cases b : s.f1 ≤ -h
 ·rw [zdt b, if_pos rfl, if_pos (.inr b)]
 have z : ¬ (s.f0 ≥ h ∨ s.f1 ≤ -h) := by omega
 rw [zdf b, if_neg (by decide), if_neg z]
 by_cases c : s.f0 > -h
 ·rw [if_pos c]
  by_cases d : s.f1 < h
  ·rw [if_pos d, if_pos ⟨c, d⟩]
  rw [if_neg d, if_neg (fun q => d q.2)]
 rw [if_neg c, if_neg (fun q => c q.1)]
def Sp.ry (h y : Int) (s : S24) : Int := if Sp.high s h = 2 then y + 1 else 0
def Sp.rm (h m : Int) (s : S24) : Int := if Sp.high s h = 0 then 0 else m + 1
def Sp.rl (run y m last : Int) : Int := if y ≥ run then 2 else if m ≥ run then mx last 1 else last
def Sp.rise (h run : Int) : Int → Int → Int → List S24 → List Int
 | _, _, _, [] => []
 | y, m, last, s :: t => Sp.rl run (Sp.ry h y s) (Sp.rm h m s) last :: Sp.rise h run (Sp.ry h y s) (Sp.rm h m s) (Sp.rl run (Sp.ry h y s) (Sp.rm h m s) last) t
theorem Sp.rise_len (h run : Int) : ∀ (xs : List S24) (y m last : Int), (Sp.rise h run y m last xs).length = xs.length
 | [], _, _, _ => rfl
 | x :: xs, y, m, last => by simp [Sp.rise, Sp.rise_len h run xs]
theorem Sp.ry_bd {h y : Int} {s : S24} (h0 : 0 ≤ y) : 0 ≤ Sp.ry h y s ∧ Sp.ry h y s ≤ y + 1 := by
 unfold Sp.ry
 split <;> omega
theorem Sp.rm_bd {h y : Int} {s : S24} (h0 : 0 ≤ y) : 0 ≤ Sp.rm h y s ∧ Sp.rm h y s ≤ y + 1 := by
 unfold Sp.rm
 split <;> omega
theorem Sp.rise_b {h : Int} (run g : Int) (h1 : 1 ≤ h) (h2 : h ≤ 1073741824) (xs : List S24) (hl : xs.length ≤ 1000000) : ∀ (n k i : Nat) (done : List Int) (y m last : Int), i + n = xs.length → done.length = i → 0 ≤ y → y ≤ i → 0 ≤ m → m ≤ i → 3 * n + 5 ≤ k → sound_risen.l0 k (done ++ List.replicate n 0) y m last xs (xs.length : Int) (i : Int) h run g = some (done ++ Sp.rise h run y m last (xs.drop i))
 | 0, k, i, done, y, m, last, hi, hd, y0, y1, m0, m1, hk => by
  obtain ⟨k, rfl⟩ : ∃ m, k = m + 1 := ⟨k - 1, by omega⟩
  rw [sound_risen.l0, if_neg (by omega), List.drop_eq_nil_of_le (by omega)]
  simp [Sp.rise]
 | n + 1, k, i, done, y, m, last, hi, hd, y0, y1, m0, m1, hk => by
  obtain ⟨k, rfl⟩ : ∃ m, k = m + 1 + 1 + 1 := ⟨k - 3, by omega⟩
  have hlt : i < xs.length := by omega
  have Y := Sp.ry_bd (h := h) (s := xs[i]) y0
  have M := Sp.rm_bd (h := h) (s := xs[i]) m0
  have ih := Sp.rise_b run g h1 h2 xs hl n k (i + 1) (done ++ [Sp.rl run (Sp.ry h y xs[i]) (Sp.rm h m xs[i]) last]) (Sp.ry h y xs[i]) (Sp.rm h m xs[i]) (Sp.rl run (Sp.ry h y xs[i]) (Sp.rm h m xs[i]) last) (by omega) (by simp [hd]) Y.1 (by omega) M.1 (by omega) (by omega)
  rw [sound_risen.l0, if_pos (by omega), if_pos (by omega), if_pos (by omega), Sp.rdT xs i hlt, Sp.high_b _ h1 h2 (by omega), Option.bind_some, wrap_id (n := y + 1) (by omega) (by omega), wrap_id (n := m + 1) (by omega) (by omega)]
  have e1 : (if Sp.high xs[i] h = 2 then sound_risen.j1 (k + 1 + 1) (done ++ List.replicate (n + 1) 0) (y + 1) (m + 1) last i (Sp.high xs[i] h) xs xs.length i h run g else sound_risen.j1 (k + 1 + 1) (done ++ List.replicate (n + 1) 0) 0 (m + 1) last i (Sp.high xs[i] h) xs xs.length i h run g) = sound_risen.j1 (k + 1 + 1) (done ++ List.replicate (n + 1) 0) (Sp.ry h y xs[i]) (m + 1) last i (Sp.high xs[i] h) xs xs.length i h run g := by
   unfold Sp.ry
   split <;> rfl
  rw [e1, sound_risen.j1]
  have e2 : (if Sp.high xs[i] h = 0 then sound_risen.j2 (k + 1) (done ++ List.replicate (n + 1) 0) (Sp.ry h y xs[i]) 0 last i xs xs.length i h run g else sound_risen.j2 (k + 1) (done ++ List.replicate (n + 1) 0) (Sp.ry h y xs[i]) (m + 1) last i xs xs.length i h run g) = sound_risen.j2 (k + 1) (done ++ List.replicate (n + 1) 0) (Sp.ry h y xs[i]) (Sp.rm h m xs[i]) last i xs xs.length i h run g := by
   unfold Sp.rm
   split <;> rfl
  rw [e2, sound_risen.j2, wrap_succ hlt (by omega)]
  have st : ∀ v : Int, (done ++ List.replicate (n + 1) 0).set ((i : Int)).toNat v = (done ++ [v]) ++ List.replicate n 0 := fun v => by
   have := Sp.set_mid done (0 : Int) v n
   rw [hd] at this
   simpa using this
  have i1 : (0 : Int) ≤ (i : Int) := by omega
  have i2 : (i : Int) < ((done ++ List.replicate (n + 1) 0).length : Int) := by simp; omega
  simp only [if_pos i1, if_pos i2, st]
  rw [drop_cons hlt, Sp.rise]
  have e3 : done ++ (Sp.rl run (Sp.ry h y xs[i]) (Sp.rm h m xs[i]) last :: Sp.rise h run (Sp.ry h y xs[i]) (Sp.rm h m xs[i]) (Sp.rl run (Sp.ry h y xs[i]) (Sp.rm h m xs[i]) last) (xs.drop (i + 1))) = done ++ [Sp.rl run (Sp.ry h y xs[i]) (Sp.rm h m xs[i]) last] ++ Sp.rise h run (Sp.ry h y xs[i]) (Sp.rm h m xs[i]) (Sp.rl run (Sp.ry h y xs[i]) (Sp.rm h m xs[i]) last) (xs.drop (i + 1)) := by simp
  rw [e3, ← ih]
  generalize Sp.ry h y xs[i] = Y'
  generalize Sp.rm h m xs[i] = M'
  unfold Sp.rl
  by_cases c1 : Y' ≥ run
  ·simp only [if_pos c1]
  simp only [if_neg c1]
  by_cases c2 : M' ≥ run
  ·simp only [if_pos c2]
  simp only [if_neg c2]
theorem Sp.risen_b {h : Int} (run g : Int) (h1 : 1 ≤ h) (h2 : h ≤ 1073741824) (xs : List S24) (hl : xs.length ≤ 256) {k : Nat} (hk : 1000 ≤ k) : sound_risen.f k xs h run g = some (Sp.rise h run 0 0 0 xs) := by
 unfold sound_risen.f
 rw [if_pos (by omega), if_pos (by simp; omega)]
 have := Sp.rise_b run g h1 h2 xs (by omega) xs.length k 0 [] 0 0 0 (by omega) rfl (by omega) (by omega) (by omega) (by omega) (by omega)
 simpa using this
def Sp.yes (l : List Int) : Int := (l.countP (fun x => decide (x = 2)) : Nat)
def Sp.may (l : List Int) : Int := (l.countP (fun x => decide (x ≠ 0)) : Nat)
def Sp.enough (g : Int) (l : List Int) : Int := if Sp.yes l ≥ g then 2 else if Sp.may l < g then 0 else 1
theorem Sp.enough_l (g : Int) (xs : List Int) (hl : xs.length ≤ 1000000) : ∀ (n k i : Nat) (y m : Int), i + n = xs.length → 0 ≤ y → y ≤ i → 0 ≤ m → m ≤ i → n < k → sound_enough.l0 k g y m xs (xs.length : Int) (i : Int) = some (if y + Sp.yes (xs.drop i) ≥ g then 2 else if m + Sp.may (xs.drop i) < g then 0 else 1)
 | 0, k, i, y, m, hi, y0, y1, m0, m1, hk => by
  obtain ⟨k, rfl⟩ : ∃ m, k = m + 1 := ⟨k - 1, by omega⟩
  rw [sound_enough.l0, if_neg (by omega), List.drop_eq_nil_of_le (by omega)]
  simp only [Sp.yes, Sp.may, List.countP_nil, Int.natCast_zero, Int.add_zero]
  split
  ·rfl
  split <;> rfl
 | n + 1, k, i, y, m, hi, y0, y1, m0, m1, hk => by
  obtain ⟨k, rfl⟩ : ∃ m, k = m + 1 := ⟨k - 1, by omega⟩
  have hlt : i < xs.length := by omega
  rw [sound_enough.l0, if_pos (by omega), if_pos (by omega), if_pos (by omega), rd_nat hlt, wrap_id (n := y + 1) (by omega) (by omega), wrap_id (n := m + 1) (by omega) (by omega), wrap_succ hlt (by omega), drop_cons hlt]
  have Yc : Sp.yes (xs[i] :: xs.drop (i + 1)) = (if xs[i] = 2 then 1 else 0) + Sp.yes (xs.drop (i + 1)) := by
   unfold Sp.yes
   rw [List.countP_cons]
   by_cases c : xs[i] = 2 <;> simp [c] <;> omega
  have Mc : Sp.may (xs[i] :: xs.drop (i + 1)) = (if xs[i] = 0 then 0 else 1) + Sp.may (xs.drop (i + 1)) := by
   unfold Sp.may
   rw [List.countP_cons]
   by_cases c : xs[i] = 0 <;> simp [c] <;> omega
  rw [Yc, Mc]
  by_cases c2 : xs[i] = 2
  ·have c0 : ¬ xs[i] = 0 := by omega
   rw [if_pos c2, if_pos c2, if_neg c0, if_neg c0, Sp.enough_l g xs hl n k (i + 1) (y + 1) (m + 1) (by omega) (by omega) (by omega) (by omega) (by omega) (by omega), Int.add_assoc, Int.add_assoc]
  rw [if_neg c2, if_neg c2]
  by_cases c0 : xs[i] = 0
  ·rw [if_pos c0, if_pos c0, Sp.enough_l g xs hl n k (i + 1) y m (by omega) (by omega) (by omega) (by omega) (by omega) (by omega), Int.zero_add, Int.zero_add]
  rw [if_neg c0, if_neg c0, Sp.enough_l g xs hl n k (i + 1) y (m + 1) (by omega) (by omega) (by omega) (by omega) (by omega) (by omega), Int.add_assoc, Int.zero_add]
theorem Sp.enough_b (g : Int) (xs : List Int) (hl : xs.length ≤ 1000) {k : Nat} (hk : 1100 ≤ k) : sound_enough.f k g xs = some (Sp.enough g xs) := by
 unfold sound_enough.f Sp.enough
 have := Sp.enough_l g xs (by omega) xs.length k 0 0 0 (by omega) (by omega) (by omega) (by omega) (by omega) (by omega)
 simpa using this
def Sp.column (rows : List (List Int)) (c : Nat) : List Int := rows.map fun r => rd r (c : Int)
def Sp.rows (l : List S45) (h run : Int) : List (List Int) := l.map fun x => Sp.rise h run 0 0 0 x.f0
def Sp.alarm (l : List S45) (h run g : Int) : List Int := (List.range (rd_T45 l 0).f0.length).map fun c => Sp.enough g (Sp.column (Sp.rows l h run) c)
theorem Sp.rdG (xs : List S45) (i : Nat) (h : i < xs.length) : rd_T45 xs (i : Int) = xs[i] := by simp [rd_T45, List.getD, h]
theorem Sp.rdL4 (xs : List (List Int)) (i : Nat) (h : i < xs.length) : rd_L4 xs (i : Int) = xs[i] := by simp [rd_L4, List.getD, h]
theorem Sp.rdL15 (xs : List (List Int)) (i : Nat) (h : i < xs.length) : rd_L15 xs (i : Int) = xs[i] := by simp [rd_L15, List.getD, h]
theorem Sp.al0 {h : Int} (run g : Int) (h1 : 1 ≤ h) (h2 : h ≤ 1073741824) (l : List S45) (hl : l.length ≤ 16) (h0 : 0 < l.length) (hr : ∀ x ∈ l, x.f0.length ≤ 256) {K : Nat} (hK : 1000 ≤ K) : ∀ (n k i : Nat), i + n = l.length → K + n + 1 ≤ k → ∃ k', K ≤ k' ∧ sound_alarm.l0 k l (Sp.rows (l.take i) h run) l (l.length : Int) (i : Int) h run g = sound_alarm.l1 k' (Sp.rows l h run) (List.replicate (rd_T45 l 0).f0.length 0) ((rd_T45 l 0).f0.length : Int) 0 h run g
 | 0, k, i, hi, hk => by
  obtain ⟨k, rfl⟩ : ∃ m, k = m + 1 := ⟨k - 1, by omega⟩
  have h3 : (rd_T45 l 0).f0.length ≤ 256 := by
   have := Sp.rdG l 0 h0
   rw [show ((0 : Nat) : Int) = 0 from rfl] at this
   rw [this]
   exact hr _ (List.getElem_mem h0)
  refine ⟨k, by omega, ?_⟩
  rw [sound_alarm.l0, if_neg (by omega), if_pos (by omega), if_pos (by omega), if_pos (by simp; omega), Option.bind_some, List.take_of_length_le (by omega)]
  simp
 | n + 1, k, i, hi, hk => by
  obtain ⟨k, rfl⟩ : ∃ m, k = m + 1 := ⟨k - 1, by omega⟩
  have hlt : i < l.length := by omega
  have hx := hr _ (List.getElem_mem hlt)
  obtain ⟨k', hk', e⟩ := Sp.al0 run g h1 h2 l hl h0 hr hK n k (i + 1) (by omega) (by omega)
  refine ⟨k', hk', ?_⟩
  have hlen : (Sp.rows (l.take i) h run).length = i := by simp [Sp.rows]; omega
  rw [sound_alarm.l0, if_pos (by omega), if_pos (by omega), if_pos (by omega), Sp.rdG l i hlt, Sp.risen_b run g h1 h2 _ hx (by omega), Option.bind_some, if_pos (by rw [hlen]; omega), wrap_succ hlt (by omega), ← e, take_snoc hlt]
  rw [show Sp.rows (l.take i ++ [l[i]]) h run = Sp.rows (l.take i) h run ++ [Sp.rise h run 0 0 0 l[i].f0] from by unfold Sp.rows; rw [List.map_append]; rfl]
theorem Sp.al2 {h : Int} (run g : Int) (rows : List (List Int)) (hl : rows.length ≤ 16) (out : List Int) (N c : Nat) (hN : N ≤ 256) (hc : c < N) (ho : out.length = N) (hr : ∀ x ∈ rows, x.length = N) {K : Nat} (hK : 1100 ≤ K) : ∀ (n k j : Nat), j + n = rows.length → K + n + 1 ≤ k → ∃ k', K ≤ k' ∧ sound_alarm.l2 k rows out (c : Int) (Sp.column (rows.take j) c) (N : Int) (c : Int) rows (rows.length : Int) (j : Int) h run g = sound_alarm.l1 k' rows (out.set c (Sp.enough g (Sp.column rows c))) (N : Int) ((c + 1 : Nat) : Int) h run g
 | 0, k, j, hj, hk => by
  obtain ⟨k, rfl⟩ : ∃ m, k = m + 1 := ⟨k - 1, by omega⟩
  refine ⟨k, by omega, ?_⟩
  rw [sound_alarm.l2, if_neg (by omega), List.take_of_length_le (by omega), Sp.enough_b g _ (by simp [Sp.column]; omega) (by omega), Option.bind_some, if_pos (by omega), if_pos (by omega), wrap_succ hc (by omega)]
  simp
 | n + 1, k, j, hj, hk => by
  obtain ⟨k, rfl⟩ : ∃ m, k = m + 1 := ⟨k - 1, by omega⟩
  have hlt : j < rows.length := by omega
  have hx := hr _ (List.getElem_mem hlt)
  obtain ⟨k', hk', e⟩ := Sp.al2 run g rows hl out N c hN hc ho hr hK n k (j + 1) (by omega) (by omega)
  refine ⟨k', hk', ?_⟩
  rw [sound_alarm.l2, if_pos (by omega), if_pos (by omega), if_pos (by omega), if_pos (by omega), Sp.rdL4 rows j hlt, if_pos (by omega), if_pos (by simp [Sp.column]; omega), wrap_succ hlt (by omega), ← e, take_snoc hlt]
  rw [show Sp.column (rows.take j ++ [rows[j]]) c = Sp.column (rows.take j) c ++ [rd rows[j] (c : Int)] from by unfold Sp.column; rw [List.map_append]; rfl]
theorem Sp.al1 {h : Int} (run g : Int) (rows : List (List Int)) (hl : rows.length ≤ 16) (N : Nat) (hN : N ≤ 256) (hr : ∀ x ∈ rows, x.length = N) : ∀ (n k c : Nat) (done : List Int), c + n = N → done.length = c → 1200 + 40 * n ≤ k → sound_alarm.l1 k rows (done ++ List.replicate n 0) (N : Int) (c : Int) h run g = some (done ++ (List.range' c n).map fun c => Sp.enough g (Sp.column rows c))
 | 0, k, c, done, hc, hd, hk => by
  obtain ⟨k, rfl⟩ : ∃ m, k = m + 1 := ⟨k - 1, by omega⟩
  rw [sound_alarm.l1, if_neg (by omega)]
  simp
 | n + 1, k, c, done, hc, hd, hk => by
  obtain ⟨k, rfl⟩ : ∃ m, k = m + 1 := ⟨k - 1, by omega⟩
  obtain ⟨k', hk', e⟩ := Sp.al2 (h := h) run g rows hl (done ++ List.replicate (n + 1) 0) N c hN (by omega) (by simp [hd]; omega) hr (K := 1200 + 40 * n) (by omega) rows.length k 0 (by omega) (by omega)
  have st := Sp.set_mid done (0 : Int) (Sp.enough g (Sp.column rows c)) n
  rw [hd] at st
  rw [st] at e
  have e0 : Sp.column (rows.take 0) c = [] := rfl
  rw [e0] at e
  rw [sound_alarm.l1, if_pos (by omega)]
  rw [show ((0 : Nat) : Int) = 0 from rfl] at e
  rw [e, Sp.al1 (h := h) run g rows hl N hN hr n k' (c + 1) (done ++ [Sp.enough g (Sp.column rows c)]) (by omega) (by simp [hd]) hk', List.range'_succ]
  simp
theorem Sp.alarm_b {h : Int} (run g : Int) (h1 : 1 ≤ h) (h2 : h ≤ 1073741824) (l : List S45) (hl : l.length ≤ 16) (h0 : 0 < l.length) (N : Nat) (hN : N ≤ 256) (hr : ∀ x ∈ l, x.f0.length = N) {k : Nat} (hk : 20000 ≤ k) : sound_alarm.f k l h run g = some (Sp.alarm l h run g) := by
 have hz : (rd_T45 l 0).f0.length = N := by
  have := Sp.rdG l 0 h0
  rw [show ((0 : Nat) : Int) = 0 from rfl] at this
  rw [this]
  exact hr _ (List.getElem_mem h0)
 obtain ⟨k', hk', e⟩ := Sp.al0 run g h1 h2 l hl h0 (fun x hx => by rw [hr x hx]; exact hN) (K := 15000) (by omega) l.length k 0 (by omega) (by omega)
 have e0 : Sp.rows (l.take 0) h run = [] := rfl
 rw [e0] at e
 have := Sp.al1 (h := h) run g (Sp.rows l h run) (by simp [Sp.rows]; omega) N hN (fun x hx => by
  simp only [Sp.rows, List.mem_map] at hx
  obtain ⟨y, hy, rfl⟩ := hx
  rw [Sp.rise_len, hr y hy]) N k' 0 [] (by omega) rfl (by omega)
 unfold sound_alarm.f Sp.alarm
 rw [show ((0 : Nat) : Int) = 0 from rfl] at e
 rw [e, hz, List.range_eq_range']
 simpa using this
def Sp.tc (h c v : Int) : Int := if mx v (-v) < h then 0 else c + 1
def Sp.tr (h run : Int) : Int → Bool → List Int → Bool
 | _, b, [] => b
 | c, b, v :: t => Sp.tr h run (Sp.tc h c v) (b || decide (Sp.tc h c v ≥ run)) t
theorem Sp.tc_bd {h c v : Int} (h0 : 0 ≤ c) : 0 ≤ Sp.tc h c v ∧ Sp.tc h c v ≤ c + 1 := by
 unfold Sp.tc
 split <;> omega
theorem Sp.tl1 (h run g : Int) (rows : List (List Int)) (hl : rows.length ≤ 1000) (i : Nat) (hi : i < rows.length) (K : Nat) (many : Int) (hm : 0 ≤ many) (hm2 : many ≤ i) (hb : ∀ v ∈ rows[i], -1099511627776 ≤ v ∧ v ≤ 1099511627776) (hn : rows[i].length ≤ 1000) {F : Nat} : ∀ (n k j : Nat) (c : Int) (b : Bool), j + n = (rows[i].take (K + 1)).length → 0 ≤ c → c ≤ j → F + 2 * n + 2 ≤ k → ∃ k', F ≤ k' ∧ isobathlaw07_alarm.l1 k rows (K : Int) many (i : Int) c b (j : Int) h run g = isobathlaw07_alarm.l0 k' rows (K : Int) (if Sp.tr h run c b ((rows[i].take (K + 1)).drop j) = true then many + 1 else many) ((i + 1 : Nat) : Int) h run g
 | 0, k, j, c, b, hj, c0, c1, hk => by
  obtain ⟨k, rfl⟩ : ∃ m, k = m + 1 + 1 := ⟨k - 2, by omega⟩
  refine ⟨k, by omega, ?_⟩
  have hend : isobathlaw07_alarm.j2 (k + 1) rows (K : Int) many (i : Int) c b (j : Int) false h run g = isobathlaw07_alarm.l0 k rows (K : Int) (if b = true then many + 1 else many) ((i + 1 : Nat) : Int) h run g := by
   rw [isobathlaw07_alarm.j2, if_neg (by decide), wrap_id (n := many + 1) (by omega) (by omega), wrap_succ hi (by omega)]
   by_cases hb' : b = true
   ·rw [if_pos hb', if_pos hb']
   rw [if_neg hb', if_neg hb']
  rw [List.drop_eq_nil_of_le (by omega), Sp.tr, ← hend, isobathlaw07_alarm.l1]
  rw [zlt] at hj
  by_cases c2 : (j : Int) ≤ (K : Int)
  ·rw [if_pos c2, if_pos (by omega), if_pos (by omega), Sp.rdL15 rows i hi, zdf (by omega)]
  rw [if_neg c2]
 | n + 1, k, j, c, b, hj, c0, c1, hk => by
  obtain ⟨k, rfl⟩ : ∃ m, k = m + 1 + 1 := ⟨k - 2, by omega⟩
  have hj2 := hj
  rw [zlt] at hj2
  have hlt : j < rows[i].length := by omega
  have hT : j < (rows[i].take (K + 1)).length := by omega
  have ev : (rows[i].take (K + 1))[j] = rows[i][j] := by simp
  have vb := hb _ (List.getElem_mem hlt)
  have C := Sp.tc_bd (h := h) (v := rows[i][j]) c0
  obtain ⟨k', hk', e⟩ := Sp.tl1 h run g rows hl i hi K many hm hm2 hb hn (F := F) n k (j + 1) (Sp.tc h c rows[i][j]) (b || decide (Sp.tc h c rows[i][j] ≥ run)) (by omega) C.1 (by omega) (by omega)
  refine ⟨k', hk', ?_⟩
  rw [drop_cons hT, ev, Sp.tr, ← e, isobathlaw07_alarm.l1, if_pos (by omega), if_pos (by omega), if_pos (by omega), Sp.rdL15 rows i hi, zdt (by omega), isobathlaw07_alarm.j2, if_pos rfl, if_pos (by omega), if_pos (by omega), if_pos (by omega), Sp.rdL15 rows i hi, if_pos (by omega), rd_nat hlt, wrap_id (n := -rows[i][j]) (by omega) (by omega), wrap_id (n := c + 1) (by omega) (by omega), wrap_succ hlt (by omega)]
  unfold Sp.tc
  by_cases d : mx rows[i][j] (-rows[i][j]) < h
  ·simp only [if_pos d]
   cases b <;> simp
  simp only [if_neg d]
  cases b <;> simp
theorem Sp.tl0 (h run g : Int) (rows : List (List Int)) (hl : rows.length ≤ 1000) (K : Nat) (hb : ∀ r ∈ rows, r.length ≤ 1000 ∧ ∀ v ∈ r, -1099511627776 ≤ v ∧ v ≤ 1099511627776) : ∀ (n k i : Nat) (many : Int), i + n = rows.length → 0 ≤ many → many ≤ i → 2010 * n + 1 ≤ k → isobathlaw07_alarm.l0 k rows (K : Int) many (i : Int) h run g = some (decide (many + ((rows.drop i).countP (fun r => Sp.tr h run 0 false (r.take (K + 1))) : Nat) ≥ g))
 | 0, k, i, many, hi, m0, m1, hk => by
  obtain ⟨k, rfl⟩ : ∃ m, k = m + 1 := ⟨k - 1, by omega⟩
  rw [isobathlaw07_alarm.l0, if_neg (by omega), List.drop_eq_nil_of_le (by omega)]
  simp
 | n + 1, k, i, many, hi, m0, m1, hk => by
  obtain ⟨k, rfl⟩ : ∃ m, k = m + 1 := ⟨k - 1, by omega⟩
  have hlt : i < rows.length := by omega
  have R := hb _ (List.getElem_mem hlt)
  have hle : (rows[i].take (K + 1)).length ≤ 1000 := by
   rw [zlt]
   omega
  obtain ⟨k', hk', e⟩ := Sp.tl1 h run g rows hl i hlt K many m0 m1 R.2 R.1 (F := 2010 * n + 1) (rows[i].take (K + 1)).length k 0 0 false (by omega) (by omega) (by omega) (by omega)
  rw [show ((0 : Nat) : Int) = 0 from rfl, List.drop_zero] at e
  rw [isobathlaw07_alarm.l0, if_pos (by omega), e, Sp.tl0 h run g rows hl K hb n k' (i + 1) _ (by omega) (by split <;> omega) (by split <;> omega) (by omega), drop_cons hlt, List.countP_cons]
  congr 2
  by_cases d : Sp.tr h run 0 false (rows[i].take (K + 1)) = true
  ·simp only [if_pos d]
   apply propext
   omega
  simp only [if_neg d]
  apply propext
  omega
def Sp.lin : List S24 → List Int → Prop
 | [], [] => True
 | s :: t, v :: u => (s.f0 ≤ v ∧ v ≤ s.f1) ∧ Sp.lin t u
 | _, _ => False
def Sp.mat : List S45 → List (List Int) → Prop
 | [], [] => True
 | x :: t, r :: u => Sp.lin x.f0 r ∧ Sp.mat t u
 | _, _ => False
theorem Sp.rd_z (x : Int) (xs : List Int) : rd (x :: xs) ((0 : Nat) : Int) = x := rfl
theorem Sp.rd_s (x : Int) (xs : List Int) (k : Nat) : rd (x :: xs) ((k + 1 : Nat) : Int) = rd xs (k : Int) := rfl
theorem Sp.high_in {s : S24} {v h : Int} (hs : s.f0 ≤ v ∧ v ≤ s.f1) : (Sp.high s h = 2 → ¬ mx v (-v) < h) ∧ (Sp.high s h = 0 → mx v (-v) < h) := by
 unfold Sp.high mx
 refine ⟨fun q => ?_, fun q => ?_⟩
 ·have : s.f0 ≥ h ∨ s.f1 ≤ -h := by
   by_cases a : s.f0 ≥ h ∨ s.f1 ≤ -h
   ·exact a
   rw [if_neg a] at q
   split at q <;> omega
  split <;> omega
 have : s.f0 > -h ∧ s.f1 < h := by
  by_cases a : s.f0 ≥ h ∨ s.f1 ≤ -h
  ·rw [if_pos a] at q
   omega
  rw [if_neg a] at q
  by_cases b : s.f0 > -h ∧ s.f1 < h
  ·exact b
  rw [if_neg b] at q
  omega
 split <;> omega
theorem Sp.rl_bd {run y m last : Int} (l0 : 0 ≤ last) (l2 : last ≤ 2) : last ≤ Sp.rl run y m last ∧ Sp.rl run y m last ≤ 2 := by
 unfold Sp.rl mx
 split
 ·omega
 split
 ·split <;> omega
 omega
theorem Sp.rise_tr {h run : Int} : ∀ (xs : List S24) (vs : List Int) (y m last c : Int) (b : Bool), Sp.lin xs vs → 0 ≤ y → y ≤ c → c ≤ m → (last = 2 → b = true) → (b = true → last ≠ 0) → 0 ≤ last → last ≤ 2 → ∀ k : Nat, k < xs.length → (rd (Sp.rise h run y m last xs) (k : Int) = 2 → Sp.tr h run c b (vs.take (k + 1)) = true) ∧ (Sp.tr h run c b (vs.take (k + 1)) = true → rd (Sp.rise h run y m last xs) (k : Int) ≠ 0)
 | [], _, _, _, _, _, _, _, _, _, _, _, _, _, _, k, hk => absurd hk (Nat.not_lt_zero _)
 | s :: t, [], _, _, _, _, _, hi, _, _, _, _, _, _, _, _, _ => hi.elim
 | s :: t, v :: u, y, m, last, c, b, hi, y0, yc, cm, hb1, hb2, l0, l2, k, hk => by
  have H := Sp.high_in (h := h) hi.1
  have Y := Sp.ry_bd (h := h) (s := s) y0
  have C := Sp.tc_bd (h := h) (c := c) (v := v) (by omega)
  have yc' : Sp.ry h y s ≤ Sp.tc h c v := by
   by_cases d : Sp.high s h = 2
   ·unfold Sp.ry Sp.tc
    rw [if_pos d, if_neg (H.1 d)]
    omega
   unfold Sp.ry
   rw [if_neg d]
   exact C.1
  have cm' : Sp.tc h c v ≤ Sp.rm h m s := by
   by_cases d : Sp.high s h = 0
   ·unfold Sp.rm Sp.tc
    rw [if_pos d, if_pos (H.2 d)]
    omega
   unfold Sp.rm
   rw [if_neg d]
   omega
  have L := Sp.rl_bd (run := run) (y := Sp.ry h y s) (m := Sp.rm h m s) l0 l2
  have b1 : Sp.rl run (Sp.ry h y s) (Sp.rm h m s) last = 2 → (b || decide (Sp.tc h c v ≥ run)) = true := by
   intro q
   by_cases d : Sp.tc h c v ≥ run
   ·simp [d]
   have : last = 2 := by
    unfold Sp.rl mx at q
    rw [if_neg (by omega)] at q
    split at q
    ·split at q <;> omega
    exact q
   simp [hb1 this]
  have b2 : (b || decide (Sp.tc h c v ≥ run)) = true → Sp.rl run (Sp.ry h y s) (Sp.rm h m s) last ≠ 0 := by
   intro q
   by_cases d : b = true
   ·have := hb2 d
    omega
   have q' : Sp.tc h c v ≥ run := by
    cases b
    ·simpa using q
    exact absurd rfl d
   unfold Sp.rl mx
   split
   ·omega
   rw [if_pos (by omega)]
   split <;> omega
  match k with
  | 0 =>
   rw [Sp.rise, Sp.rd_z]
   simp only [List.take_succ_cons, List.take_zero, Sp.tr]
   exact ⟨b1, b2⟩
  | k + 1 =>
   have ih := Sp.rise_tr (h := h) (run := run) t u (Sp.ry h y s) (Sp.rm h m s) (Sp.rl run (Sp.ry h y s) (Sp.rm h m s) last) (Sp.tc h c v) (b || decide (Sp.tc h c v ≥ run)) hi.2 Y.1 yc' cm' b1 b2 (by omega) L.2 k (by simp at hk; omega)
   rw [Sp.rise, Sp.rd_s, List.take_succ_cons, Sp.tr]
   exact ih
theorem Sp.rise_mono {h run : Int} : ∀ (xs : List S24) (y m last : Int), 0 ≤ last → last ≤ 2 → ∀ k : Nat, k < xs.length → last ≤ rd (Sp.rise h run y m last xs) (k : Int) ∧ rd (Sp.rise h run y m last xs) (k : Int) ≤ 2 ∧ (k + 1 < xs.length → rd (Sp.rise h run y m last xs) (k : Int) ≤ rd (Sp.rise h run y m last xs) ((k + 1 : Nat) : Int))
 | [], _, _, _, _, _, k, hk => absurd hk (Nat.not_lt_zero _)
 | s :: t, y, m, last, l0, l2, k, hk => by
  have L := Sp.rl_bd (run := run) (y := Sp.ry h y s) (m := Sp.rm h m s) l0 l2
  have ih := Sp.rise_mono (h := h) (run := run) t (Sp.ry h y s) (Sp.rm h m s) (Sp.rl run (Sp.ry h y s) (Sp.rm h m s) last) (by omega) L.2
  match k with
  | 0 =>
   rw [Sp.rise, Sp.rd_z, Sp.rd_s]
   refine ⟨L.1, L.2, fun q => (ih 0 (by simp at q; omega)).1⟩
  | k + 1 =>
   rw [Sp.rise, Sp.rd_s, Sp.rd_s]
   simp only [List.length_cons] at hk ⊢
   have := ih k (by omega)
   exact ⟨by omega, this.2.1, fun q => this.2.2 (by omega)⟩
theorem Sp.yes_cons (x : Int) (l : List Int) : Sp.yes (x :: l) = (if x = 2 then 1 else 0) + Sp.yes l := by
 unfold Sp.yes
 rw [List.countP_cons]
 by_cases c : x = 2 <;> simp [c] <;> omega
theorem Sp.may_cons (x : Int) (l : List Int) : Sp.may (x :: l) = (if x = 0 then 0 else 1) + Sp.may l := by
 unfold Sp.may
 rw [List.countP_cons]
 by_cases c : x = 0 <;> simp [c] <;> omega
def Sp.tn (h run : Int) (K : Nat) (lv : List (List Int)) : Int := (lv.countP (fun r => Sp.tr h run 0 false (r.take (K + 1))) : Nat)
theorem Sp.tn_cons (h run : Int) (K : Nat) (r : List Int) (lv : List (List Int)) : Sp.tn h run K (r :: lv) = (if Sp.tr h run 0 false (r.take (K + 1)) = true then 1 else 0) + Sp.tn h run K lv := by
 unfold Sp.tn
 rw [List.countP_cons]
 split <;> omega
theorem Sp.tn_in {h run : Int} (K : Nat) : ∀ (l : List S45) (lv : List (List Int)), Sp.mat l lv → (∀ x ∈ l, K < x.f0.length) → Sp.yes (Sp.column (Sp.rows l h run) K) ≤ Sp.tn h run K lv ∧ Sp.tn h run K lv ≤ Sp.may (Sp.column (Sp.rows l h run) K)
 | [], [], _, _ => ⟨Int.le_refl _, Int.le_refl _⟩
 | [], _ :: _, hm, _ => hm.elim
 | _ :: _, [], hm, _ => hm.elim
 | x :: t, r :: u, hm, hl => by
  have ih := Sp.tn_in (h := h) (run := run) K t u hm.2 (fun y hy => hl y (List.mem_cons_of_mem _ hy))
  have R := Sp.rise_tr (h := h) (run := run) x.f0 r 0 0 0 0 false hm.1 (by omega) (by omega) (by omega) (by omega) (by simp) (by omega) (by omega) K (hl x (List.mem_cons_self ..))
  have e : Sp.column (Sp.rows (x :: t) h run) K = rd (Sp.rise h run 0 0 0 x.f0) (K : Int) :: Sp.column (Sp.rows t h run) K := rfl
  rw [e, Sp.yes_cons, Sp.may_cons, Sp.tn_cons]
  by_cases a : Sp.tr h run 0 false (r.take (K + 1)) = true
  ·have := R.2 a
   rw [if_pos a, if_neg this]
   split <;> omega
  have : ¬ rd (Sp.rise h run 0 0 0 x.f0) (K : Int) = 2 := fun q => a (R.1 q)
  rw [if_neg a, if_neg this]
  split <;> omega
theorem Sp.tn_mono {h run : Int} (K : Nat) : ∀ (l : List S45), (∀ x ∈ l, K + 1 < x.f0.length) → Sp.yes (Sp.column (Sp.rows l h run) K) ≤ Sp.yes (Sp.column (Sp.rows l h run) (K + 1)) ∧ Sp.may (Sp.column (Sp.rows l h run) K) ≤ Sp.may (Sp.column (Sp.rows l h run) (K + 1))
 | [], _ => ⟨Int.le_refl _, Int.le_refl _⟩
 | x :: t, hl => by
  have ih := Sp.tn_mono (h := h) (run := run) K t (fun y hy => hl y (List.mem_cons_of_mem _ hy))
  have hx := hl x (List.mem_cons_self ..)
  have R := Sp.rise_mono (h := h) (run := run) x.f0 0 0 0 (by omega) (by omega) K (by omega)
  have R2 := Sp.rise_mono (h := h) (run := run) x.f0 0 0 0 (by omega) (by omega) (K + 1) hx
  have e : ∀ c, Sp.column (Sp.rows (x :: t) h run) c = rd (Sp.rise h run 0 0 0 x.f0) (c : Int) :: Sp.column (Sp.rows t h run) c := fun c => rfl
  rw [e, e, Sp.yes_cons, Sp.yes_cons, Sp.may_cons, Sp.may_cons]
  have := R.2.2 hx
  constructor
  ·split <;> split <;> omega
  split <;> split <;> omega
theorem Sp.rd_alarm (l : List S45) (h run g : Int) {K : Nat} (hK : K < (rd_T45 l 0).f0.length) : rd (Sp.alarm l h run g) (K : Int) = Sp.enough g (Sp.column (Sp.rows l h run) K) := by
 unfold Sp.alarm
 rw [rd_nat (by simpa using hK)]
 simp
theorem Sp.cg1 (xs : List S45) (hl : xs.length ≤ 1000) : ∀ (n k i : Nat), i + n = xs.length → n < k → ∃ t, slices_IndexFunc_Gauge_sound_checkGauges_1.l0 k xs (xs.length : Int) (i : Int) = some t ∧ (t < 0 → ∀ x ∈ xs.drop i, x.f0.length ≤ 256)
 | 0, k, i, hi, hk => by
  obtain ⟨k, rfl⟩ : ∃ m, k = m + 1 := ⟨k - 1, by omega⟩
  rw [slices_IndexFunc_Gauge_sound_checkGauges_1.l0, if_neg (by omega), List.drop_eq_nil_of_le (by omega)]
  exact ⟨_, rfl, by simp⟩
 | n + 1, k, i, hi, hk => by
  obtain ⟨k, rfl⟩ : ∃ m, k = m + 1 := ⟨k - 1, by omega⟩
  have hlt : i < xs.length := by omega
  rw [slices_IndexFunc_Gauge_sound_checkGauges_1.l0, if_pos (by omega), if_pos (by omega), if_pos (by omega), Sp.rdG xs i hlt, sound_checkGauges_1.f, Option.bind_some, drop_cons hlt]
  by_cases c : (xs[i].f0.length : Int) > 256
  ·rw [if_pos (by simpa using c)]
   exact ⟨_, rfl, by omega⟩
  rw [if_neg (by simpa using c), wrap_succ hlt (by omega)]
  obtain ⟨t, e, h⟩ := Sp.cg1 xs hl n k (i + 1) (by omega) (by omega)
  refine ⟨t, e, fun q x hx => ?_⟩
  rcases List.mem_cons.1 hx with rfl | hx
  ·omega
  exact h q x hx
theorem Sp.cg3 (xs : List S45) (hl : xs.length ≤ 1000) : ∀ (n k i : Nat), i + n = xs.length → n + 300 < k → ∃ t, slices_IndexFunc_Gauge_sound_checkGauges_3.l0 k xs (xs.length : Int) (i : Int) = some t
 | 0, k, i, hi, hk => by
  obtain ⟨k, rfl⟩ : ∃ m, k = m + 1 := ⟨k - 1, by omega⟩
  rw [slices_IndexFunc_Gauge_sound_checkGauges_3.l0, if_neg (by omega)]
  exact ⟨_, rfl⟩
 | n + 1, k, i, hi, hk => by
  obtain ⟨k, rfl⟩ : ∃ m, k = m + 1 := ⟨k - 1, by omega⟩
  have hlt : i < xs.length := by omega
  rw [slices_IndexFunc_Gauge_sound_checkGauges_3.l0, if_pos (by omega), if_pos (by omega), if_pos (by omega), Sp.rdG xs i hlt, sound_checkGauges_3.f, Sp.track_b _ (by omega), Option.bind_some, Option.bind_some, wrap_succ hlt (by omega)]
  obtain ⟨t, e⟩ := Sp.cg3 xs hl n k (i + 1) (by omega) (by omega)
  rw [e]
  split <;> exact ⟨_, rfl⟩
theorem Sp.gauges (l : List S45) (h run g : Int) : ∃ e : Int, (∀ k, 2000 ≤ k → sound_checkGauges.f k l h run g = some e) ∧ (e = 5 → False) ∧ (e = 0 → 0 < l.length ∧ l.length ≤ 16 ∧ 1 ≤ h ∧ h ≤ 1073741824 ∧ 1 ≤ run ∧ 1 ≤ g ∧ ∃ N : Nat, N ≤ 256 ∧ ∀ x ∈ l, x.f0.length = N) := by
 have up : ∀ e, sound_checkGauges.f 2000 l h run g = some e → ∀ k, 2000 ≤ k → sound_checkGauges.f k l h run g = some e := fun e he k hk => LeO.up (fun k => sound_checkGauges.mono l h run g k) hk he
 suffices ∃ e : Int, sound_checkGauges.f 2000 l h run g = some e ∧ (e = 5 → False) ∧ (e = 0 → 0 < l.length ∧ l.length ≤ 16 ∧ 1 ≤ h ∧ h ≤ 1073741824 ∧ 1 ≤ run ∧ 1 ≤ g ∧ ∃ N : Nat, N ≤ 256 ∧ ∀ x ∈ l, x.f0.length = N) by
  obtain ⟨e, e1, e2⟩ := this
  exact ⟨e, up e e1, e2⟩
 unfold sound_checkGauges.f
 by_cases c1 : l.length = 0
 ·rw [if_pos c1]
  exact ⟨6, rfl, by omega, by omega⟩
 rw [if_neg c1]
 by_cases c2 : 16 < l.length
 ·rw [if_pos c2]
  exact ⟨6, rfl, by omega, by omega⟩
 rw [if_neg c2]
 obtain ⟨t, e, ht⟩ := Sp.cg1 l (by omega) l.length 2000 0 (by omega) (by omega)
 rw [show ((0 : Nat) : Int) = 0 from rfl] at e
 unfold slices_ContainsFunc_Gauge_sound_checkGauges_1.f slices_IndexFunc_Gauge_sound_checkGauges_1.f
 rw [e, Option.bind_some, Option.bind_some]
 by_cases c3 : t ≥ 0
 ·rw [if_pos (by simpa using c3)]
  exact ⟨6, rfl, by omega, by omega⟩
 rw [if_neg (by simpa using c3)]
 by_cases c4 : l.any (Sd.diff l) = true
 ·rw [if_pos c4]
  exact ⟨17, rfl, by omega, by omega⟩
 rw [if_neg c4]
 obtain ⟨t3, e3⟩ := Sp.cg3 l (by omega) l.length 2000 0 (by omega) (by omega)
 rw [show ((0 : Nat) : Int) = 0 from rfl] at e3
 unfold slices_ContainsFunc_Gauge_sound_checkGauges_3.f slices_IndexFunc_Gauge_sound_checkGauges_3.f
 rw [e3, Option.bind_some, Option.bind_some, Sp.between, Option.bind_some]
 split
 ·exact ⟨2, rfl, by omega, by omega⟩
 split
 ·next c5 =>
  have c5' : 1 ≤ h ∧ h ≤ 1073741824 := by simpa using c5
  split
  ·exact ⟨2, rfl, by omega, by omega⟩
  split
  ·exact ⟨2, rfl, by omega, by omega⟩
  split
  ·exact ⟨2, rfl, by omega, by omega⟩
  split
  ·exact ⟨2, rfl, by omega, by omega⟩
  refine ⟨0, rfl, by omega, fun _ => ⟨by omega, by omega, c5'.1, c5'.2, by omega, by omega, (rd_T45 l 0).f0.length, ?_, fun x hx => ?_⟩⟩
  ·have h0 : 0 < l.length := by omega
   have := Sp.rdG l 0 h0
   rw [show ((0 : Nat) : Int) = 0 from rfl] at this
   rw [this]
   exact ht (by omega) _ (List.getElem_mem h0)
  have hd : ¬ Sd.diff l x = true := fun q => c4 (List.any_eq_true.2 ⟨x, hx, q⟩)
  unfold Sd.diff at hd
  simp at hd
  omega
 exact ⟨2, rfl, by omega, by omega⟩
theorem Sp.idx2 (xs : List Int) (hl : xs.length ≤ 1000) : ∀ (n k i : Nat), i + n = xs.length → n < k → ∃ t, api_Answer_63.l0 k xs 2 (xs.length : Int) (i : Int) = some t ∧ ((t = -1 ∧ ∀ j : Nat, i ≤ j → j < xs.length → rd xs (j : Int) ≠ 2) ∨ ∃ p : Nat, t = (p : Int) ∧ p < xs.length ∧ rd xs (p : Int) = 2)
 | 0, k, i, hi, hk => by
  obtain ⟨k, rfl⟩ : ∃ m, k = m + 1 := ⟨k - 1, by omega⟩
  rw [api_Answer_63.l0, if_neg (by omega)]
  exact ⟨_, rfl, .inl ⟨rfl, fun j h1 h2 => by omega⟩⟩
 | n + 1, k, i, hi, hk => by
  obtain ⟨k, rfl⟩ : ∃ m, k = m + 1 := ⟨k - 1, by omega⟩
  have hlt : i < xs.length := by omega
  rw [api_Answer_63.l0, if_pos (by omega), if_pos (by omega), if_pos (by omega)]
  by_cases c : 2 = rd xs (i : Int)
  ·rw [if_pos c]
   exact ⟨_, rfl, .inr ⟨i, rfl, hlt, c.symm⟩⟩
  rw [if_neg c, wrap_succ hlt (by omega)]
  obtain ⟨t, e, h⟩ := Sp.idx2 xs hl n k (i + 1) (by omega) (by omega)
  refine ⟨t, e, h.imp (fun q => ⟨q.1, fun j h1 h2 => ?_⟩) id⟩
  by_cases d : j = i
  ·subst d
   exact fun z => c z.symm
  exact q.2 j (by omega) h2
theorem Sp.idx1 (xs : List Int) (hl : xs.length ≤ 1000) : ∀ (n k i : Nat), i + n = xs.length → n < k → ∃ t, slices_IndexFunc_Answer_sound_First_1.l0 k xs (xs.length : Int) (i : Int) = some t ∧ ((∀ j : Nat, i ≤ j → j < xs.length → rd xs (j : Int) = 0) ∨ ∃ p : Nat, t = (p : Int) ∧ i ≤ p ∧ p < xs.length ∧ ∀ j : Nat, i ≤ j → j < p → rd xs (j : Int) = 0)
 | 0, k, i, hi, hk => by
  obtain ⟨k, rfl⟩ : ∃ m, k = m + 1 := ⟨k - 1, by omega⟩
  rw [slices_IndexFunc_Answer_sound_First_1.l0, if_neg (by omega)]
  exact ⟨_, rfl, .inl fun j h1 h2 => by omega⟩
 | n + 1, k, i, hi, hk => by
  obtain ⟨k, rfl⟩ : ∃ m, k = m + 1 := ⟨k - 1, by omega⟩
  have hlt : i < xs.length := by omega
  rw [slices_IndexFunc_Answer_sound_First_1.l0, if_pos (by omega), if_pos (by omega), if_pos (by omega), sound_First_1.f, Option.bind_some]
  by_cases c : rd xs (i : Int) = 0
  ·rw [if_neg (by simp [c]), wrap_succ hlt (by omega)]
   obtain ⟨t, e, h⟩ := Sp.idx1 xs hl n k (i + 1) (by omega) (by omega)
   have st : ∀ j : Nat, i ≤ j → (i + 1 ≤ j → rd xs (j : Int) = 0) → rd xs (j : Int) = 0 := fun j h1 h2 => by
    by_cases d : j = i
    ·subst d
     exact c
    exact h2 (by omega)
   refine ⟨t, e, h.imp (fun q j h1 h2 => st j h1 fun h3 => q j h3 h2) fun ⟨p, q1, q2, q3, q4⟩ => ⟨p, q1, by omega, q3, fun j h1 h2 => st j h1 fun h3 => q4 j h3 h2⟩⟩
  rw [if_pos (by simp [c])]
  exact ⟨_, rfl, .inr ⟨i, rfl, Nat.le_refl _, hlt, fun j h1 h2 => by omega⟩⟩
end Go.Proofs.Ytaheamdoldiojaa.P
