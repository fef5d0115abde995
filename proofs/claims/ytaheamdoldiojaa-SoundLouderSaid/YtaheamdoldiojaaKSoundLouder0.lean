/- with a lesser threshold no sample is less loud, and with narrower samples no answer but Open changes; a longer least length has no more calls. Part 1 of 1. -/
-- Put together by wip/tools/shake.py, a program of this work: out of the words that the kit's print tool (print.sh) writes for a claim and what wip/tools/xprint.py prints, those that this claim reaches, and this work's own texts.
import Derived.Below
import Derived.Deep.Draws
import Derived.Deep.AppendLies
import Derived.Maps.AppendAt
import Derived.OwnWalk
import Derived.Laws.BytesArg
import Derived.Laws.MakeOwn
import Derived.Laws.OwnMore
import Derived.Deep.OwnRows
import Derived.Tactics
import Derived.Lib.ConvBytes
import Derived.Laws.Slices
import Derived.WalkKit
import Derived.KernelRfl
import Derived.RowKit3
import Derived.Deep.LoopGhost
import Derived.Deep.QuietTactic
import Derived.BigQuiet
import Derived.WideLaws
import Derived.Deep.DeepCutAuto
import Derived.Deep.CutBlock
import Derived.Deep.RegionHeld3
import Derived.Laws.Rows
import Derived.Lib.AppendStr
import Derived.ArgAppend
import Derived.Laws.IdiomCopy
import Derived.RowKit
import Derived.OrdersHeld
import Derived.Laws.BitsLemmas
import Derived.Laws.StructEq
import Derived.Test.YtaheamdoldiojaaProg
import Derived.Laws.CopyRow
import Derived.Laws.CopyOwn
import Derived.Outline
import Derived.StillTailTactics
import Derived.RegionTactic
import Derived.BigRegion
import Derived.Laws.EntriesVeiled
import Derived.Laws.Externs
import Derived.RangeFuncBox
import Derived.RangeFuncNested
import Derived.RangeFuncBound
import Derived.RangeFuncCalls
import Derived.RangeFuncLeaves
import Derived.Shelf.Abstract
import Derived.Shelf.RegionOpen
import Derived.OwnWalkIn
import Derived.TacticsInMore
import Derived.LoopNIn
import Derived.LoopIn
import Derived.Sort.QuietIn
import Derived.Sort.LoopGhostIn
import Derived.Deep.Slices
import Derived.OpenShut
import Derived.Test.YtaheamdoldiojaaRows
import Derived.ProofKit
import Derived.ShutString
import Derived.ChangeOld
import Derived.SizedLaws
import Derived.Carry
import Derived.Test.YtaheamdoldiojaaKSnd4
set_option linter.unusedVariables false
set_option linter.unusedSimpArgs false
namespace Go.Proofs.YtaheamdoldiojaaW.PrintWords
open Go.RowKit
section
variable {P : Program} {ops : Array Oper} {o : Oper} {a : Act} {Q : Exit → Act → World → Prop} {K : Act → World → Prop}
theorem step_append_cells {w0 W : World} (base : Nat) (hw : Region.wanted o (yielded ops a.tmps) = true) (s x : Operand) (t e : TypeId) (z : Value) (size bytes : Nat)
  (ho : o.op = .call { callee := .builtin .append, args := #[s, x], argTypes := #[t, t] })
  (ht : P.underlying t = some (.slice e)) (hinfo : (P.info? e).map (fun i => (i.zero, i.size, i.bytes)) = some (some z, size, bytes)) (hz : z.cells.size = size) (hs0 : 0 < size) (hb0 : 0 < bytes)
  (v : Value) (n : Nat) (xs ys : List Value) (hs : a.eval s = v) (hx : a.eval x = .slice (some ⟨W.heap.size, 0, none⟩) 1 1) (hys : ys.length = size) (h1 : ∀ u ∈ ys, u.oneCell' = true)
  (HO : W.ownsRow base e size v n xs) (HB : Below base w0 W) (hbase : base ≤ W.heap.size) (hl : (n + 1) * bytes ≤ 140737488355328)
  (h : ∀ v1 w1, w1.ownsRow base e size v1 (n + 1) (xs ++ ys) → Below base w0 w1 → W.grownBy w1 v.ownBlock → (v1.ownBlock = v.ownBlock ∨ ∃ b, v1.ownBlock = some b ∧ W.heap.size ≤ b) → K (a.put o.dst v1) w1) :
  if Region.wanted o (yielded ops a.tmps) = true then Oper.wp P o a (W.alloc (.cells ys.toArray e)) K Q else K (a.put o.dst undef) (W.alloc (.cells ys.toArray e)) := by
 obtain ⟨i0, hi, hzz⟩ := Option.map_eq_some_iff.1 hinfo
 simp only [Prod.mk.injEq] at hzz
 obtain ⟨hz0, hz1, hz2⟩ := hzz
 have hlen : n + 1 ≤ 140737488355328 := Nat.le_trans (Nat.le_mul_of_pos_right _ hb0) hl
 rw [if_pos hw]
 obtain ⟨v1, w1, hr, hown, hg, _, hat⟩ := run_append_own_at (P := P) (W.alloc (.cells ys.toArray e)) base t o.type e i0 z size bytes ht hi hz0 hz1 hz2 hz hs0 v n xs (HO.alloc _) ⟨W.heap.size, 0, none⟩ 1 1 ys (by rw [hys]; simp)
  (by simpa using World.news_of_block (cs := ys.toArray) (t := e) (fr := (0, 0)) (heap_alloc_new W (.cells ys.toArray e))) h1 (by simp only [maxLen]; omega) hl (by simp; omega)
 unfold Oper.wp execOp
 simp only [ho, resolve, invoke, builtin, Sem.run_bind, Sem.run_pure, Result.andThen_ok, List.map_toArray, List.map_cons, List.map_nil, hs, hx, hr]
 refine h v1 w1 hown ((HB.alloc hbase _).grown hg (by simp; omega) (own_base HO)) (World.grownBy.trans (World.grownBy_alloc W _ _) hg) ?_
 rcases hat with hat | hat
 ·exact .inl hat
 exact .inr ⟨_, hat, by simp⟩
end
namespace Kd
section
variable {P : Program} {ops : Array Oper} {o : Oper} {a : Act} {Q : Exit → Act → World → Prop} {Kc : Act → World → Prop} {α : Type}
theorem R_append_step (d : Kd α) {w0 W : World} (base : Nat) (hw : Region.wanted o (yielded ops a.tmps) = true) (s x : Operand) (t e : TypeId) (z : Value) (bytes : Nat)
  (ho : o.op = .call { callee := .builtin .append, args := #[s, x], argTypes := #[t, t] })
  (ht : P.underlying t = some (.slice e)) (hinfo : (P.info? e).map (fun i => (i.zero, i.size, i.bytes)) = some (some z, d.sz, bytes)) (hz : z.cells.size = d.sz) (hs0 : 0 < d.sz) (hb0 : 0 < bytes)
  (v : Value) (xs : List α) (p : α) (cs : List Value) (ok okp : Nat → Prop) (hs : a.eval s = v) (hx : a.eval x = .slice (some ⟨W.heap.size, 0, none⟩) 1 1) (hp : d.M W base okp p cs) (hokp : ∀ k, okp k → ok k ∧ some k ≠ v.ownBlock) (hfresh : ∀ k, W.heap.size ≤ k → ok k)
  (HO : d.R e W base ok v xs) (HB : Below base w0 W) (hbase : base ≤ W.heap.size) (hl : (xs.length + 1) * bytes ≤ 140737488355328)
  (h : ∀ v1 w1, d.R e w1 base ok v1 (xs ++ [p]) → Below base w0 w1 → W.grownBy w1 v.ownBlock → (v1.ownBlock = v.ownBlock ∨ ∃ b, v1.ownBlock = some b ∧ W.heap.size ≤ b) → Kc (a.put o.dst v1) w1) :
  if Region.wanted o (yielded ops a.tmps) = true then Oper.wp P o a (W.alloc (.cells cs.toArray e)) Kc Q else Kc (a.put o.dst undef) (W.alloc (.cells cs.toArray e)) := by
 obtain ⟨h0, inner, hown, hr⟩ := HO
 refine step_append_cells base hw s x t e z d.sz bytes ho ht hinfo hz hs0 hb0 v xs.length inner cs hs hx (d.K_len (d.K_of_M hp)) (d.K_one (d.K_of_M hp)) hown HB hbase hl ?_
 intro v1 w1 hown1 hb1 hg1 hat1
 exact h v1 w1 (R_appended h0 hr hp hokp hfresh hown1 hg1 hat1) hb1 hg1 hat1
end
end Kd
namespace Kd
section
variable {α : Type} {d : Kd α} {e e' : Nat} {w w1 W : World} {base : Nat} {ok : Nat → Prop} {u v : Value} {xs : List α}
theorem R_over' (h : d.R e W base ok u xs) (hty : ∀ k, v.ownBlock = some k → ∃ cells, W.heap[k]? = some (.cells cells e' (0, 0))) (ht : ∀ q, q ∈ e :: d.E → q ≠ e') (hg : W.grownBy w1 v.ownBlock) : d.R e w1 base ok u xs := by
 refine R_mono (R_move (R_bound h) (fun k hk => hg.block k hk.2.2.1 (fun he => ?_))) (fun _ hk => hk.1)
 obtain ⟨_, _, _, q, hq, cells, hc⟩ := hk
 obtain ⟨cells', hc'⟩ := hty k he.symm
 rw [hc] at hc'
 injection hc' with hc'
 injection hc' with _ hc'
 exact ht q hq hc'
end
end Kd
end Go.Proofs.YtaheamdoldiojaaW.PrintWords
namespace Go.Proofs.YtaheamdoldiojaaW.PrintLast
section
variable {P : Program} {ops : Array Oper} {Q : Exit → Act → World → Prop} {md : Region.Mode} {S : World → Prop} {ds : List Nat}
theorem value_ {oi : Oper} {N : Option Tmp} {a : Act} {w w1 : World} {v : Value} {K : Act → World → Prop} (hw : Region.wanted oi (yielded ops a.tmps) = true) (hN : oi.dst = N) (hrun : (execOp a.eval oi).run P w = .ok (.value v) w1)
  (h : K (a.put N v) w1) : if Region.wanted oi (yielded ops a.tmps) = true then Oper.wp P oi a w K Q else K (a.put N undef) w := by
 rw [if_pos hw]
 subst hN
 unfold Oper.wp
 rw [hrun]
 exact h
end
end Go.Proofs.YtaheamdoldiojaaW.PrintLast
namespace Go.Proofs.Ytaheamdoldiojaa.P
open Go.RowKit Go.Proofs.YtaheamdoldiojaaW.PrintWords Go.Proofs.YtaheamdoldiojaaW.PrintLast Go.Proofs.YtaheamdoldiojaaW.PrintMore
attribute [local go_sem] max2_int min2_int max_two min_two max_three min_three max_four min_four   -- for this text's walks alone
set_option linter.unusedVariables false
set_option linter.unusedSimpArgs false
theorem info24 : (Try.prog.info? 24).map (fun i => (i.zero, i.size, i.bytes)) = some (some (.agg #[(.int .i64 0), (.int .i64 0)]), 2, 16) := by kernel_rfl
def sound_Loud.l0 : Nat → Int → List Int → List (S24) → Int → Int → Option (List Int × Int)
 | 0, _, _, _, _, _ => none
 | k + 1, x1, x7, x21, x22, x23 => if x23 < x22 then (if 0 ≤ x23 then (if x23 < (x21.length : Int) then (if x23 < (x7.length : Int) then ((some (x7.set (x23 : Int).toNat 1 : List Int)).bind fun y108 => (if ((rd_T24 x21 x23).f0) ≥ x1 then ((some (y108.set (x23 : Int).toNat 2 : List Int)).bind fun y109 => (if ((rd_T24 x21 x23).f1) < x1 then (sound_Loud.l0 k x1 (y109.set (x23 : Int).toNat 0) x21 x22 (wrap64 (x23 + 1))) else (sound_Loud.l0 k x1 y109 x21 x22 (wrap64 (x23 + 1))))) else (if ((rd_T24 x21 x23).f1) < x1 then (sound_Loud.l0 k x1 (y108.set (x23 : Int).toNat 0) x21 x22 (wrap64 (x23 + 1))) else (sound_Loud.l0 k x1 y108 x21 x22 (wrap64 (x23 + 1)))))) else (none)) else (none)) else (none)) else (some (x7, 0))
def sound_Loud.f (k : Nat) (l0 : List (S24)) (a1 : Int) : Option (List Int × Int) := (sound_checkTrack.f k l0).bind fun t101 => (if t101 = 0 then ((sound_between.f a1 (-1073741824) 1073741824).bind fun t102 => (if t102 = true then (if 0 ≤ (l0.length : Int) then (if ((l0.length : Int) : Int).toNat ≤ 35184372088832 then (sound_Loud.l0 k a1 (List.replicate ((l0.length : Int) : Int).toNat 0) l0 (l0.length : Int) 0) else (none)) else (none)) else (some (([] : List Int), 3)))) else (some (([] : List Int), t101)))
set_option maxHeartbeats 8000000 in
set_option maxRecDepth 100000 in
theorem sound_Loud.calls (k : Nat) (A0 : Option Addr) (c0 : Nat) (l0 : List (S24)) (a1 : Int) (r1 : List Int) (r2 : Int) (w : World) (hr0 : Kd.C k24 w A0 l0.length l0) (hc0 : l0.length ≤ c0) (h : sound_Loud.f k l0 a1 = some (r1, r2)) :
  Calls Try.prog 29 #[.slice A0 l0.length c0, .int .i64 a1] w fun e w' => ∃ v0_ : Value, e = .returned (.tuple #[v0_, .int .i64 r2]) ∧ Kd.R (Kd.int .i64) 50 w' w.heap.size (fun _ => True) v0_ r1 ∧ Below w.heap.size w w' := by
 have hu24 := Try.underlying24
 have HR0 := zam hr0
 have HC0 := zam hc0
 clear hr0 hc0
 have HB := zam (Below.refl w.heap.size w)
 have H : ((sound_checkTrack.f k l0).bind fun t101 => (if t101 = 0 then ((sound_between.f a1 (-1073741824) 1073741824).bind fun t102 => (if t102 = true then (if 0 ≤ (l0.length : Int) then (if ((l0.length : Int) : Int).toNat ≤ 35184372088832 then (sound_Loud.l0 k a1 (List.replicate ((l0.length : Int) : Int).toNat 0) l0 (l0.length : Int) 0) else (none)) else (none)) else (some (([] : List Int), 3)))) else (some (([] : List Int), t101)))) = some (r1, r2) := h
 clear h
 replace H := Option.bind_eq_some_iff.mp H
 obtain ⟨t101, A30, H⟩ := H
 replace H : (if t101 = 0 then ((sound_between.f a1 (-1073741824) 1073741824).bind fun t102 => (if t102 = true then (if 0 ≤ (l0.length : Int) then (if ((l0.length : Int) : Int).toNat ≤ 35184372088832 then (sound_Loud.l0 k a1 (List.replicate ((l0.length : Int) : Int).toNat 0) l0 (l0.length : Int) 0) else (none)) else (none)) else (some (([] : List Int), 3)))) else (some (([] : List Int), t101))) = some (r1, r2) := H
 have A3 := zam A30
 clear A30
 by_cases c4 : t101 = 0
 ·rw [if_pos c4] at H
  have c4b0 : (t101 == 0) = true := beq_iff_eq.mpr c4
  have c4b1 : (t101 != 0) = false := bne_eq_false_iff_eq.mpr c4
  clear c4
  replace H := Option.bind_eq_some_iff.mp H
  obtain ⟨t102, A50, H⟩ := H
  replace H : (if t102 = true then (if 0 ≤ (l0.length : Int) then (if ((l0.length : Int) : Int).toNat ≤ 35184372088832 then (sound_Loud.l0 k a1 (List.replicate ((l0.length : Int) : Int).toNat 0) l0 (l0.length : Int) 0) else (none)) else (none)) else (some (([] : List Int), 3))) = some (r1, r2) := H
  have A5 := zam A50
  clear A50
  by_cases c6 : t102 = true
  ·subst c6
   have H1 : (if 0 ≤ (l0.length : Int) then (if ((l0.length : Int) : Int).toNat ≤ 35184372088832 then (sound_Loud.l0 k a1 (List.replicate ((l0.length : Int) : Int).toNat 0) l0 (l0.length : Int) 0) else (none)) else (none)) = some (r1, r2) := by rw [if_pos rfl] at H; exact H
   clear H
   have H := H1
   clear H1
   by_cases c7 : 0 ≤ (l0.length : Int)
   ·rw [if_pos c7] at H
    have c7b0 := eq_true c7
    have c7b1 : decide (0 ≤ (l0.length : Int)) = true := zdt c7
    clear c7
    by_cases c8 : ((l0.length : Int) : Int).toNat ≤ 35184372088832
    ·rw [if_pos c8] at H
     have c8b0 := eq_true c8
     have c8b1 : decide (((l0.length : Int) : Int).toNat ≤ 35184372088832) = true := zdt c8
     clear c8
     obtain ⟨y103, hy103⟩ : ∃ y_ : List Int, y_ = (List.replicate ((l0.length : Int) : Int).toNat 0) := ⟨_, rfl⟩
     replace H : (sound_Loud.l0 k a1 y103 l0 (l0.length : Int) 0) = some (r1, r2) := by first | (rw [hy103]; with_reducible exact H) | (have H2_ := (Option.bind_some _ _).symm.trans H; rw [hy103]; with_reducible exact H2_) | (have H2_ := (Option.bind_some _ _).symm.trans H; with_reducible exact H2_) | with_reducible exact H | (rw [hy103]; exact H) | exact H
     have Ny103 := zam hy103
     clear hy103
     have H' := zam H
     clear H
     go_enter Try.func29, Try.ntmps29
     go_wp2_with (first | ((with_reducible refine zgc (f := 71) rfl ?_); refine goesL_ (some 11) rfl rfl Try.func71 (by kernel_rfl) rfl #[.slice A0 l0.length c0] rfl (by (try simp only [zmt, List.map_cons, List.map_nil]); first | done | rfl | (simp only [zld, zlt]; rfl)) ?_; (with_reducible refine (sound_checkTrack.calls k _ _ l0 t101 _ ?side1 ?side2 A3.out).mono ?_); (case side1 => repeat (first | exact HR0.out | (with_reducible refine Kd.C_alloc ?_ _) | (with_reducible refine Kd.C_drewN ?_ _) | (with_reducible refine Kd.C_drew ?_))); (case side2 => exact HC0.out); rintro e w9 ⟨rfl, hb⟩; refine ⟨_, rfl, ?_⟩; have n0_ := zam (zbt (by repeat (first | (with_reducible first | exact HB.out | apply zba | apply zbn | apply zb1) | exact HB.out)) hb); clear HB; have HB := n0_; clear n0_; (try clear hb); (try clear hb2); (try clear hk); (try clear hi)) | ((with_reducible refine zgc (f := 72) rfl ?_); refine goesL_ (some 16) rfl rfl Try.func72 (by kernel_rfl) rfl #[.int .i64 a1, .int .i64 (-1073741824), .int .i64 1073741824] rfl (by (try simp only [zmt, List.map_cons, List.map_nil]); first | done | rfl | (simp only [zld, zlt]; rfl)) ?_; (with_reducible refine (sound_between.calls a1 (-1073741824) 1073741824 true _ A5.out).mono ?_); rintro e w' ⟨rfl, ⟨nd, rfl⟩⟩; refine ⟨_, rfl, ?_⟩) | ((with_reducible refine zgd (N := 20) rfl ?_); refine Kd.R_make (Kd.int .i64) _ 50 rfl (N := 20) rfl 66 _ _ rfl (l0.length : Int) rfl rfl Try.underlying66 (.int .i64 0) 8 info50 rfl (by decide) (by omega) 0 (ok := fun _ => True) (okp := fun _ => True) rfl (fun _ hk => hk) trivial (zod (by first | (with_reducible assumption) | assumption)) (Nat.le_trans (Nat.mul_le_mul_right _ (zod (by first | (with_reducible assumption) | assumption) : (l0.length : Int).toNat ≤ 35184372088832)) (by omega)) (Below.refl _ _) (Nat.le_refl _) ?_; intro v104 w10 ho11 hb hg_ hnew_; clear hg_ hnew_; (first | rw [← Ny103.out] at ho11 | (simp only [Int.reduceToNat] at ho11; rw [← Ny103.out] at ho11)); have n0_ := zam (Kd.R_lower ho11 (zbz (by repeat (first | (with_reducible first | exact HB.out | apply zba | apply zbn | apply zb1) | exact HB.out)))); have n1_ := zam (zbt (by repeat (first | (with_reducible first | exact HB.out | apply zba | apply zbn | apply zb1) | exact HB.out)) hb); clear HB; have HO105 := n0_; have HB := n1_; clear n0_ n1_; clear hb ho11))
     go_loopg [23] k (fun kq v23 w' => ∃ (x7_1 : List Int) (x23_1 : Int), v23 = .int .i64 x23_1 ∧ Aside0 (sound_Loud.l0 kq a1 x7_1 l0 (l0.length : Int) x23_1 = some (r1, r2)) ∧ Aside0 (kq ≤ k) ∧ Aside0 (Kd.R (Kd.int .i64) 50 w' w.heap.size (fun _ => True) v104 x7_1) ∧ Aside0 (Below w.heap.size w w'))
     case atStart => exact ⟨(y103), (0), (by first | rfl | (simp; done) | (simp [*]; done)), H', ⟨Nat.le_refl _⟩, ⟨by (with_reducible repeat (first | apply zRa | apply zRn | apply zRd)); exact HO105.out⟩, ⟨by repeat (first | (with_reducible first | exact HB.out | apply zba | apply zbn | apply zb1) | exact HB.out)⟩⟩
     case round =>
      clear H'
      try clear c2
      try clear p2
      try clear c4
      try clear c4b0
      try clear c4b1
      try clear c6
      try clear c7
      try clear c7b0
      try clear c7b1
      try clear c8
      try clear c8b0
      try clear c8b1
      obtain ⟨x7_1, x23_1, rfl, HA, HK1, HO_7, HB⟩ := hrel
      cases gk with
      | zero => exact absurd HA.out (by simp [sound_Loud.l0])
      | succ k1 =>
       have H := HA.out
       clear HA
       simp only [sound_Loud.l0] at H
       by_cases c12 : x23_1 < (l0.length : Int)
       ·rw [if_pos c12] at H
        have c12b0 : decide (x23_1 < (l0.length : Int)) = true := zdt c12
        clear c12
        by_cases c13 : 0 ≤ x23_1
        ·rw [if_pos c13] at H
         have c13b0 : decide (0 ≤ x23_1) = true := zdt c13
         clear c13
         by_cases c14 : x23_1 < (l0.length : Int)
         ·rw [if_pos c14] at H
          have c14b0 : decide (x23_1 < (l0.length : Int)) = true := zdt c14
          clear c14
          by_cases c15 : x23_1 < (x7_1.length : Int)
          ·rw [if_pos c15] at H
           have c15b0 : decide (x23_1 < (x7_1.length : Int)) = true := zdt c15
           clear c15
           obtain ⟨y108, hy108⟩ : ∃ y_ : List Int, y_ = (x7_1.set (x23_1 : Int).toNat 1) := ⟨_, rfl⟩
           replace H : (if ((rd_T24 l0 x23_1).f0) ≥ a1 then ((some (y108.set (x23_1 : Int).toNat 2 : List Int)).bind fun y109 => (if ((rd_T24 l0 x23_1).f1) < a1 then (sound_Loud.l0 k1 a1 (y109.set (x23_1 : Int).toNat 0) l0 (l0.length : Int) (wrap64 (x23_1 + 1))) else (sound_Loud.l0 k1 a1 y109 l0 (l0.length : Int) (wrap64 (x23_1 + 1))))) else (if ((rd_T24 l0 x23_1).f1) < a1 then (sound_Loud.l0 k1 a1 (y108.set (x23_1 : Int).toNat 0) l0 (l0.length : Int) (wrap64 (x23_1 + 1))) else (sound_Loud.l0 k1 a1 y108 l0 (l0.length : Int) (wrap64 (x23_1 + 1))))) = some (r1, r2) := by first | (rw [hy108]; with_reducible exact H) | (have H2_ := (Option.bind_some _ _).symm.trans H; rw [hy108]; with_reducible exact H2_) | (have H2_ := (Option.bind_some _ _).symm.trans H; with_reducible exact H2_) | with_reducible exact H | (rw [hy108]; exact H) | exact H
           have Ny108 := zam hy108
           clear hy108
           by_cases c17 : ((rd_T24 l0 x23_1).f0) ≥ a1
           ·rw [if_pos c17] at H
            have c17b0 : decide (a1 ≤ ((rd_T24 l0 x23_1).f0)) = true := zdt c17
            clear c17
            obtain ⟨y109, hy109⟩ : ∃ y_ : List Int, y_ = (y108.set (x23_1 : Int).toNat 2) := ⟨_, rfl⟩
            replace H : (if ((rd_T24 l0 x23_1).f1) < a1 then (sound_Loud.l0 k1 a1 (y109.set (x23_1 : Int).toNat 0) l0 (l0.length : Int) (wrap64 (x23_1 + 1))) else (sound_Loud.l0 k1 a1 y109 l0 (l0.length : Int) (wrap64 (x23_1 + 1)))) = some (r1, r2) := by first | (rw [hy109]; with_reducible exact H) | (have H2_ := (Option.bind_some _ _).symm.trans H; rw [hy109]; with_reducible exact H2_) | (have H2_ := (Option.bind_some _ _).symm.trans H; with_reducible exact H2_) | with_reducible exact H | (rw [hy109]; exact H) | exact H
            have Ny109 := zam hy109
            clear hy109
            by_cases c19 : ((rd_T24 l0 x23_1).f1) < a1
            ·rw [if_pos c19] at H
             have c19b0 : decide (((rd_T24 l0 x23_1).f1) < a1) = true := zdt c19
             clear c19
             obtain ⟨y110, hy110⟩ : ∃ y_ : List Int, y_ = (y109.set (x23_1 : Int).toNat 0) := ⟨_, rfl⟩
             replace H : (sound_Loud.l0 k1 a1 y110 l0 (l0.length : Int) (wrap64 (x23_1 + 1))) = some (r1, r2) := by first | (rw [hy110]; with_reducible exact H) | (have H2_ := (Option.bind_some _ _).symm.trans H; rw [hy110]; with_reducible exact H2_) | (have H2_ := (Option.bind_some _ _).symm.trans H; with_reducible exact H2_) | with_reducible exact H | (rw [hy110]; exact H) | exact H
             have Ny110 := zam hy110
             clear hy110
             have H' := zam H
             clear H
             have p106 : 0 ≤ (x23_1 : Int) := zod (by first | (with_reducible assumption) | assumption)
             have q106 : x23_1 < (l0.length : Int) := zod (by first | (with_reducible assumption) | assumption)
             obtain ⟨ad106, e106, hx106_0, hx106_1⟩ := at_T24 HR0.out x23_1 p106 q106
             cases e106
             replace hx106_0 := (HB.out.cell (zwb w _ hx106_0)).trans hx106_0
             replace hx106_1 := (HB.out.cell (zwb w _ hx106_1)).trans hx106_1
             replace p106 := eq_true p106
             replace q106 := eq_true q106
             go_wp2_with (first | ((with_reducible refine zgd (N := 9) rfl ?_); refine box_event ?hg (N := 9) ?hd (cs := #[.int .i64 0, .int .i64 0]) (t := 24) ?hr ?_; (case hd => rfl); (case hg => rfl); (case hr => first | (go_simp; done) | (go_simp; rfl)); intro gb107 hg w21 hbox hb; have n0_ := zam (Kd.R_below (by (with_reducible repeat (first | apply zRa | apply zRn | apply zRd)); exact HO_7.out) hb); have n1_ := zam (zbt (by repeat (first | (with_reducible first | exact HB.out | apply zba | apply zbn | apply zb1) | exact HB.out)) hb); have n2_ := zam (hbox); have n3_ := zam ((by rw [hg]; exact (zbz (by repeat (first | (with_reducible first | exact HB.out | apply zba | apply zbn | apply zb1) | exact HB.out))) : w.heap.size ≤ gb107)); have n4_ := zam ((by rw [hg]; exact (zbz (by repeat (first | (with_reducible first | exact HB.out | apply zba | apply zbn | apply zb1) | exact HB.out))) : w.heap.size ≤ gb107)); clear HO_7; clear HB; have HO_7 := n0_; have HB := n1_; have BK107 := n2_; have GW107 := n3_; have GE107 := n4_; clear n0_ n1_ n2_ n3_ n4_; clear hb hbox hg; have hcz22_0 : w21.cell? ⟨gb107, 0, none⟩ = some (.int .i64 0) := (zkc BK107.out 0).trans rfl; have hcz22_1 : w21.cell? ⟨gb107, 1, none⟩ = some (.int .i64 0) := (zkc BK107.out 1).trans rfl; have hfz22_0 := zkz BK107.out 0; have hfz22_1 := zkz BK107.out 1) | ((with_reducible refine gate_store (t := 24) (p := 9) rfl ?_); refine store_event (t := 24) (p := 9) (v := ?vo_w23) (w1 := ((w21.setCell ⟨gb107, 0, none⟩ (.int .i64 ((rd_T24 l0 x23_1).f0))).setCell ⟨gb107, 1, none⟩ (.int .i64 ((rd_T24 l0 x23_1).f1)))) ?hg ?ho ?hn ?hr ?_; (case ho => rfl); (case hg => rfl); (case hn => rfl); (case hr => first | (go_simp; done) | (go_simp; rfl)); intro w23 hw; have n0_ : Aside0 (Kd.R (Kd.int .i64) 50 w23 w.heap.size (fun _ => True) v104 x7_1) := ⟨(by rw [hw]; exact (by (with_reducible repeat (first | apply zRa | apply zRn | apply zRd)); exact Kd.R_mono (Kd.R_far (p := ⟨gb107, 1, none⟩) (Kd.R_far (p := ⟨gb107, 0, none⟩) (Kd.R_types HO_7.out BK107.out (by decide)) (fun _ hk => hk.2) (.int .i64 ((rd_T24 l0 x23_1).f0))) (fun _ hk => hk.2) (.int .i64 ((rd_T24 l0 x23_1).f1))) (fun _ hk => trivial)))⟩; have n1_ : Aside0 (w23.heap[gb107]? = some (.cells #[.int .i64 ((rd_T24 l0 x23_1).f0), .int .i64 ((rd_T24 l0 x23_1).f1)] 24 (0, 0))) := ⟨(by rw [hw]; exact (by (with_reducible repeat (first | refine zkn ?_ _ | refine zkd ?_ | refine zka ?_ _)); refine blk_put (cs := #[.int .i64 ((rd_T24 l0 x23_1).f0), .int .i64 0]) ?_ 1 _ rfl; (with_reducible repeat (first | refine zkn ?_ _ | refine zkd ?_ | refine zka ?_ _)); refine blk_put (cs := #[.int .i64 0, .int .i64 0]) ?_ 0 _ rfl; (with_reducible repeat (first | refine zkn ?_ _ | refine zkd ?_ | refine zka ?_ _)); exact BK107.out))⟩; have n2_ : Aside0 (Below w.heap.size w w23) := ⟨(by rw [hw]; exact (by repeat (first | (with_reducible first | exact HB.out | apply zba | apply zbn | apply zb1 | refine zbs ?_ GE107.out) | exact HB.out)))⟩; clear hw; clear HO_7; clear BK107; clear HB; have HO_7 := n0_; have BK107 := n1_; have HB := n2_; clear n0_ n1_ n2_; have p16 : 0 ≤ (x23_1 : Int) := zod (by first | (with_reducible assumption) | assumption); have q16 : (x23_1 : Int) < ((x7_1.length : Int) : Int) := zod (by first | (with_reducible assumption) | assumption); obtain ⟨go16, co16, eo16, gb16, gl16, cl16, HG16⟩ := Kd.R_form HO_7.out (by omega); (first | cases eo16 | (injection eo16 with ea_ en_ ec_; (first | subst ea_ | (injection ea_ with ea_; subst ea_)); subst ec_; clear en_)); have GB16 := zam gb16; have GG16 := zam HG16; clear gb16 gl16 HG16; obtain ⟨hx16_0, hf16_0⟩ := Kd.R_celln 0 HO_7.out (x23_1 : Int) p16 q16; replace p16 := eq_true p16; replace q16 := eq_true q16; obtain ⟨hy24_, hz24_⟩ := Kd.R_celln 0 HO_7.out (x23_1 : Int) (zod (by first | (with_reducible assumption) | assumption)) (zod (by first | (with_reducible assumption) | assumption)); have HP24 := Kd.R_putg HO_7.out (x23_1 : Int) 1) | ((with_reducible refine gate_store (t := 50) (p := 30) rfl ?_); refine store_event (t := 50) (p := 30) (v := ?vo_w25) (w1 := (w23.setCell ⟨go16, (x23_1 : Int).toNat, none⟩ (.int .i64 1))) ?hg ?ho ?hn ?hr ?_; (case ho => rfl); (case hg => rfl); (case hn => rfl); (case hr => first | (go_simp; done) | (go_simp; rfl)); intro w25 hw; have hg : w23.grownBy w25 (some go16) := (by rw [hw]; exact HP24.2); have hp_ : Kd.R (Kd.int .i64) 50 w25 w.heap.size (fun _ => True) (.slice (some ⟨go16, 0, none⟩) x7_1.length co16) y108 := (by rw [hw, Ny108.out]; exact HP24.1); clear HP24; have n0_ := zam (hp_); have n1_ := zam (blk_grown (g := gb107) (o := .cells #[.int .i64 ((rd_T24 l0 x23_1).f0), .int .i64 ((rd_T24 l0 x23_1).f1)] 24 (0, 0)) (by (with_reducible repeat (first | refine zkn ?_ _ | refine zkd ?_ | refine zka ?_ _)); exact BK107.out) hg (Kd.R_ne HO_7.out BK107.out (by decide))); have n2_ := zam ((by rw [hw]; exact zbs (HB.out) GB16.out : Below w.heap.size w w25)); clear HO_7; clear BK107; clear HB; have HO_7 := n0_; have BK107 := n1_; have HB := n2_; clear n0_ n1_ n2_; clear hg hw hp_; have hcz26_0 : w25.cell? ⟨gb107, 0, none⟩ = some (.int .i64 ((rd_T24 l0 x23_1).f0)) := (zkc BK107.out 0).trans rfl; have hcz26_1 : w25.cell? ⟨gb107, 1, none⟩ = some (.int .i64 ((rd_T24 l0 x23_1).f1)) := (zkc BK107.out 1).trans rfl; have hfz26_0 := zkz BK107.out 0; have hfz26_1 := zkz BK107.out 1; have p18 : 0 ≤ (x23_1 : Int) := zod (by first | (with_reducible assumption) | assumption); have q18 : (x23_1 : Int) < ((x7_1.length : Int) : Int) := zod (by first | (with_reducible assumption) | assumption); obtain ⟨hx18_0, hf18_0⟩ := Kd.R_celln 0 HO_7.out (x23_1 : Int) p18 q18; replace p18 := eq_true p18; replace q18 := eq_true q18; obtain ⟨hy27_, hz27_⟩ := Kd.R_celln 0 HO_7.out (x23_1 : Int) (zod (by first | (with_reducible assumption) | assumption)) (zod (by first | (with_reducible assumption) | assumption)); have HP27 := Kd.R_putg HO_7.out (x23_1 : Int) 2) | ((with_reducible refine gate_store (t := 50) (p := 37) rfl ?_); refine store_event (t := 50) (p := 37) (v := ?vo_w28) (w1 := (w25.setCell ⟨go16, (x23_1 : Int).toNat, none⟩ (.int .i64 2))) ?hg ?ho ?hn ?hr ?_; (case ho => rfl); (case hg => rfl); (case hn => rfl); (case hr => first | (go_simp; done) | (go_simp; rfl)); intro w28 hw; have hg : w25.grownBy w28 (some go16) := (by rw [hw]; exact HP27.2); have hp_ : Kd.R (Kd.int .i64) 50 w28 w.heap.size (fun _ => True) (.slice (some ⟨go16, 0, none⟩) x7_1.length co16) y109 := (by rw [hw, Ny109.out]; exact HP27.1); clear HP27; have n0_ := zam (hp_); have n1_ := zam (blk_grown (g := gb107) (o := .cells #[.int .i64 ((rd_T24 l0 x23_1).f0), .int .i64 ((rd_T24 l0 x23_1).f1)] 24 (0, 0)) (by (with_reducible repeat (first | refine zkn ?_ _ | refine zkd ?_ | refine zka ?_ _)); exact BK107.out) hg (Kd.R_ne HO_7.out BK107.out (by decide))); have n2_ := zam ((by rw [hw]; exact zbs (HB.out) GB16.out : Below w.heap.size w w28)); clear HO_7; clear BK107; clear HB; have HO_7 := n0_; have BK107 := n1_; have HB := n2_; clear n0_ n1_ n2_; clear hg hw hp_; have hcz29_0 : w28.cell? ⟨gb107, 0, none⟩ = some (.int .i64 ((rd_T24 l0 x23_1).f0)) := (zkc BK107.out 0).trans rfl; have hcz29_1 : w28.cell? ⟨gb107, 1, none⟩ = some (.int .i64 ((rd_T24 l0 x23_1).f1)) := (zkc BK107.out 1).trans rfl; have hfz29_0 := zkz BK107.out 0; have hfz29_1 := zkz BK107.out 1; have p20 : 0 ≤ (x23_1 : Int) := zod (by first | (with_reducible assumption) | assumption); have q20 : (x23_1 : Int) < ((x7_1.length : Int) : Int) := zod (by first | (with_reducible assumption) | assumption); obtain ⟨hx20_0, hf20_0⟩ := Kd.R_celln 0 HO_7.out (x23_1 : Int) p20 q20; replace p20 := eq_true p20; replace q20 := eq_true q20; obtain ⟨hy30_, hz30_⟩ := Kd.R_celln 0 HO_7.out (x23_1 : Int) (zod (by first | (with_reducible assumption) | assumption)) (zod (by first | (with_reducible assumption) | assumption)); have HP30 := Kd.R_putg HO_7.out (x23_1 : Int) 0) | ((with_reducible refine gate_store (t := 50) (p := 44) rfl ?_); refine store_event (t := 50) (p := 44) (v := ?vo_w31) (w1 := (w28.setCell ⟨go16, (x23_1 : Int).toNat, none⟩ (.int .i64 0))) ?hg ?ho ?hn ?hr ?_; (case ho => rfl); (case hg => rfl); (case hn => rfl); (case hr => first | (go_simp; done) | (go_simp; rfl)); intro w31 hw; have hg : w28.grownBy w31 (some go16) := (by rw [hw]; exact HP30.2); have hp_ : Kd.R (Kd.int .i64) 50 w31 w.heap.size (fun _ => True) (.slice (some ⟨go16, 0, none⟩) x7_1.length co16) y110 := (by rw [hw, Ny110.out]; exact HP30.1); clear HP30; have n0_ := zam (hp_); have n1_ := zam (blk_grown (g := gb107) (o := .cells #[.int .i64 ((rd_T24 l0 x23_1).f0), .int .i64 ((rd_T24 l0 x23_1).f1)] 24 (0, 0)) (by (with_reducible repeat (first | refine zkn ?_ _ | refine zkd ?_ | refine zka ?_ _)); exact BK107.out) hg (Kd.R_ne HO_7.out BK107.out (by decide))); have n2_ := zam ((by rw [hw]; exact zbs (HB.out) GB16.out : Below w.heap.size w w31)); clear HO_7; clear BK107; clear HB; have HO_7 := n0_; have BK107 := n1_; have HB := n2_; clear n0_ n1_ n2_; clear hg hw hp_))
             go_roundg k1
             case measure => have := HK1.out; omega
             case rel => exact ⟨(y110), (wrap64 (x23_1 + 1)), (by first | rfl | (simp; done) | (simp [*]; done)), H', ⟨by have := HK1.out; omega⟩, ⟨by (with_reducible repeat (first | apply zRa | apply zRn | apply zRd)); exact HO_7.out⟩, ⟨by repeat (first | (with_reducible first | exact HB.out | apply zba | apply zbn | apply zb1 | refine zbs ?_ GE107.out) | exact HB.out)⟩⟩
            rw [if_neg c19] at H
            have c19b0 : decide (((rd_T24 l0 x23_1).f1) < a1) = false := zdf c19
            clear c19
            have H' := zam H
            clear H
            have p106 : 0 ≤ (x23_1 : Int) := zod (by first | (with_reducible assumption) | assumption)
            have q106 : x23_1 < (l0.length : Int) := zod (by first | (with_reducible assumption) | assumption)
            obtain ⟨ad106, e106, hx106_0, hx106_1⟩ := at_T24 HR0.out x23_1 p106 q106
            cases e106
            replace hx106_0 := (HB.out.cell (zwb w _ hx106_0)).trans hx106_0
            replace hx106_1 := (HB.out.cell (zwb w _ hx106_1)).trans hx106_1
            replace p106 := eq_true p106
            replace q106 := eq_true q106
            go_wp2_with (first | ((with_reducible refine zgd (N := 9) rfl ?_); refine box_event ?hg (N := 9) ?hd (cs := #[.int .i64 0, .int .i64 0]) (t := 24) ?hr ?_; (case hd => rfl); (case hg => rfl); (case hr => first | (go_simp; done) | (go_simp; rfl)); intro gb107 hg w32 hbox hb; have n0_ := zam (Kd.R_below (by (with_reducible repeat (first | apply zRa | apply zRn | apply zRd)); exact HO_7.out) hb); have n1_ := zam (zbt (by repeat (first | (with_reducible first | exact HB.out | apply zba | apply zbn | apply zb1) | exact HB.out)) hb); have n2_ := zam (hbox); have n3_ := zam ((by rw [hg]; exact (zbz (by repeat (first | (with_reducible first | exact HB.out | apply zba | apply zbn | apply zb1) | exact HB.out))) : w.heap.size ≤ gb107)); have n4_ := zam ((by rw [hg]; exact (zbz (by repeat (first | (with_reducible first | exact HB.out | apply zba | apply zbn | apply zb1) | exact HB.out))) : w.heap.size ≤ gb107)); clear HO_7; clear HB; have HO_7 := n0_; have HB := n1_; have BK107 := n2_; have GW107 := n3_; have GE107 := n4_; clear n0_ n1_ n2_ n3_ n4_; clear hb hbox hg; have hcz33_0 : w32.cell? ⟨gb107, 0, none⟩ = some (.int .i64 0) := (zkc BK107.out 0).trans rfl; have hcz33_1 : w32.cell? ⟨gb107, 1, none⟩ = some (.int .i64 0) := (zkc BK107.out 1).trans rfl; have hfz33_0 := zkz BK107.out 0; have hfz33_1 := zkz BK107.out 1) | ((with_reducible refine gate_store (t := 24) (p := 9) rfl ?_); refine store_event (t := 24) (p := 9) (v := ?vo_w34) (w1 := ((w32.setCell ⟨gb107, 0, none⟩ (.int .i64 ((rd_T24 l0 x23_1).f0))).setCell ⟨gb107, 1, none⟩ (.int .i64 ((rd_T24 l0 x23_1).f1)))) ?hg ?ho ?hn ?hr ?_; (case ho => rfl); (case hg => rfl); (case hn => rfl); (case hr => first | (go_simp; done) | (go_simp; rfl)); intro w34 hw; have n0_ : Aside0 (Kd.R (Kd.int .i64) 50 w34 w.heap.size (fun _ => True) v104 x7_1) := ⟨(by rw [hw]; exact (by (with_reducible repeat (first | apply zRa | apply zRn | apply zRd)); exact Kd.R_mono (Kd.R_far (p := ⟨gb107, 1, none⟩) (Kd.R_far (p := ⟨gb107, 0, none⟩) (Kd.R_types HO_7.out BK107.out (by decide)) (fun _ hk => hk.2) (.int .i64 ((rd_T24 l0 x23_1).f0))) (fun _ hk => hk.2) (.int .i64 ((rd_T24 l0 x23_1).f1))) (fun _ hk => trivial)))⟩; have n1_ : Aside0 (w34.heap[gb107]? = some (.cells #[.int .i64 ((rd_T24 l0 x23_1).f0), .int .i64 ((rd_T24 l0 x23_1).f1)] 24 (0, 0))) := ⟨(by rw [hw]; exact (by (with_reducible repeat (first | refine zkn ?_ _ | refine zkd ?_ | refine zka ?_ _)); refine blk_put (cs := #[.int .i64 ((rd_T24 l0 x23_1).f0), .int .i64 0]) ?_ 1 _ rfl; (with_reducible repeat (first | refine zkn ?_ _ | refine zkd ?_ | refine zka ?_ _)); refine blk_put (cs := #[.int .i64 0, .int .i64 0]) ?_ 0 _ rfl; (with_reducible repeat (first | refine zkn ?_ _ | refine zkd ?_ | refine zka ?_ _)); exact BK107.out))⟩; have n2_ : Aside0 (Below w.heap.size w w34) := ⟨(by rw [hw]; exact (by repeat (first | (with_reducible first | exact HB.out | apply zba | apply zbn | apply zb1 | refine zbs ?_ GE107.out) | exact HB.out)))⟩; clear hw; clear HO_7; clear BK107; clear HB; have HO_7 := n0_; have BK107 := n1_; have HB := n2_; clear n0_ n1_ n2_; have p16 : 0 ≤ (x23_1 : Int) := zod (by first | (with_reducible assumption) | assumption); have q16 : (x23_1 : Int) < ((x7_1.length : Int) : Int) := zod (by first | (with_reducible assumption) | assumption); obtain ⟨go16, co16, eo16, gb16, gl16, cl16, HG16⟩ := Kd.R_form HO_7.out (by omega); (first | cases eo16 | (injection eo16 with ea_ en_ ec_; (first | subst ea_ | (injection ea_ with ea_; subst ea_)); subst ec_; clear en_)); have GB16 := zam gb16; have GG16 := zam HG16; clear gb16 gl16 HG16; obtain ⟨hx16_0, hf16_0⟩ := Kd.R_celln 0 HO_7.out (x23_1 : Int) p16 q16; replace p16 := eq_true p16; replace q16 := eq_true q16; obtain ⟨hy35_, hz35_⟩ := Kd.R_celln 0 HO_7.out (x23_1 : Int) (zod (by first | (with_reducible assumption) | assumption)) (zod (by first | (with_reducible assumption) | assumption)); have HP35 := Kd.R_putg HO_7.out (x23_1 : Int) 1) | ((with_reducible refine gate_store (t := 50) (p := 30) rfl ?_); refine store_event (t := 50) (p := 30) (v := ?vo_w36) (w1 := (w34.setCell ⟨go16, (x23_1 : Int).toNat, none⟩ (.int .i64 1))) ?hg ?ho ?hn ?hr ?_; (case ho => rfl); (case hg => rfl); (case hn => rfl); (case hr => first | (go_simp; done) | (go_simp; rfl)); intro w36 hw; have hg : w34.grownBy w36 (some go16) := (by rw [hw]; exact HP35.2); have hp_ : Kd.R (Kd.int .i64) 50 w36 w.heap.size (fun _ => True) (.slice (some ⟨go16, 0, none⟩) x7_1.length co16) y108 := (by rw [hw, Ny108.out]; exact HP35.1); clear HP35; have n0_ := zam (hp_); have n1_ := zam (blk_grown (g := gb107) (o := .cells #[.int .i64 ((rd_T24 l0 x23_1).f0), .int .i64 ((rd_T24 l0 x23_1).f1)] 24 (0, 0)) (by (with_reducible repeat (first | refine zkn ?_ _ | refine zkd ?_ | refine zka ?_ _)); exact BK107.out) hg (Kd.R_ne HO_7.out BK107.out (by decide))); have n2_ := zam ((by rw [hw]; exact zbs (HB.out) GB16.out : Below w.heap.size w w36)); clear HO_7; clear BK107; clear HB; have HO_7 := n0_; have BK107 := n1_; have HB := n2_; clear n0_ n1_ n2_; clear hg hw hp_; have hcz37_0 : w36.cell? ⟨gb107, 0, none⟩ = some (.int .i64 ((rd_T24 l0 x23_1).f0)) := (zkc BK107.out 0).trans rfl; have hcz37_1 : w36.cell? ⟨gb107, 1, none⟩ = some (.int .i64 ((rd_T24 l0 x23_1).f1)) := (zkc BK107.out 1).trans rfl; have hfz37_0 := zkz BK107.out 0; have hfz37_1 := zkz BK107.out 1; have p18 : 0 ≤ (x23_1 : Int) := zod (by first | (with_reducible assumption) | assumption); have q18 : (x23_1 : Int) < ((x7_1.length : Int) : Int) := zod (by first | (with_reducible assumption) | assumption); obtain ⟨hx18_0, hf18_0⟩ := Kd.R_celln 0 HO_7.out (x23_1 : Int) p18 q18; replace p18 := eq_true p18; replace q18 := eq_true q18; obtain ⟨hy38_, hz38_⟩ := Kd.R_celln 0 HO_7.out (x23_1 : Int) (zod (by first | (with_reducible assumption) | assumption)) (zod (by first | (with_reducible assumption) | assumption)); have HP38 := Kd.R_putg HO_7.out (x23_1 : Int) 2) | ((with_reducible refine gate_store (t := 50) (p := 37) rfl ?_); refine store_event (t := 50) (p := 37) (v := ?vo_w39) (w1 := (w36.setCell ⟨go16, (x23_1 : Int).toNat, none⟩ (.int .i64 2))) ?hg ?ho ?hn ?hr ?_; (case ho => rfl); (case hg => rfl); (case hn => rfl); (case hr => first | (go_simp; done) | (go_simp; rfl)); intro w39 hw; have hg : w36.grownBy w39 (some go16) := (by rw [hw]; exact HP38.2); have hp_ : Kd.R (Kd.int .i64) 50 w39 w.heap.size (fun _ => True) (.slice (some ⟨go16, 0, none⟩) x7_1.length co16) y109 := (by rw [hw, Ny109.out]; exact HP38.1); clear HP38; have n0_ := zam (hp_); have n1_ := zam (blk_grown (g := gb107) (o := .cells #[.int .i64 ((rd_T24 l0 x23_1).f0), .int .i64 ((rd_T24 l0 x23_1).f1)] 24 (0, 0)) (by (with_reducible repeat (first | refine zkn ?_ _ | refine zkd ?_ | refine zka ?_ _)); exact BK107.out) hg (Kd.R_ne HO_7.out BK107.out (by decide))); have n2_ := zam ((by rw [hw]; exact zbs (HB.out) GB16.out : Below w.heap.size w w39)); clear HO_7; clear BK107; clear HB; have HO_7 := n0_; have BK107 := n1_; have HB := n2_; clear n0_ n1_ n2_; clear hg hw hp_; have hcz40_0 : w39.cell? ⟨gb107, 0, none⟩ = some (.int .i64 ((rd_T24 l0 x23_1).f0)) := (zkc BK107.out 0).trans rfl; have hcz40_1 : w39.cell? ⟨gb107, 1, none⟩ = some (.int .i64 ((rd_T24 l0 x23_1).f1)) := (zkc BK107.out 1).trans rfl; have hfz40_0 := zkz BK107.out 0; have hfz40_1 := zkz BK107.out 1))
            go_roundg k1
            case measure => have := HK1.out; omega
            case rel => exact ⟨(y109), (wrap64 (x23_1 + 1)), (by first | rfl | (simp; done) | (simp [*]; done)), H', ⟨by have := HK1.out; omega⟩, ⟨by (with_reducible repeat (first | apply zRa | apply zRn | apply zRd)); exact HO_7.out⟩, ⟨by repeat (first | (with_reducible first | exact HB.out | apply zba | apply zbn | apply zb1 | refine zbs ?_ GE107.out) | exact HB.out)⟩⟩
           rw [if_neg c17] at H
           have c17b0 : decide (a1 ≤ ((rd_T24 l0 x23_1).f0)) = false := zdf c17
           clear c17
           by_cases c41 : ((rd_T24 l0 x23_1).f1) < a1
           ·rw [if_pos c41] at H
            have c41b0 : decide (((rd_T24 l0 x23_1).f1) < a1) = true := zdt c41
            clear c41
            obtain ⟨y111, hy111⟩ : ∃ y_ : List Int, y_ = (y108.set (x23_1 : Int).toNat 0) := ⟨_, rfl⟩
            replace H : (sound_Loud.l0 k1 a1 y111 l0 (l0.length : Int) (wrap64 (x23_1 + 1))) = some (r1, r2) := by first | (rw [hy111]; with_reducible exact H) | (have H2_ := (Option.bind_some _ _).symm.trans H; rw [hy111]; with_reducible exact H2_) | (have H2_ := (Option.bind_some _ _).symm.trans H; with_reducible exact H2_) | with_reducible exact H | (rw [hy111]; exact H) | exact H
            have Ny111 := zam hy111
            clear hy111
            have H' := zam H
            clear H
            have p106 : 0 ≤ (x23_1 : Int) := zod (by first | (with_reducible assumption) | assumption)
            have q106 : x23_1 < (l0.length : Int) := zod (by first | (with_reducible assumption) | assumption)
            obtain ⟨ad106, e106, hx106_0, hx106_1⟩ := at_T24 HR0.out x23_1 p106 q106
            cases e106
            replace hx106_0 := (HB.out.cell (zwb w _ hx106_0)).trans hx106_0
            replace hx106_1 := (HB.out.cell (zwb w _ hx106_1)).trans hx106_1
            replace p106 := eq_true p106
            replace q106 := eq_true q106
            go_wp2_with (first | ((with_reducible refine zgd (N := 9) rfl ?_); refine box_event ?hg (N := 9) ?hd (cs := #[.int .i64 0, .int .i64 0]) (t := 24) ?hr ?_; (case hd => rfl); (case hg => rfl); (case hr => first | (go_simp; done) | (go_simp; rfl)); intro gb107 hg w43 hbox hb; have n0_ := zam (Kd.R_below (by (with_reducible repeat (first | apply zRa | apply zRn | apply zRd)); exact HO_7.out) hb); have n1_ := zam (zbt (by repeat (first | (with_reducible first | exact HB.out | apply zba | apply zbn | apply zb1) | exact HB.out)) hb); have n2_ := zam (hbox); have n3_ := zam ((by rw [hg]; exact (zbz (by repeat (first | (with_reducible first | exact HB.out | apply zba | apply zbn | apply zb1) | exact HB.out))) : w.heap.size ≤ gb107)); have n4_ := zam ((by rw [hg]; exact (zbz (by repeat (first | (with_reducible first | exact HB.out | apply zba | apply zbn | apply zb1) | exact HB.out))) : w.heap.size ≤ gb107)); clear HO_7; clear HB; have HO_7 := n0_; have HB := n1_; have BK107 := n2_; have GW107 := n3_; have GE107 := n4_; clear n0_ n1_ n2_ n3_ n4_; clear hb hbox hg; have hcz44_0 : w43.cell? ⟨gb107, 0, none⟩ = some (.int .i64 0) := (zkc BK107.out 0).trans rfl; have hcz44_1 : w43.cell? ⟨gb107, 1, none⟩ = some (.int .i64 0) := (zkc BK107.out 1).trans rfl; have hfz44_0 := zkz BK107.out 0; have hfz44_1 := zkz BK107.out 1) | ((with_reducible refine gate_store (t := 24) (p := 9) rfl ?_); refine store_event (t := 24) (p := 9) (v := ?vo_w45) (w1 := ((w43.setCell ⟨gb107, 0, none⟩ (.int .i64 ((rd_T24 l0 x23_1).f0))).setCell ⟨gb107, 1, none⟩ (.int .i64 ((rd_T24 l0 x23_1).f1)))) ?hg ?ho ?hn ?hr ?_; (case ho => rfl); (case hg => rfl); (case hn => rfl); (case hr => first | (go_simp; done) | (go_simp; rfl)); intro w45 hw; have n0_ : Aside0 (Kd.R (Kd.int .i64) 50 w45 w.heap.size (fun _ => True) v104 x7_1) := ⟨(by rw [hw]; exact (by (with_reducible repeat (first | apply zRa | apply zRn | apply zRd)); exact Kd.R_mono (Kd.R_far (p := ⟨gb107, 1, none⟩) (Kd.R_far (p := ⟨gb107, 0, none⟩) (Kd.R_types HO_7.out BK107.out (by decide)) (fun _ hk => hk.2) (.int .i64 ((rd_T24 l0 x23_1).f0))) (fun _ hk => hk.2) (.int .i64 ((rd_T24 l0 x23_1).f1))) (fun _ hk => trivial)))⟩; have n1_ : Aside0 (w45.heap[gb107]? = some (.cells #[.int .i64 ((rd_T24 l0 x23_1).f0), .int .i64 ((rd_T24 l0 x23_1).f1)] 24 (0, 0))) := ⟨(by rw [hw]; exact (by (with_reducible repeat (first | refine zkn ?_ _ | refine zkd ?_ | refine zka ?_ _)); refine blk_put (cs := #[.int .i64 ((rd_T24 l0 x23_1).f0), .int .i64 0]) ?_ 1 _ rfl; (with_reducible repeat (first | refine zkn ?_ _ | refine zkd ?_ | refine zka ?_ _)); refine blk_put (cs := #[.int .i64 0, .int .i64 0]) ?_ 0 _ rfl; (with_reducible repeat (first | refine zkn ?_ _ | refine zkd ?_ | refine zka ?_ _)); exact BK107.out))⟩; have n2_ : Aside0 (Below w.heap.size w w45) := ⟨(by rw [hw]; exact (by repeat (first | (with_reducible first | exact HB.out | apply zba | apply zbn | apply zb1 | refine zbs ?_ GE107.out) | exact HB.out)))⟩; clear hw; clear HO_7; clear BK107; clear HB; have HO_7 := n0_; have BK107 := n1_; have HB := n2_; clear n0_ n1_ n2_; have p16 : 0 ≤ (x23_1 : Int) := zod (by first | (with_reducible assumption) | assumption); have q16 : (x23_1 : Int) < ((x7_1.length : Int) : Int) := zod (by first | (with_reducible assumption) | assumption); obtain ⟨go16, co16, eo16, gb16, gl16, cl16, HG16⟩ := Kd.R_form HO_7.out (by omega); (first | cases eo16 | (injection eo16 with ea_ en_ ec_; (first | subst ea_ | (injection ea_ with ea_; subst ea_)); subst ec_; clear en_)); have GB16 := zam gb16; have GG16 := zam HG16; clear gb16 gl16 HG16; obtain ⟨hx16_0, hf16_0⟩ := Kd.R_celln 0 HO_7.out (x23_1 : Int) p16 q16; replace p16 := eq_true p16; replace q16 := eq_true q16; obtain ⟨hy46_, hz46_⟩ := Kd.R_celln 0 HO_7.out (x23_1 : Int) (zod (by first | (with_reducible assumption) | assumption)) (zod (by first | (with_reducible assumption) | assumption)); have HP46 := Kd.R_putg HO_7.out (x23_1 : Int) 1) | ((with_reducible refine gate_store (t := 50) (p := 30) rfl ?_); refine store_event (t := 50) (p := 30) (v := ?vo_w47) (w1 := (w45.setCell ⟨go16, (x23_1 : Int).toNat, none⟩ (.int .i64 1))) ?hg ?ho ?hn ?hr ?_; (case ho => rfl); (case hg => rfl); (case hn => rfl); (case hr => first | (go_simp; done) | (go_simp; rfl)); intro w47 hw; have hg : w45.grownBy w47 (some go16) := (by rw [hw]; exact HP46.2); have hp_ : Kd.R (Kd.int .i64) 50 w47 w.heap.size (fun _ => True) (.slice (some ⟨go16, 0, none⟩) x7_1.length co16) y108 := (by rw [hw, Ny108.out]; exact HP46.1); clear HP46; have n0_ := zam (hp_); have n1_ := zam (blk_grown (g := gb107) (o := .cells #[.int .i64 ((rd_T24 l0 x23_1).f0), .int .i64 ((rd_T24 l0 x23_1).f1)] 24 (0, 0)) (by (with_reducible repeat (first | refine zkn ?_ _ | refine zkd ?_ | refine zka ?_ _)); exact BK107.out) hg (Kd.R_ne HO_7.out BK107.out (by decide))); have n2_ := zam ((by rw [hw]; exact zbs (HB.out) GB16.out : Below w.heap.size w w47)); clear HO_7; clear BK107; clear HB; have HO_7 := n0_; have BK107 := n1_; have HB := n2_; clear n0_ n1_ n2_; clear hg hw hp_; have hcz48_0 : w47.cell? ⟨gb107, 0, none⟩ = some (.int .i64 ((rd_T24 l0 x23_1).f0)) := (zkc BK107.out 0).trans rfl; have hcz48_1 : w47.cell? ⟨gb107, 1, none⟩ = some (.int .i64 ((rd_T24 l0 x23_1).f1)) := (zkc BK107.out 1).trans rfl; have hfz48_0 := zkz BK107.out 0; have hfz48_1 := zkz BK107.out 1; have p42 : 0 ≤ (x23_1 : Int) := zod (by first | (with_reducible assumption) | assumption); have q42 : (x23_1 : Int) < ((x7_1.length : Int) : Int) := zod (by first | (with_reducible assumption) | assumption); obtain ⟨hx42_0, hf42_0⟩ := Kd.R_celln 0 HO_7.out (x23_1 : Int) p42 q42; replace p42 := eq_true p42; replace q42 := eq_true q42; obtain ⟨hy49_, hz49_⟩ := Kd.R_celln 0 HO_7.out (x23_1 : Int) (zod (by first | (with_reducible assumption) | assumption)) (zod (by first | (with_reducible assumption) | assumption)); have HP49 := Kd.R_putg HO_7.out (x23_1 : Int) 0) | ((with_reducible refine gate_store (t := 50) (p := 44) rfl ?_); refine store_event (t := 50) (p := 44) (v := ?vo_w50) (w1 := (w47.setCell ⟨go16, (x23_1 : Int).toNat, none⟩ (.int .i64 0))) ?hg ?ho ?hn ?hr ?_; (case ho => rfl); (case hg => rfl); (case hn => rfl); (case hr => first | (go_simp; done) | (go_simp; rfl)); intro w50 hw; have hg : w47.grownBy w50 (some go16) := (by rw [hw]; exact HP49.2); have hp_ : Kd.R (Kd.int .i64) 50 w50 w.heap.size (fun _ => True) (.slice (some ⟨go16, 0, none⟩) x7_1.length co16) y111 := (by rw [hw, Ny111.out]; exact HP49.1); clear HP49; have n0_ := zam (hp_); have n1_ := zam (blk_grown (g := gb107) (o := .cells #[.int .i64 ((rd_T24 l0 x23_1).f0), .int .i64 ((rd_T24 l0 x23_1).f1)] 24 (0, 0)) (by (with_reducible repeat (first | refine zkn ?_ _ | refine zkd ?_ | refine zka ?_ _)); exact BK107.out) hg (Kd.R_ne HO_7.out BK107.out (by decide))); have n2_ := zam ((by rw [hw]; exact zbs (HB.out) GB16.out : Below w.heap.size w w50)); clear HO_7; clear BK107; clear HB; have HO_7 := n0_; have BK107 := n1_; have HB := n2_; clear n0_ n1_ n2_; clear hg hw hp_))
            go_roundg k1
            case measure => have := HK1.out; omega
            case rel => exact ⟨(y111), (wrap64 (x23_1 + 1)), (by first | rfl | (simp; done) | (simp [*]; done)), H', ⟨by have := HK1.out; omega⟩, ⟨by (with_reducible repeat (first | apply zRa | apply zRn | apply zRd)); exact HO_7.out⟩, ⟨by repeat (first | (with_reducible first | exact HB.out | apply zba | apply zbn | apply zb1 | refine zbs ?_ GE107.out) | exact HB.out)⟩⟩
           rw [if_neg c41] at H
           have c41b0 : decide (((rd_T24 l0 x23_1).f1) < a1) = false := zdf c41
           clear c41
           have H' := zam H
           clear H
           have p106 : 0 ≤ (x23_1 : Int) := zod (by first | (with_reducible assumption) | assumption)
           have q106 : x23_1 < (l0.length : Int) := zod (by first | (with_reducible assumption) | assumption)
           obtain ⟨ad106, e106, hx106_0, hx106_1⟩ := at_T24 HR0.out x23_1 p106 q106
           cases e106
           replace hx106_0 := (HB.out.cell (zwb w _ hx106_0)).trans hx106_0
           replace hx106_1 := (HB.out.cell (zwb w _ hx106_1)).trans hx106_1
           replace p106 := eq_true p106
           replace q106 := eq_true q106
           go_wp2_with (first | ((with_reducible refine zgd (N := 9) rfl ?_); refine box_event ?hg (N := 9) ?hd (cs := #[.int .i64 0, .int .i64 0]) (t := 24) ?hr ?_; (case hd => rfl); (case hg => rfl); (case hr => first | (go_simp; done) | (go_simp; rfl)); intro gb107 hg w51 hbox hb; have n0_ := zam (Kd.R_below (by (with_reducible repeat (first | apply zRa | apply zRn | apply zRd)); exact HO_7.out) hb); have n1_ := zam (zbt (by repeat (first | (with_reducible first | exact HB.out | apply zba | apply zbn | apply zb1) | exact HB.out)) hb); have n2_ := zam (hbox); have n3_ := zam ((by rw [hg]; exact (zbz (by repeat (first | (with_reducible first | exact HB.out | apply zba | apply zbn | apply zb1) | exact HB.out))) : w.heap.size ≤ gb107)); have n4_ := zam ((by rw [hg]; exact (zbz (by repeat (first | (with_reducible first | exact HB.out | apply zba | apply zbn | apply zb1) | exact HB.out))) : w.heap.size ≤ gb107)); clear HO_7; clear HB; have HO_7 := n0_; have HB := n1_; have BK107 := n2_; have GW107 := n3_; have GE107 := n4_; clear n0_ n1_ n2_ n3_ n4_; clear hb hbox hg; have hcz52_0 : w51.cell? ⟨gb107, 0, none⟩ = some (.int .i64 0) := (zkc BK107.out 0).trans rfl; have hcz52_1 : w51.cell? ⟨gb107, 1, none⟩ = some (.int .i64 0) := (zkc BK107.out 1).trans rfl; have hfz52_0 := zkz BK107.out 0; have hfz52_1 := zkz BK107.out 1) | ((with_reducible refine gate_store (t := 24) (p := 9) rfl ?_); refine store_event (t := 24) (p := 9) (v := ?vo_w53) (w1 := ((w51.setCell ⟨gb107, 0, none⟩ (.int .i64 ((rd_T24 l0 x23_1).f0))).setCell ⟨gb107, 1, none⟩ (.int .i64 ((rd_T24 l0 x23_1).f1)))) ?hg ?ho ?hn ?hr ?_; (case ho => rfl); (case hg => rfl); (case hn => rfl); (case hr => first | (go_simp; done) | (go_simp; rfl)); intro w53 hw; have n0_ : Aside0 (Kd.R (Kd.int .i64) 50 w53 w.heap.size (fun _ => True) v104 x7_1) := ⟨(by rw [hw]; exact (by (with_reducible repeat (first | apply zRa | apply zRn | apply zRd)); exact Kd.R_mono (Kd.R_far (p := ⟨gb107, 1, none⟩) (Kd.R_far (p := ⟨gb107, 0, none⟩) (Kd.R_types HO_7.out BK107.out (by decide)) (fun _ hk => hk.2) (.int .i64 ((rd_T24 l0 x23_1).f0))) (fun _ hk => hk.2) (.int .i64 ((rd_T24 l0 x23_1).f1))) (fun _ hk => trivial)))⟩; have n1_ : Aside0 (w53.heap[gb107]? = some (.cells #[.int .i64 ((rd_T24 l0 x23_1).f0), .int .i64 ((rd_T24 l0 x23_1).f1)] 24 (0, 0))) := ⟨(by rw [hw]; exact (by (with_reducible repeat (first | refine zkn ?_ _ | refine zkd ?_ | refine zka ?_ _)); refine blk_put (cs := #[.int .i64 ((rd_T24 l0 x23_1).f0), .int .i64 0]) ?_ 1 _ rfl; (with_reducible repeat (first | refine zkn ?_ _ | refine zkd ?_ | refine zka ?_ _)); refine blk_put (cs := #[.int .i64 0, .int .i64 0]) ?_ 0 _ rfl; (with_reducible repeat (first | refine zkn ?_ _ | refine zkd ?_ | refine zka ?_ _)); exact BK107.out))⟩; have n2_ : Aside0 (Below w.heap.size w w53) := ⟨(by rw [hw]; exact (by repeat (first | (with_reducible first | exact HB.out | apply zba | apply zbn | apply zb1 | refine zbs ?_ GE107.out) | exact HB.out)))⟩; clear hw; clear HO_7; clear BK107; clear HB; have HO_7 := n0_; have BK107 := n1_; have HB := n2_; clear n0_ n1_ n2_; have p16 : 0 ≤ (x23_1 : Int) := zod (by first | (with_reducible assumption) | assumption); have q16 : (x23_1 : Int) < ((x7_1.length : Int) : Int) := zod (by first | (with_reducible assumption) | assumption); obtain ⟨go16, co16, eo16, gb16, gl16, cl16, HG16⟩ := Kd.R_form HO_7.out (by omega); (first | cases eo16 | (injection eo16 with ea_ en_ ec_; (first | subst ea_ | (injection ea_ with ea_; subst ea_)); subst ec_; clear en_)); have GB16 := zam gb16; have GG16 := zam HG16; clear gb16 gl16 HG16; obtain ⟨hx16_0, hf16_0⟩ := Kd.R_celln 0 HO_7.out (x23_1 : Int) p16 q16; replace p16 := eq_true p16; replace q16 := eq_true q16; obtain ⟨hy54_, hz54_⟩ := Kd.R_celln 0 HO_7.out (x23_1 : Int) (zod (by first | (with_reducible assumption) | assumption)) (zod (by first | (with_reducible assumption) | assumption)); have HP54 := Kd.R_putg HO_7.out (x23_1 : Int) 1) | ((with_reducible refine gate_store (t := 50) (p := 30) rfl ?_); refine store_event (t := 50) (p := 30) (v := ?vo_w55) (w1 := (w53.setCell ⟨go16, (x23_1 : Int).toNat, none⟩ (.int .i64 1))) ?hg ?ho ?hn ?hr ?_; (case ho => rfl); (case hg => rfl); (case hn => rfl); (case hr => first | (go_simp; done) | (go_simp; rfl)); intro w55 hw; have hg : w53.grownBy w55 (some go16) := (by rw [hw]; exact HP54.2); have hp_ : Kd.R (Kd.int .i64) 50 w55 w.heap.size (fun _ => True) (.slice (some ⟨go16, 0, none⟩) x7_1.length co16) y108 := (by rw [hw, Ny108.out]; exact HP54.1); clear HP54; have n0_ := zam (hp_); have n1_ := zam (blk_grown (g := gb107) (o := .cells #[.int .i64 ((rd_T24 l0 x23_1).f0), .int .i64 ((rd_T24 l0 x23_1).f1)] 24 (0, 0)) (by (with_reducible repeat (first | refine zkn ?_ _ | refine zkd ?_ | refine zka ?_ _)); exact BK107.out) hg (Kd.R_ne HO_7.out BK107.out (by decide))); have n2_ := zam ((by rw [hw]; exact zbs (HB.out) GB16.out : Below w.heap.size w w55)); clear HO_7; clear BK107; clear HB; have HO_7 := n0_; have BK107 := n1_; have HB := n2_; clear n0_ n1_ n2_; clear hg hw hp_; have hcz56_0 : w55.cell? ⟨gb107, 0, none⟩ = some (.int .i64 ((rd_T24 l0 x23_1).f0)) := (zkc BK107.out 0).trans rfl; have hcz56_1 : w55.cell? ⟨gb107, 1, none⟩ = some (.int .i64 ((rd_T24 l0 x23_1).f1)) := (zkc BK107.out 1).trans rfl; have hfz56_0 := zkz BK107.out 0; have hfz56_1 := zkz BK107.out 1))
           go_roundg k1
           case measure => have := HK1.out; omega
           case rel => exact ⟨(y108), (wrap64 (x23_1 + 1)), (by first | rfl | (simp; done) | (simp [*]; done)), H', ⟨by have := HK1.out; omega⟩, ⟨by (with_reducible repeat (first | apply zRa | apply zRn | apply zRd)); exact HO_7.out⟩, ⟨by repeat (first | (with_reducible first | exact HB.out | apply zba | apply zbn | apply zb1 | refine zbs ?_ GE107.out) | exact HB.out)⟩⟩
          rw [if_neg c15] at H
          exact absurd H (by simp)
         rw [if_neg c14] at H
         exact absurd H (by simp)
        rw [if_neg c13] at H
        exact absurd H (by simp)
       rw [if_neg c12] at H
       have c12b0 : decide (x23_1 < (l0.length : Int)) = false := zdf c12
       clear c12
       simp only [Option.some.injEq, Prod.mk.injEq] at H
       obtain ⟨rfl, rfl⟩ := H
       go_wp2
       go_ret2
       exact ⟨_, by first | rfl | (simp [errW_none, errW_some] <;> rfl) | (simp [*, errW_none, errW_some] <;> rfl), by (with_reducible repeat (first | apply zRa | apply zRn | apply zRd)); exact HO_7.out, by repeat (first | (with_reducible first | exact HB.out | apply zba | apply zbn | apply zb1) | exact HB.out)⟩
    rw [if_neg c8] at H
    exact absurd H (by simp)
   rw [if_neg c7] at H
   exact absurd H (by simp)
  replace c6 := Bool.eq_false_iff.mpr c6
  subst c6
  have H1 : (some (([] : List Int), 3)) = some (r1, r2) := by rw [if_neg (show ¬ (false = true) by decide)] at H; exact H
  clear H
  have H := H1
  clear H1
  simp only [Option.some.injEq, Prod.mk.injEq] at H
  obtain ⟨rfl, rfl⟩ := H
  go_enter Try.func29, Try.ntmps29
  go_wp2_with (first | ((with_reducible refine zgc (f := 71) rfl ?_); refine goesL_ (some 11) rfl rfl Try.func71 (by kernel_rfl) rfl #[.slice A0 l0.length c0] rfl (by (try simp only [zmt, List.map_cons, List.map_nil]); first | done | rfl | (simp only [zld, zlt]; rfl)) ?_; (with_reducible refine (sound_checkTrack.calls k _ _ l0 t101 _ ?side1 ?side2 A3.out).mono ?_); (case side1 => repeat (first | exact HR0.out | (with_reducible refine Kd.C_alloc ?_ _) | (with_reducible refine Kd.C_drewN ?_ _) | (with_reducible refine Kd.C_drew ?_))); (case side2 => exact HC0.out); rintro e w57 ⟨rfl, hb⟩; refine ⟨_, rfl, ?_⟩; have n0_ := zam (zbt (by repeat (first | (with_reducible first | exact HB.out | apply zba | apply zbn | apply zb1) | exact HB.out)) hb); clear HB; have HB := n0_; clear n0_; (try clear hb); (try clear hb2); (try clear hk); (try clear hi)) | ((with_reducible refine zgc (f := 72) rfl ?_); refine goesL_ (some 16) rfl rfl Try.func72 (by kernel_rfl) rfl #[.int .i64 a1, .int .i64 (-1073741824), .int .i64 1073741824] rfl (by (try simp only [zmt, List.map_cons, List.map_nil]); first | done | rfl | (simp only [zld, zlt]; rfl)) ?_; (with_reducible refine (sound_between.calls a1 (-1073741824) 1073741824 false _ A5.out).mono ?_); rintro e w' ⟨rfl, ⟨nd, rfl⟩⟩; refine ⟨_, rfl, ?_⟩))
  go_ret2
  exact ⟨_, by first | rfl | (simp [errW_none, errW_some] <;> rfl) | (simp [*, errW_none, errW_some] <;> rfl), by first | exact Kd.R_nil _ _ _ _ _ | exact Kd.N_nil _ _ _ _ _ | exact Kd.V_nil _ _ _ _ _ | exact Kd.Q_nil _ _ _ _ _ | exact Kd.S_nil _ _ _ _ _, by repeat (first | (with_reducible first | exact HB.out | apply zba | apply zbn | apply zb1) | exact HB.out)⟩
 rw [if_neg c4] at H
 have c4b0 : (t101 == 0) = false := beq_eq_false_iff_ne.mpr c4
 have c4b1 : (t101 != 0) = true := bne_iff_ne.mpr c4
 simp only [Option.some.injEq, Prod.mk.injEq] at H
 obtain ⟨rfl, rfl⟩ := H
 go_enter Try.func29, Try.ntmps29
 go_wp2_with (first | ((with_reducible refine zgc (f := 71) rfl ?_); refine goesL_ (some 11) rfl rfl Try.func71 (by kernel_rfl) rfl #[.slice A0 l0.length c0] rfl (by (try simp only [zmt, List.map_cons, List.map_nil]); first | done | rfl | (simp only [zld, zlt]; rfl)) ?_; (with_reducible refine (sound_checkTrack.calls k _ _ l0 t101 _ ?side1 ?side2 A3.out).mono ?_); (case side1 => repeat (first | exact HR0.out | (with_reducible refine Kd.C_alloc ?_ _) | (with_reducible refine Kd.C_drewN ?_ _) | (with_reducible refine Kd.C_drew ?_))); (case side2 => exact HC0.out); rintro e w58 ⟨rfl, hb⟩; refine ⟨_, rfl, ?_⟩; have n0_ := zam (zbt (by repeat (first | (with_reducible first | exact HB.out | apply zba | apply zbn | apply zb1) | exact HB.out)) hb); clear HB; have HB := n0_; clear n0_; (try clear hb); (try clear hb2); (try clear hk); (try clear hi)))
 go_ret2
 exact ⟨_, by first | rfl | (simp [errW_none, errW_some] <;> rfl) | (simp [*, errW_none, errW_some] <;> rfl), by first | exact Kd.R_nil _ _ _ _ _ | exact Kd.N_nil _ _ _ _ _ | exact Kd.V_nil _ _ _ _ _ | exact Kd.Q_nil _ _ _ _ _ | exact Kd.S_nil _ _ _ _ _, by repeat (first | (with_reducible first | exact HB.out | apply zba | apply zbn | apply zb1) | exact HB.out)⟩
theorem Sp.checkTrack_1 (a b : Int) {k : Nat} (hk : 20 ≤ k) : sound_checkTrack_1.f k a b = some (!decide (Bo.v a b)) := by
 unfold sound_checkTrack_1.f bound_Check.f
 rw [Bo.check1 a b hk]
 by_cases h : Bo.v a b
 ·simp [h]
 simp [h]
theorem Sp.track_l0 (xs : List S24) (hl : xs.length ≤ 9223372036854775807) : ∀ (n k i : Nat), i + n = xs.length → n + 20 < k → ∃ t, slices_IndexFunc_Span_sound_checkTrack_1.l0 k xs (xs.length : Int) (i : Int) = some t ∧ (0 ≤ t ↔ (xs.drop i).any (fun s => !Sp.v s) = true)
 | 0, k, i, hi, hk => by
  obtain ⟨k, rfl⟩ : ∃ m, k = m + 1 := ⟨k - 1, by omega⟩
  rw [slices_IndexFunc_Span_sound_checkTrack_1.l0, if_neg (by omega), List.drop_eq_nil_of_le (by omega)]
  exact ⟨_, rfl, by simp⟩
 | n + 1, k, i, hi, hk => by
  obtain ⟨k, rfl⟩ : ∃ m, k = m + 1 := ⟨k - 1, by omega⟩
  have hlt : i < xs.length := by omega
  rw [slices_IndexFunc_Span_sound_checkTrack_1.l0, if_pos (by omega), if_pos (by omega), if_pos (by omega), Sp.rdT xs i hlt, Sp.checkTrack_1 _ _ (by omega), Option.bind_some, drop_cons hlt, List.any_cons]
  by_cases h : Bo.v xs[i].f0 xs[i].f1
  ·rw [if_neg (by simp [h]), wrap_succ hlt hl]
   obtain ⟨t, e, h2⟩ := Sp.track_l0 xs hl n k (i + 1) (by omega) (by omega)
   exact ⟨t, e, by rw [h2]; simp [Sp.v, h]⟩
  rw [if_pos (by simp [h])]
  exact ⟨_, rfl, by simp [Sp.v, h]⟩
theorem Sp.track_b (l : List S24) {k : Nat} (hk : 300 ≤ k) : sound_checkTrack.f k l = some (Sp.track l) := by
 unfold sound_checkTrack.f Sp.track
 by_cases h : (l.length : Int) > 256
 ·rw [if_pos h, if_pos h]
 rw [if_neg h, if_neg h]
 unfold slices_ContainsFunc_Span_sound_checkTrack_1.f slices_IndexFunc_Span_sound_checkTrack_1.f
 obtain ⟨t, e, h2⟩ := Sp.track_l0 l (by omega) l.length k 0 (by omega) (by omega)
 rw [show (0 : Int) = ((0 : Nat) : Int) from rfl, e, Option.bind_some, Option.bind_some]
 rw [List.drop_zero, Sp.any_not] at h2
 by_cases c : l.all Sp.v = true
 ·rw [if_neg (by simp [c] at h2; simpa using h2), if_pos c]
 rw [if_pos (by simp [c] at h2; simpa using h2), if_neg c]
theorem Sp.set_mid {α : Type} (xs : List α) (a b : α) (n : Nat) : (xs ++ List.replicate (n + 1) a).set xs.length b = (xs ++ [b]) ++ List.replicate n a := by
 rw [List.set_append_right _ _ (by omega), Nat.sub_self, List.replicate_succ]
 simp
theorem Sp.loud_bl (h : Int) (xs : List S24) (hl : xs.length ≤ 9223372036854775807) (hv : ∀ s ∈ xs, s.f0 ≤ s.f1) : ∀ (n k i : Nat), i + n = xs.length → n < k → sound_Loud.l0 k h ((xs.take i).map (Sp.loud1 h) ++ List.replicate n 0) xs (xs.length : Int) (i : Int) = some (xs.map (Sp.loud1 h), 0)
 | 0, k, i, hi, hk => by
  obtain ⟨k, rfl⟩ : ∃ m, k = m + 1 := ⟨k - 1, by omega⟩
  rw [sound_Loud.l0, if_neg (by omega), List.take_of_length_le (by omega)]
  simp
 | n + 1, k, i, hi, hk => by
  obtain ⟨k, rfl⟩ : ∃ m, k = m + 1 := ⟨k - 1, by omega⟩
  have hlt : i < xs.length := by omega
  have hlen : ((xs.take i).map (Sp.loud1 h)).length = i := by simp; omega
  have ih := Sp.loud_bl h xs hl hv n k (i + 1) (by omega) (by omega)
  have hvi := hv xs[i] (List.getElem_mem hlt)
  rw [take_snoc hlt, List.map_append, List.map_cons, List.map_nil] at ih
  have st : ∀ (b c : Int), (((xs.take i).map (Sp.loud1 h) ++ List.replicate (n + 1) 0).set ((i : Int)).toNat b) = ((xs.take i).map (Sp.loud1 h) ++ [b]) ++ List.replicate n 0 := fun b c => by
   have := Sp.set_mid ((xs.take i).map (Sp.loud1 h)) (0 : Int) b n
   rw [hlen] at this
   simpa using this
  have st2 : ∀ (a b : Int), ((((xs.take i).map (Sp.loud1 h) ++ [a]) ++ List.replicate n 0).set ((i : Int)).toNat b) = ((xs.take i).map (Sp.loud1 h) ++ [b]) ++ List.replicate n 0 := fun a b => by
   rw [List.append_assoc, List.set_append_right _ _ (by rw [hlen]; omega), hlen]
   simp
  rw [sound_Loud.l0, if_pos (by omega), if_pos (by omega), if_pos (by omega), if_pos (by simp; omega), Option.bind_some, Sp.rdT xs i hlt, st 1 0, wrap_succ hlt hl]
  have L : Sp.loud1 h xs[i] = if xs[i].f1 < h then 0 else if xs[i].f0 ≥ h then 2 else 1 := rfl
  rw [L] at ih
  by_cases c1 : xs[i].f0 ≥ h
  ·have c2 : ¬ xs[i].f1 < h := by omega
   rw [if_pos c1, Option.bind_some, if_neg c2, st2 1 2]
   rw [if_neg c2, if_pos c1] at ih
   exact ih
  rw [if_neg c1]
  by_cases c2 : xs[i].f1 < h
  ·rw [if_pos c2, st2 1 0]
   rw [if_pos c2] at ih
   exact ih
  rw [if_neg c2]
  rw [if_neg c2, if_neg c1] at ih
  exact ih
theorem Sp.track_ok {l : List S24} (h : Sp.track l = 0) : l.length ≤ 256 ∧ ∀ s ∈ l, Bo.v s.f0 s.f1 := by
 unfold Sp.track at h
 split at h
 ·cases h
 split at h
 ·next h1 h2 =>
  refine ⟨by omega, fun s hs => ?_⟩
  have := List.all_eq_true.1 h2 s hs
  simpa [Sp.v] using this
 cases h
theorem Sp.between (x lo hi : Int) : sound_between.f x lo hi = some (decide (lo ≤ x ∧ x ≤ hi)) := by
 unfold sound_between.f
 by_cases h : lo ≤ x
 ·rw [if_pos (by omega)]
  simp [h]
 rw [if_neg (by omega)]
 simp [h]
theorem Sp.loud_b (l : List S24) (h : Int) {k : Nat} (hk : 300 ≤ k) : sound_Loud.f k l h = some (Sp.loud l h) := by
 unfold sound_Loud.f Sp.loud
 rw [Sp.track_b l hk, Option.bind_some]
 by_cases c : Sp.track l = 0
 ·rw [if_pos c, if_pos c, Sp.between, Option.bind_some]
  obtain ⟨h1, h2⟩ := Sp.track_ok c
  by_cases d : -1073741824 ≤ h ∧ h ≤ 1073741824
  ·rw [if_pos (by simpa using d), if_pos d, if_pos (by omega), if_pos (by simp; omega)]
   have := Sp.loud_bl h l (by omega) (fun s hs => (h2 s hs).1) l.length k 0 (by omega) (by omega)
   simpa using this
  rw [if_neg (by simpa using d), if_neg d]
 rw [if_neg c, if_neg c]
mutual
def isobathlaw07_SoundLouder.j0 : Nat → List (S24) → Int → Int → Int → List Int → Int → List Int → Int → Bool → Option (Bool)
 | 0, _, _, _, _, _, _, _, _, _ => none
 | k + 1, x0, x1, x3, x4, x11, x12, x13, x14, x50 => if x50 = true then (if x12 = x14 then ((isobathlaw07_Works.f k).bind fun t110 => (some t110)) else (if x1 < (-1073741824) then ((isobathlaw07_Works.f k).bind fun t111 => (some t111)) else (if x1 > 1073741824 then ((isobathlaw07_Works.f k).bind fun t112 => (some t112)) else (none)))) else (if (x11.length : Int) = (x0.length : Int) then (isobathlaw07_SoundLouder.j1 k x0 x1 x3 x4 x11 x13 ((x13.length : Int) != (x0.length : Int))) else (none))
def isobathlaw07_SoundLouder.j1 : Nat → List (S24) → Int → Int → Int → List Int → List Int → Bool → Option (Bool)
 | 0, _, _, _, _, _, _, _ => none
 | k + 1, x0, x1, x3, x4, x11, x13, x76 => if x76 = true then (none) else (isobathlaw07_SoundLouder.l0 k x0 x1 x3 x4 x11 x13 ([] : List (S24)) 0)
def isobathlaw07_SoundLouder.l0 : Nat → List (S24) → Int → Int → Int → List Int → List Int → List (S24) → Int → Option (Bool)
 | 0, _, _, _, _, _, _, _, _ => none
 | k + 1, x0, x1, x3, x4, x11, x13, x15, x16 => if x16 < (x0.length : Int) then (if 0 ≤ x16 then (if x16 < (x13.length : Int) then (if x16 < (x11.length : Int) then (if (rd x13 x16) < (rd x11 x16) then (none) else (if x15.length < 8796093022208 then (isobathlaw07_SoundLouder.l0 k x0 x1 x3 x4 x11 x13 (x15 ++ [(⟨wrap64 (((rd_T24 x0 x16).f0) + (wrap64 (Int.tdiv (wrap64 (((rd_T24 x0 x16).f1) - ((rd_T24 x0 x16).f0))) 3))), wrap64 (((rd_T24 x0 x16).f1) - (wrap64 (Int.tdiv (wrap64 (((rd_T24 x0 x16).f1) - ((rd_T24 x0 x16).f0))) 3)))⟩ : S24)]) (wrap64 (x16 + 1))) else (none))) else (none)) else (none)) else (none)) else ((sound_Loud.f k x15 x1).bind fun bt122 => (if bt122.2 = 0 then (isobathlaw07_SoundLouder.j3 k x0 x3 x4 x11 bt122.1 ((bt122.1.length : Int) != (x0.length : Int))) else (none)))
def isobathlaw07_SoundLouder.j3 : Nat → List (S24) → Int → Int → List Int → List Int → Bool → Option (Bool)
 | 0, _, _, _, _, _, _ => none
 | k + 1, x0, x3, x4, x11, x18, x136 => if x136 = true then (none) else (isobathlaw07_SoundLouder.l1 k x0 x3 x4 x11 x18 0)
def isobathlaw07_SoundLouder.l1 : Nat → List (S24) → Int → Int → List Int → List Int → Int → Option (Bool)
 | 0, _, _, _, _, _, _ => none
 | k + 1, x0, x3, x4, x11, x18, x19 => if x19 < (x0.length : Int) then (if 0 ≤ x19 then (if x19 < (x11.length : Int) then (if (rd x11 x19) = 1 then (isobathlaw07_SoundLouder.l1 k x0 x3 x4 x11 x18 (wrap64 (x19 + 1))) else (if x19 < (x18.length : Int) then (if (rd x18 x19) = (rd x11 x19) then (isobathlaw07_SoundLouder.l1 k x0 x3 x4 x11 x18 (wrap64 (x19 + 1))) else (none)) else (none))) else (none)) else (none)) else ((sound_Count.f k x11 (wrap64 (1 + (Int.tmod (wrap64 (x3)) 200)))).bind fun bt129 => ((sound_Count.f k x11 (mn 256 (wrap64 ((wrap64 (1 + (Int.tmod (wrap64 (x3)) 200))) + (wrap64 (x4)))))).bind fun bt133 => ((sound_Count.f k x18 (wrap64 (1 + (Int.tmod (wrap64 (x3)) 200)))).bind fun bt137 => (if bt129.2.2 = 0 then (if bt133.2.2 = 0 then (if bt137.2.2 = 0 then (if bt133.1 ≤ bt129.1 then (if bt133.2.1 ≤ bt129.2.1 then (if bt129.1 ≤ bt137.1 then (if bt137.2.1 ≤ bt129.2.1 then ((isobathlaw07_Works.f k).bind fun t141 => (some t141)) else (none)) else (none)) else (none)) else (none)) else (none)) else (none)) else (none)))))
end
def isobathlaw07_SoundLouder.f (k : Nat) (l0 : List (S24)) (a1 : Int) (a2 : Int) (a3 : Int) (a4 : Int) : Option (Bool) := if (l0.length : Int) > 256 then ((isobathlaw07_Works.f k).bind fun t101 => (some t101)) else ((sound_Loud.f k l0 a1).bind fun bt102 => ((sound_Loud.f k l0 (mx (-1073741824) (wrap64 (a1 - (wrap64 (a2)))))).bind fun bt106 => (if bt102.2 = 0 then (isobathlaw07_SoundLouder.j0 k l0 a1 a3 a4 bt102.1 bt102.2 bt106.1 bt106.2 (bt106.2 != 0)) else (isobathlaw07_SoundLouder.j0 k l0 a1 a3 a4 bt102.1 bt102.2 bt106.1 bt106.2 true))))
def isobathlaw07_SoundLouder.T13 : Bool × List (List Nat × List Nat) := (true, [([], []), ([], []), ([0, 1], [0, 1]), ([2], [2]), ([], []), ([], []), ([4, 5], [4, 5]), ([6], [6]), ([3, 7], [3, 7])])
def isobathlaw07_SoundLouder.B13 : List Nat := [0, 0, 3, 7, 0, 0, 48, 112, 255]
theorem isobathlaw07_SoundLouder.tab13 : rtab .any (opsOf Try.f6 13) = isobathlaw07_SoundLouder.T13 := by kernel_rfl
theorem isobathlaw07_SoundLouder.bits13 : waitsOk isobathlaw07_SoundLouder.T13.2 isobathlaw07_SoundLouder.B13 = true := by kernel_rfl
def isobathlaw07_SoundLouder.T15 : Bool × List (List Nat × List Nat) := (true, [([], []), ([], []), ([0, 1], [0, 1]), ([2], [2]), ([3], [3]), ([], []), ([], []), ([5, 6], [5, 6]), ([7], [7]), ([8], [8]), ([4, 9], [4, 9]), ([10], [10]), ([11, 0, 1, 2, 3, 4, 5, 6, 7, 8, 9, 10, 11], [11])])
def isobathlaw07_SoundLouder.B15 : List Nat := [0, 0, 3, 7, 15, 0, 0, 96, 224, 480, 1023, 2047, 4095]
theorem isobathlaw07_SoundLouder.tab15 : rtab .any (opsOf Try.f6 15) = isobathlaw07_SoundLouder.T15 := by kernel_rfl
theorem isobathlaw07_SoundLouder.bits15 : waitsOk isobathlaw07_SoundLouder.T15.2 isobathlaw07_SoundLouder.B15 = true := by kernel_rfl
def isobathlaw07_SoundLouder.T16 : Bool × List (List Nat × List Nat) := (true, [([], []), ([], []), ([], []), ([1, 2], [1, 2]), ([3], [3]), ([4], [4]), ([], []), ([5, 6], [5, 6]), ([], []), ([], []), ([8, 9], [8, 9]), ([10], [10]), ([11], [11]), ([], []), ([12, 13], [12, 13]), ([7, 14], [7, 14]), ([15], [15]), ([0, 16], [0, 16]), ([17, 17, 0, 1, 2, 3, 4, 5, 6, 7, 8, 9, 10, 11, 12, 13, 14, 15, 16, 17], [0, 17])])
def isobathlaw07_SoundLouder.B16 : List Nat := [0, 0, 0, 6, 14, 30, 0, 126, 0, 0, 768, 1792, 3840, 0, 16128, 32766, 65534, 131071, 262143]
theorem isobathlaw07_SoundLouder.tab16 : rtab .any (opsOf Try.f6 16) = isobathlaw07_SoundLouder.T16 := by kernel_rfl
theorem isobathlaw07_SoundLouder.bits16 : waitsOk isobathlaw07_SoundLouder.T16.2 isobathlaw07_SoundLouder.B16 = true := by kernel_rfl
def isobathlaw07_SoundLouder.T23 : Bool × List (List Nat × List Nat) := (true, [([], []), ([], []), ([0, 1], [0, 1]), ([2], [2]), ([3], [3]), ([4], [4]), ([5], [5]), ([5], [5]), ([6, 7, 5], [5, 6, 7]), ([8, 5], [5, 8]), ([5], [5]), ([5], [5]), ([10, 11, 5], [5, 10, 11]), ([12, 5], [5, 12]), ([9, 13, 5], [5, 9, 13]), ([5, 14], [5, 14])])
def isobathlaw07_SoundLouder.B23 : List Nat := [0, 0, 3, 7, 15, 31, 63, 63, 255, 511, 63, 63, 3135, 7231, 16383, 32767]
theorem isobathlaw07_SoundLouder.tab23 : rtab .any (opsOf Try.f6 23) = isobathlaw07_SoundLouder.T23 := by kernel_rfl
theorem isobathlaw07_SoundLouder.bits23 : waitsOk isobathlaw07_SoundLouder.T23.2 isobathlaw07_SoundLouder.B23 = true := by kernel_rfl
set_option maxHeartbeats 8000000 in
set_option maxRecDepth 100000 in
theorem isobathlaw07_SoundLouder.calls (k : Nat) (A0 : Option Addr) (c0 : Nat) (l0 : List (S24)) (a1 : Int) (a2 : Int) (a3 : Int) (a4 : Int) (r : Bool) (w : World) (hr0 : Kd.C k24 w A0 l0.length l0) (hc0 : l0.length ≤ c0) (h : isobathlaw07_SoundLouder.f k l0 a1 a2 a3 a4 = some r) :
  Calls Try.prog 6 #[.slice A0 l0.length c0, .int .i64 a1, .int .u16 a2, .int .u8 a3, .int .u8 a4] w fun e w' => e = .returned (.bool r) ∧ Below w.heap.size w w' := by
 have hu24 := Try.underlying24
 have HR0 := zam hr0
 have HC0 := zam hc0
 clear hr0 hc0
 have HB := zam (Below.refl w.heap.size w)
 have H : (if (l0.length : Int) > 256 then ((isobathlaw07_Works.f k).bind fun t101 => (some t101)) else ((sound_Loud.f k l0 a1).bind fun bt102 => ((sound_Loud.f k l0 (mx (-1073741824) (wrap64 (a1 - (wrap64 (a2)))))).bind fun bt106 => (if bt102.2 = 0 then (isobathlaw07_SoundLouder.j0 k l0 a1 a3 a4 bt102.1 bt102.2 bt106.1 bt106.2 (bt106.2 != 0)) else (isobathlaw07_SoundLouder.j0 k l0 a1 a3 a4 bt102.1 bt102.2 bt106.1 bt106.2 true))))) = some r := h
 clear h
 by_cases c6 : (l0.length : Int) > 256
 ·rw [if_pos c6] at H
  have c6b0 : decide (256 < (l0.length : Int)) = true := zdt c6
  have c6b1 : decide (256 < l0.length) = true := zdt (by omega)
  clear c6
  replace H := Option.bind_eq_some_iff.mp H
  obtain ⟨t101, A70, H⟩ := H
  replace H : (some t101) = some r := H
  have A7 := zam A70
  clear A70
  obtain rfl := zsi H
  go_enter Try.func6, Try.ntmps6
  go_wp2_with (first | ((with_reducible refine zgc (f := 14) rfl ?_); refine goesL_ (some 28) rfl rfl Try.func14 (by kernel_rfl) rfl #[] rfl (by (try simp only [zmt, List.map_cons, List.map_nil]); first | done | rfl | (simp only [zld, zlt]; rfl)) ?_; (with_reducible refine (isobathlaw07_Works.calls k  t101 _ A7.out).mono ?_); rintro e w8 ⟨rfl, hb⟩; refine ⟨_, rfl, ?_⟩; have n0_ := zam (zbt (by repeat (first | (with_reducible first | exact HB.out | apply zba | apply zbn | apply zb1) | exact HB.out)) hb); clear HB; have HB := n0_; clear n0_; (try clear hb); (try clear hb2); (try clear hk); (try clear hi)))
  go_ret
  exact ⟨by first | rfl | (simp [errW_none, errW_some] <;> rfl) | (simp [*, errW_none, errW_some] <;> rfl), by repeat (first | (with_reducible first | exact HB.out | apply zba | apply zbn | apply zb1) | exact HB.out)⟩
 rw [if_neg c6] at H
 have c6b0 : decide (256 < (l0.length : Int)) = false := zdf c6
 have c6b1 : decide (256 < l0.length) = false := zdf (by omega)
 clear c6
 replace H := Option.bind_eq_some_iff.mp H
 obtain ⟨⟨t102, t103⟩, A90, H⟩ := H
 replace H : ((sound_Loud.f k l0 (mx (-1073741824) (wrap64 (a1 - (wrap64 (a2)))))).bind fun bt106 => (if t103 = 0 then (isobathlaw07_SoundLouder.j0 k l0 a1 a3 a4 t102 t103 bt106.1 bt106.2 (bt106.2 != 0)) else (isobathlaw07_SoundLouder.j0 k l0 a1 a3 a4 t102 t103 bt106.1 bt106.2 true))) = some r := H
 have A9 := zam A90
 clear A90
 obtain ⟨ji10, hji10⟩ : ∃ j_ : Int, (mx (-1073741824) (wrap64 (a1 - (wrap64 (a2))))) = j_ := ⟨_, rfl⟩
 replace H : ((sound_Loud.f k l0 (ji10)).bind fun bt106 => (if t103 = 0 then (isobathlaw07_SoundLouder.j0 k l0 a1 a3 a4 t102 t103 bt106.1 bt106.2 (bt106.2 != 0)) else (isobathlaw07_SoundLouder.j0 k l0 a1 a3 a4 t102 t103 bt106.1 bt106.2 true))) = some r := by first | (rw [hji10] at H; exact H) | (simp only [hji10] at H ⊢; exact H)
 (try rw [hji10] at A9)
 have hji10_ : (if (-1073741824) < (wrap64 (a1 - (wrap64 (a2)))) then (wrap64 (a1 - (wrap64 (a2)))) else (-1073741824)) = ji10 := hji10
 replace H := Option.bind_eq_some_iff.mp H
 obtain ⟨⟨t106, t107⟩, A110, H⟩ := H
 replace H : (if t103 = 0 then (isobathlaw07_SoundLouder.j0 k l0 a1 a3 a4 t102 t103 t106 t107 (t107 != 0)) else (isobathlaw07_SoundLouder.j0 k l0 a1 a3 a4 t102 t103 t106 t107 true)) = some r := H
 have A11 := zam A110
 clear A110
 have HC12 := zam H
 clear H
 go_enter Try.func6, Try.ntmps6
 go_upto_region 5 with (first | ((with_reducible refine zgc (f := 29) rfl ?_); refine goesL_ (some 32) rfl rfl Try.func29 (by kernel_rfl) rfl #[.slice A0 l0.length c0, .int .i64 a1] rfl (by (try simp only [zmt, List.map_cons, List.map_nil]); first | done | rfl | (simp only [zld, zlt]; rfl)) ?_; (with_reducible refine (sound_Loud.calls k _ _ l0 a1 t102 t103 _ ?side1 ?side2 A9.out).mono ?_); (case side1 => repeat (first | exact HR0.out | (with_reducible refine Kd.C_alloc ?_ _) | (with_reducible refine Kd.C_drewN ?_ _) | (with_reducible refine Kd.C_drew ?_))); (case side2 => exact HC0.out); rintro e w13 ⟨v104, rfl, ho0, hb⟩; refine ⟨_, rfl, ?_⟩; have n0_ := zam (Kd.R_lower ho0 (zbz (by repeat (first | (with_reducible first | exact HB.out | apply zba | apply zbn | apply zb1) | exact HB.out)))); have n1_ := zam (zbt (by repeat (first | (with_reducible first | exact HB.out | apply zba | apply zbn | apply zb1) | exact HB.out)) hb); clear HB; have HO105 := n0_; have HB := n1_; clear n0_ n1_; (try clear hb); (try clear hb2); (try clear hk); (try clear hi); (try clear ho0)) | ((with_reducible refine zgc (f := 29) rfl ?_); refine goesL_ (some 42) rfl rfl Try.func29 (by kernel_rfl) rfl #[.slice A0 l0.length c0, .int .i64 ji10] rfl (by (try simp only [zmt, List.map_cons, List.map_nil]); first | done | (simp only [hji10]; rfl) | rfl | (simp only [zld, zlt]; rfl)) ?_; (with_reducible refine (sound_Loud.calls k _ _ l0 ji10 t106 t107 _ ?side1 ?side2 A11.out).mono ?_); (case side1 => repeat (first | exact (Kd.C_below HR0.out HB.out) | (with_reducible refine Kd.C_alloc ?_ _) | (with_reducible refine Kd.C_drewN ?_ _) | (with_reducible refine Kd.C_drew ?_))); (case side2 => exact HC0.out); rintro e w14 ⟨v108, rfl, ho0, hb⟩; refine ⟨_, rfl, ?_⟩; have n0_ := zam (Kd.R_elder' (by (with_reducible repeat (first | apply zRa | apply zRn | apply zRd)); exact HO105.out) (Kd.R_base ho0) hb); have n1_ := zam (Kd.R_lower (Kd.R_new' ho0 (Kd.R_lt (by (with_reducible repeat (first | apply zRa | apply zRn | apply zRd)); exact HO105.out))) (zbz (by repeat (first | (with_reducible first | exact HB.out | apply zba | apply zbn | apply zb1) | exact HB.out)))); have n2_ := zam (zbt (by repeat (first | (with_reducible first | exact HB.out | apply zba | apply zbn | apply zb1) | exact HB.out)) hb); clear HO105; clear HB; have HO105 := n0_; have HO109 := n1_; have HB := n2_; clear n0_ n1_ n2_; (try clear hb); (try clear hb2); (try clear hk); (try clear hi); (try clear ho0)))
 (try simp only [Act.put, zsa, zsz, zss])
 go_cut [50] (fun v50 wc => ∃ (kq : Nat) (x50_11 : Bool), v50 = .bool x50_11 ∧ Aside0 (isobathlaw07_SoundLouder.j0 kq l0 a1 a3 a4 t102 t103 t106 t107 x50_11 = some r) ∧ Aside0 (kq ≤ k) ∧ Aside0 (Kd.R (Kd.int .i64) 50 wc w.heap.size (fun k_ => some k_ ≠ (v108 : Value).ownBlock) v104 t102) ∧ Aside0 (Kd.R (Kd.int .i64) 50 wc w.heap.size (fun k_ => some k_ ≠ (v104 : Value).ownBlock) v108 t106) ∧ Aside0 (Below w.heap.size w wc))
 case first =>
  have H := HC12.out
  clear HC12
  by_cases c15 : t103 = 0
  ·rw [if_pos c15] at H
   have c15b0 : (t103 == 0) = true := beq_iff_eq.mpr c15
   have c15b1 : (t103 != 0) = false := bne_eq_false_iff_eq.mpr c15
   clear c15
   (first | rw [c15b0] | (simp only [i64_w, i32_w]; rw [c15b0]) | skip)
   have H' := zam H
   clear H
   go_wp2
   go_meet
   case rel => exact ⟨_, ((t107 != 0)), (by first | rfl | (simp; done) | (simp [*]; done)), H', ⟨by first | omega | exact Nat.le_refl _⟩, ⟨by (with_reducible repeat (first | apply zRa | apply zRn | apply zRd)); exact Kd.R_mono HO105.out (fun _ hk => hk.2)⟩, ⟨by (with_reducible repeat (first | apply zRa | apply zRn | apply zRd)); exact Kd.R_mono HO109.out (fun _ hk => hk.2)⟩, ⟨by repeat (first | (with_reducible first | exact HB.out | apply zba | apply zbn | apply zb1) | exact HB.out)⟩⟩
  rw [if_neg c15] at H
  have c15b0 : (t103 == 0) = false := beq_eq_false_iff_ne.mpr c15
  have c15b1 : (t103 != 0) = true := bne_iff_ne.mpr c15
  (first | rw [c15b0] | (simp only [i64_w, i32_w]; rw [c15b0]) | skip)
  have H' := zam H
  clear H
  go_wp2
  go_meet
  case rel => exact ⟨_, (true), (by first | rfl | (simp; done) | (simp [*]; done)), H', ⟨by first | omega | exact Nat.le_refl _⟩, ⟨by (with_reducible repeat (first | apply zRa | apply zRn | apply zRd)); exact Kd.R_mono HO105.out (fun _ hk => hk.2)⟩, ⟨by (with_reducible repeat (first | apply zRa | apply zRn | apply zRd)); exact Kd.R_mono HO109.out (fun _ hk => hk.2)⟩, ⟨by repeat (first | (with_reducible first | exact HB.out | apply zba | apply zbn | apply zb1) | exact HB.out)⟩⟩
 case rest =>
  clear HC12
  try clear c1
  try clear c2
  try clear p2
  try clear c6
  try clear c6b0
  try clear c6b1
  try clear p6
  try clear c14
  try clear c15
  try clear c15b0
  try clear c15b1
  obtain ⟨kq, x50_11, rfl, HA, HJ11, HO_11, HO_13, HB⟩ := hcut
  cases kq with
  | zero => exact absurd HA.out (by simp [isobathlaw07_SoundLouder.j0])
  | succ kj11 =>
   have H := HA.out
   clear HA
   simp only [isobathlaw07_SoundLouder.j0] at H
   by_cases c16 : x50_11 = true
   ·subst c16
    have H1 : (if t103 = t107 then ((isobathlaw07_Works.f kj11).bind fun t110 => (some t110)) else (if a1 < (-1073741824) then ((isobathlaw07_Works.f kj11).bind fun t111 => (some t111)) else (if a1 > 1073741824 then ((isobathlaw07_Works.f kj11).bind fun t112 => (some t112)) else (none)))) = some r := by rw [if_pos rfl] at H; exact H
    clear H
    have H := H1
    clear H1
    by_cases c17 : t103 = t107
    ·rw [if_pos c17] at H
     have c17b0 : (t103 == t107) = true := beq_iff_eq.mpr c17
     have c17b1 : (t103 != t107) = false := bne_eq_false_iff_eq.mpr c17
     clear c17
     replace H := Option.bind_eq_some_iff.mp H
     obtain ⟨t110, A180, H⟩ := H
     replace H : (some t110) = some r := H
     have A18 := zam A180
     clear A180
     obtain rfl := zsi H
     go_wp2_with (first | (go_at_call 14; (with_reducible refine (isobathlaw07_Works.calls kj11  t110 _ A18.out).mono ?_); rintro e w19 ⟨rfl, hb⟩; have n0_ := zam (Kd.R_below (by (with_reducible repeat (first | apply zRa | apply zRn | apply zRd)); exact HO_11.out) hb); have n1_ := zam (Kd.R_below (by (with_reducible repeat (first | apply zRa | apply zRn | apply zRd)); exact HO_13.out) hb); have n2_ := zam (zbt (by repeat (first | (with_reducible first | exact HB.out | apply zba | apply zbn | apply zb1) | exact HB.out)) hb); clear HO_11; clear HO_13; clear HB; have HO_11 := n0_; have HO_13 := n1_; have HB := n2_; clear n0_ n1_ n2_; (try clear hb); (try clear hb2); (try clear hk); (try clear hi)))
     go_ret
     exact ⟨by first | rfl | (simp [errW_none, errW_some] <;> rfl) | (simp only [← hji10]; first | rfl | (simp [errW_none, errW_some] <;> rfl)) | (simp [*, errW_none, errW_some] <;> rfl), by repeat (first | (with_reducible first | exact HB.out | apply zba | apply zbn | apply zb1) | exact HB.out)⟩
    rw [if_neg c17] at H
    have c17b0 : (t103 == t107) = false := beq_eq_false_iff_ne.mpr c17
    have c17b1 : (t103 != t107) = true := bne_iff_ne.mpr c17
    by_cases c20 : a1 < (-1073741824)
    ·rw [if_pos c20] at H
     have c20b0 : decide (a1 < (-1073741824)) = true := zdt c20
     clear c20
     replace H := Option.bind_eq_some_iff.mp H
     obtain ⟨t111, A210, H⟩ := H
     replace H : (some t111) = some r := H
     have A21 := zam A210
     clear A210
     obtain rfl := zsi H
     go_wp2_with (first | (go_at_call 14; (with_reducible refine (isobathlaw07_Works.calls kj11  t111 _ A21.out).mono ?_); rintro e w22 ⟨rfl, hb⟩; have n0_ := zam (Kd.R_below (by (with_reducible repeat (first | apply zRa | apply zRn | apply zRd)); exact HO_11.out) hb); have n1_ := zam (Kd.R_below (by (with_reducible repeat (first | apply zRa | apply zRn | apply zRd)); exact HO_13.out) hb); have n2_ := zam (zbt (by repeat (first | (with_reducible first | exact HB.out | apply zba | apply zbn | apply zb1) | exact HB.out)) hb); clear HO_11; clear HO_13; clear HB; have HO_11 := n0_; have HO_13 := n1_; have HB := n2_; clear n0_ n1_ n2_; (try clear hb); (try clear hb2); (try clear hk); (try clear hi)))
     go_ret
     exact ⟨by first | rfl | (simp [errW_none, errW_some] <;> rfl) | (simp only [← hji10]; first | rfl | (simp [errW_none, errW_some] <;> rfl)) | (simp [*, errW_none, errW_some] <;> rfl), by repeat (first | (with_reducible first | exact HB.out | apply zba | apply zbn | apply zb1) | exact HB.out)⟩
    rw [if_neg c20] at H
    have c20b0 : decide (a1 < (-1073741824)) = false := zdf c20
    clear c20
    by_cases c23 : a1 > 1073741824
    ·rw [if_pos c23] at H
     have c23b0 : decide (1073741824 < a1) = true := zdt c23
     clear c23
     replace H := Option.bind_eq_some_iff.mp H
     obtain ⟨t112, A240, H⟩ := H
     replace H : (some t112) = some r := H
     have A24 := zam A240
     clear A240
     obtain rfl := zsi H
     go_wp2_with (first | (go_at_call 14; (with_reducible refine (isobathlaw07_Works.calls kj11  t112 _ A24.out).mono ?_); rintro e w25 ⟨rfl, hb⟩; have n0_ := zam (Kd.R_below (by (with_reducible repeat (first | apply zRa | apply zRn | apply zRd)); exact HO_11.out) hb); have n1_ := zam (Kd.R_below (by (with_reducible repeat (first | apply zRa | apply zRn | apply zRd)); exact HO_13.out) hb); have n2_ := zam (zbt (by repeat (first | (with_reducible first | exact HB.out | apply zba | apply zbn | apply zb1) | exact HB.out)) hb); clear HO_11; clear HO_13; clear HB; have HO_11 := n0_; have HO_13 := n1_; have HB := n2_; clear n0_ n1_ n2_; (try clear hb); (try clear hb2); (try clear hk); (try clear hi)))
     go_ret
     exact ⟨by first | rfl | (simp [errW_none, errW_some] <;> rfl) | (simp only [← hji10]; first | rfl | (simp [errW_none, errW_some] <;> rfl)) | (simp [*, errW_none, errW_some] <;> rfl), by repeat (first | (with_reducible first | exact HB.out | apply zba | apply zbn | apply zb1) | exact HB.out)⟩
    rw [if_neg c23] at H
    exact absurd H (by simp)
   replace c16 := Bool.eq_false_iff.mpr c16
   subst c16
   have H1 : (if (t102.length : Int) = (l0.length : Int) then (isobathlaw07_SoundLouder.j1 kj11 l0 a1 a3 a4 t102 t106 ((t106.length : Int) != (l0.length : Int))) else (none)) = some r := by rw [if_neg (show ¬ (false = true) by decide)] at H; exact H
   clear H
   have H := H1
   clear H1
   have HC26 := zam H
   clear H
   go_upto_region 7 with (fail)
   go_cut [76] (fun v76 wc => ∃ (kq : Nat) (x76_25 : Bool), v76 = .bool x76_25 ∧ Aside0 (isobathlaw07_SoundLouder.j1 kq l0 a1 a3 a4 t102 t106 x76_25 = some r) ∧ Aside0 (kq ≤ kj11) ∧ Aside0 (Kd.R (Kd.int .i64) 50 wc w.heap.size (fun k_ => some k_ ≠ (v108 : Value).ownBlock) v104 t102) ∧ Aside0 (Kd.R (Kd.int .i64) 50 wc w.heap.size (fun k_ => some k_ ≠ (v104 : Value).ownBlock) v108 t106) ∧ Aside0 (Below w.heap.size w wc))
   case first =>
    have H := HC26.out
    clear HC26
    by_cases c27 : (t102.length : Int) = (l0.length : Int)
    ·rw [if_pos c27] at H
     have c27b0 : ((t102.length : Int) == (l0.length : Int)) = true := beq_iff_eq.mpr c27
     have c27b1 : ((t102.length : Int) != (l0.length : Int)) = false := bne_eq_false_iff_eq.mpr c27
     have c27b2 : (t102.length == l0.length) = true := by first | simpa using c27 | (simp at c27 ⊢; omega)
     clear c27
     (first | rw [c27b0] | (simp only [i64_w, i32_w]; rw [c27b0]) | skip)
     have H' := zam H
     clear H
     obtain ⟨Ao28, co28, eo28⟩ := Kd.R_slice HO_11.out
     subst eo28
     obtain ⟨Ao29, co29, eo29⟩ := Kd.R_slice HO_13.out
     subst eo29
     go_wp2
     go_meet
     case rel => exact ⟨_, (((t106.length : Int) != (l0.length : Int))), (by first | rfl | (simp; done) | (simp [*]; done)), H', ⟨by have := HJ11.out; first | omega | exact Nat.le_refl _⟩, ⟨by (with_reducible repeat (first | apply zRa | apply zRn | apply zRd)); exact HO_11.out⟩, ⟨by (with_reducible repeat (first | apply zRa | apply zRn | apply zRd)); exact HO_13.out⟩, ⟨by repeat (first | (with_reducible first | exact HB.out | apply zba | apply zbn | apply zb1) | exact HB.out)⟩⟩
    rw [if_neg c27] at H
    exact absurd H (by simp)
   case rest =>
    clear HC26
    try clear c1
    try clear c2
    try clear p2
    try clear c6
    try clear c6b0
    try clear c6b1
    try clear p6
    try clear c14
    try clear c15
    try clear c15b0
    try clear c15b1
    try clear c16
    try clear c17
    try clear c17b0
    try clear c17b1
    try clear c20
    try clear c20b0
    try clear c23
    try clear c23b0
    try clear c27
    try clear c27b0
    try clear c27b1
    try clear c27b2
    try clear c29
    try clear p2
    try clear p6
    obtain ⟨kq, x76_25, rfl, HA, HJ25, HO_11, HO_13, HB⟩ := hcut
    cases kq with
    | zero => exact absurd HA.out (by simp [isobathlaw07_SoundLouder.j1])
    | succ kj25 =>
     have H := HA.out
     clear HA
     simp only [isobathlaw07_SoundLouder.j1] at H
     by_cases c30 : x76_25 = true
     ·subst c30
      have H1 : (none) = some r := by rw [if_pos rfl] at H; exact H
      clear H
      have H := H1
      clear H1
      exact absurd H (by simp)
     replace c30 := Bool.eq_false_iff.mpr c30
     subst c30
     have H1 : (isobathlaw07_SoundLouder.l0 kj25 l0 a1 a3 a4 t102 t106 ([] : List (S24)) 0) = some r := by rw [if_neg (show ¬ (false = true) by decide)] at H; exact H
     clear H
     have H := H1
     clear H1
     have H' := zam H
     clear H
     go_wp2
     go_loopg [15, 16] kj25 (fun kq v15 v16 w' => ∃ (x15_3 : List (S24)) (x16_3 : Int), v16 = .int .i64 x16_3 ∧ Aside0 (isobathlaw07_SoundLouder.l0 kq l0 a1 a3 a4 t102 t106 x15_3 x16_3 = some r) ∧ Aside0 (kq ≤ kj25) ∧ Aside0 (Kd.R (Kd.int .i64) 50 w' w.heap.size (fun k_ => some k_ ≠ (v108 : Value).ownBlock) v104 t102) ∧ Aside0 (Kd.R (Kd.int .i64) 50 w' w.heap.size (fun k_ => some k_ ≠ (v104 : Value).ownBlock) v108 t106) ∧ Aside0 (Kd.R k24 24 w' w.heap.size (fun _ => True) v15 x15_3) ∧ Aside0 (Below w.heap.size w w'))
     case atStart => exact ⟨(([] : List (S24))), (0), (by first | rfl | (simp; done) | (simp [*]; done)), H', ⟨Nat.le_refl _⟩, ⟨by (with_reducible repeat (first | apply zRa | apply zRn | apply zRd)); exact HO_11.out⟩, ⟨by (with_reducible repeat (first | apply zRa | apply zRn | apply zRd)); exact HO_13.out⟩, ⟨by first | exact Kd.R_nil _ _ _ _ _ | exact Kd.N_nil _ _ _ _ _ | exact Kd.V_nil _ _ _ _ _ | exact Kd.Q_nil _ _ _ _ _ | exact Kd.S_nil _ _ _ _ _⟩, ⟨by repeat (first | (with_reducible first | exact HB.out | apply zba | apply zbn | apply zb1) | exact HB.out)⟩⟩
     case round =>
      clear H'
      try clear c1
      try clear c2
      try clear p2
      try clear c3
      try clear c6
      try clear c6b0
      try clear c6b1
      try clear p6
      try clear c14
      try clear c15
      try clear c15b0
      try clear c15b1
      try clear c16
      try clear c17
      try clear c17b0
      try clear c17b1
      try clear c20
      try clear c20b0
      try clear c23
      try clear c23b0
      try clear c27
      try clear c27b0
      try clear c27b1
      try clear c27b2
      try clear c29
      try clear c30
      try clear p2
      try clear p6
      obtain ⟨x15_3, x16_3, rfl, HA, HK3, HO_11, HO_13, HO_15, HB⟩ := hrel
      cases gk with
      | zero => exact absurd HA.out (by simp [isobathlaw07_SoundLouder.l0])
      | succ k3 =>
       have H := HA.out
       clear HA
       simp only [isobathlaw07_SoundLouder.l0] at H
       by_cases c31 : x16_3 < (l0.length : Int)
       ·rw [if_pos c31] at H
        have c31b0 : decide (x16_3 < (l0.length : Int)) = true := zdt c31
        clear c31
        by_cases c32 : 0 ≤ x16_3
        ·rw [if_pos c32] at H
         have c32b0 : decide (0 ≤ x16_3) = true := zdt c32
         clear c32
         by_cases c33 : x16_3 < (t106.length : Int)
         ·rw [if_pos c33] at H
          have c33b0 : decide (x16_3 < (t106.length : Int)) = true := zdt c33
          clear c33
          by_cases c34 : x16_3 < (t102.length : Int)
          ·rw [if_pos c34] at H
           have c34b0 : decide (x16_3 < (t102.length : Int)) = true := zdt c34
           clear c34
           by_cases c35 : (rd t106 x16_3) < (rd t102 x16_3)
           ·rw [if_pos c35] at H
            exact absurd H (by simp)
           rw [if_neg c35] at H
           have c35b0 : decide ((rd t106 x16_3) < (rd t102 x16_3)) = false := zdf c35
           clear c35
           by_cases c36 : x15_3.length < 8796093022208
           ·rw [if_pos c36] at H
            have LMc36 := zam c36
            clear c36
            obtain ⟨y119, hy119⟩ : ∃ y_ : List (S24), y_ = (x15_3 ++ [(⟨wrap64 (((rd_T24 l0 x16_3).f0) + (wrap64 (Int.tdiv (wrap64 (((rd_T24 l0 x16_3).f1) - ((rd_T24 l0 x16_3).f0))) 3))), wrap64 (((rd_T24 l0 x16_3).f1) - (wrap64 (Int.tdiv (wrap64 (((rd_T24 l0 x16_3).f1) - ((rd_T24 l0 x16_3).f0))) 3)))⟩ : S24)]) := ⟨_, rfl⟩
            replace H : (isobathlaw07_SoundLouder.l0 k3 l0 a1 a3 a4 t102 t106 y119 (wrap64 (x16_3 + 1))) = some r := by first | (rw [hy119]; with_reducible exact H) | (have H2_ := (Option.bind_some _ _).symm.trans H; rw [hy119]; with_reducible exact H2_) | (have H2_ := (Option.bind_some _ _).symm.trans H; with_reducible exact H2_) | with_reducible exact H | (rw [hy119]; exact H) | exact H
            have Ny119 := zam hy119
            clear hy119
            have H' := zam H
            clear H
            try go_wp2
            have n0_ := zam (zRd HO_11.out)
            have n1_ := zam (zRd HO_13.out)
            have n2_ := zam (zRd HO_15.out)
            have n3_ := zam (zb1 HB.out)
            clear HO_11
            clear HO_13
            clear HO_15
            clear HB
            have HO_11 := n0_
            have HO_13 := n1_
            have HO_15 := n2_
            have HB := n3_
            clear n0_ n1_ n2_ n3_
            obtain ⟨Ao38, co38, eo38⟩ := Kd.R_slice HO_13.out
            (first | subst eo38 | (injection eo38 with f1_ f2_ f3_; have f4_ := f1_.symm; have f5_ := f3_.symm; clear f1_ f2_ f3_; subst f4_; subst f5_))
            have p113 : 0 ≤ (x16_3 : Int) := zod (by first | (with_reducible assumption) | assumption)
            have q113 : x16_3 < (t106.length : Int) := zod (by first | (with_reducible assumption) | assumption)
            obtain ⟨ad113, e113, hx113_0⟩ := Kd.at_int (Kd.R_reads' HO_13.out).2.2 x16_3 p113 q113
            cases e113
            replace p113 := eq_true p113
            replace q113 := eq_true q113
            obtain ⟨Ao39, co39, eo39⟩ := Kd.R_slice HO_11.out
            (first | subst eo39 | (injection eo39 with f1_ f2_ f3_; have f4_ := f1_.symm; have f5_ := f3_.symm; clear f1_ f2_ f3_; subst f4_; subst f5_))
            have p114 : 0 ≤ (x16_3 : Int) := zod (by first | (with_reducible assumption) | assumption)
            have q114 : x16_3 < (t102.length : Int) := zod (by first | (with_reducible assumption) | assumption)
            obtain ⟨ad114, e114, hx114_0⟩ := Kd.at_int (Kd.R_reads' HO_11.out).2.2 x16_3 p114 q114
            cases e114
            replace p114 := eq_true p114
            replace q114 := eq_true q114
            refine start_ (n := 9) (S := fun w' => w'.cell? (ad113.add (x16_3).toNat) = some (.int .i64 (rd t106 x16_3)) ∧ w'.cell? (ad114.add (x16_3).toNat) = some (.int .i64 (rd t102 x16_3))) (ds := []) #[false, false, false, false, false, false, false, false, false] (by kernel_rfl) rfl rfl ⟨hx113_0, hx114_0⟩ (fun hHeld => ?_); refine with_tabW isobathlaw07_SoundLouder.tab13 isobathlaw07_SoundLouder.bits13 (fun HT_ HW_ => ?_)
            generalize wr.drew = w37 at HO_11 HO_13 HO_15 HB hx113_0 hx114_0 hHeld ⊢
            refine pure_ (i := 0) (N := some 83) (v := ?_) (a' := ?_) #[true, false, false, false, false, false, false, false, false] rfl rfl (any_of HT_.out (by kernel_rfl)) (fun _ _ _ h => h) (Or.inl ⟨by rfl, ?_⟩) ?_ ?_
            rotate_left
            ·intro w'
             go_simp
             with_reducible rfl
            rotate_left
            ·simp only [Act.put, zsa, zsz, zss, i64_w, i32_w]
             rfl
            refine pure_ (i := 1) (N := some 84) (v := ?_) (a' := ?_) #[true, true, false, false, false, false, false, false, false] rfl rfl (any_of HT_.out (by kernel_rfl)) (fun _ _ _ h => h) (Or.inl ⟨by rfl, ?_⟩) ?_ ?_
            rotate_left
            ·intro w'
             go_simp
             with_reducible rfl
            rotate_left
            ·simp only [Act.put, zsa, zsz, zss, i64_w, i32_w]
             rfl
            refine pure_ (i := 2) (N := some 85) (v := ?_) (a' := ?_) #[true, true, true, false, false, false, false, false, false] rfl rfl (any_of HT_.out (by kernel_rfl)) (fun _ _ _ h => h) (Or.inl ⟨by rfl, ?_⟩) ?_ ?_
            rotate_left
            ·intro w'
             go_simp
             with_reducible rfl
            rotate_left
            ·simp only [Act.put, zsa, zsz, zss, i64_w, i32_w]
             rfl
            refine pure_ (i := 4) (N := some 87) (v := ?_) (a' := ?_) #[true, true, true, false, true, false, false, false, false] rfl rfl (any_of HT_.out (by kernel_rfl)) (fun _ _ _ h => h) (Or.inl ⟨by rfl, ?_⟩) ?_ ?_
            rotate_left
            ·intro w'
             go_simp
             with_reducible rfl
            rotate_left
            ·simp only [Act.put, zsa, zsz, zss, i64_w, i32_w]
             rfl
            refine pure_ (i := 5) (N := some 88) (v := ?_) (a' := ?_) #[true, true, true, false, true, true, false, false, false] rfl rfl (any_of HT_.out (by kernel_rfl)) (fun _ _ _ h => h) (Or.inl ⟨by rfl, ?_⟩) ?_ ?_
            rotate_left
            ·intro w'
             go_simp
             with_reducible rfl
            rotate_left
            ·simp only [Act.put, zsa, zsz, zss, i64_w, i32_w]
             rfl
            refine pure_ (i := 6) (N := some 89) (v := ?_) (a' := ?_) #[true, true, true, false, true, true, true, false, false] rfl rfl (any_of HT_.out (by kernel_rfl)) (fun _ _ _ h => h) (Or.inl ⟨by rfl, ?_⟩) ?_ ?_
            rotate_left
            ·intro w'
             go_simp
             with_reducible rfl
            rotate_left
            ·simp only [Act.put, zsa, zsz, zss, i64_w, i32_w]
             rfl
            refine take_ (i := 3) (N := some 86) (v := ?_) (a' := ?_) #[true, true, true, true, true, true, true, false, false] rfl rfl (take_ofW HT_.out HW_.out (by kernel_rfl)) (fun _ _ _ h => h) (Or.inl ⟨by rfl, ?_⟩) hHeld ?_ ?_
            rotate_left
            ·rintro w' ⟨s0, s1⟩
             go_simp
             with_reducible rfl
            rotate_left
            ·simp only [Act.put, zsa, zsz, zss, i64_w, i32_w]
             rfl
            refine take_ (i := 7) (N := some 90) (v := ?_) (a' := ?_) #[true, true, true, true, true, true, true, true, false] rfl rfl (take_ofW HT_.out HW_.out (by kernel_rfl)) (fun _ _ _ h => h) (Or.inl ⟨by rfl, ?_⟩) hHeld ?_ ?_
            rotate_left
            ·rintro w' ⟨s0, s1⟩
             go_simp
             with_reducible rfl
            rotate_left
            ·simp only [Act.put, zsa, zsz, zss, i64_w, i32_w]
             rfl
            refine pure_ (i := 8) (N := some 91) (v := ?_) (a' := ?_) #[true, true, true, true, true, true, true, true, true] rfl rfl (any_of HT_.out (by kernel_rfl)) (fun _ _ _ h => h) (Or.inl ⟨by rfl, ?_⟩) ?_ ?_
            rotate_left
            ·intro w'
             go_simp
             with_reducible rfl
            rotate_left
            ·simp only [Act.put, zsa, zsz, zss, i64_w, i32_w]
             rfl
            refine done_ (done_of HT_.out (by kernel_rfl)) ?_
            try go_wp2
            have n0_ := zam (zRd HO_11.out)
            have n1_ := zam (zRd HO_13.out)
            have n2_ := zam (zRd HO_15.out)
            have n3_ := zam (zb1 HB.out)
            clear HO_11
            clear HO_13
            clear HO_15
            clear HB
            have HO_11 := n0_
            have HO_13 := n1_
            have HO_15 := n2_
            have HB := n3_
            clear n0_ n1_ n2_ n3_
            have p115 : 0 ≤ (x16_3 : Int) := zod (by first | (with_reducible assumption) | assumption)
            have q115 : x16_3 < (l0.length : Int) := zod (by first | (with_reducible assumption) | assumption)
            obtain ⟨ad115, e115, hx115_0, hx115_1⟩ := at_T24 HR0.out x16_3 p115 q115
            have hw115_1 := hx115_1
            have hw115_0 := hx115_0
            cases e115
            replace hx115_0 := (HB.out.cell (zwb w _ hx115_0)).trans hx115_0
            replace hx115_1 := (HB.out.cell (zwb w _ hx115_1)).trans hx115_1
            replace p115 := eq_true p115
            replace q115 := eq_true q115
            have p116 : 0 ≤ (x16_3 : Int) := zod (by first | (with_reducible assumption) | assumption)
            have q116 : x16_3 < (l0.length : Int) := zod (by first | (with_reducible assumption) | assumption)
            obtain ⟨ad116, e116, hx116_0, hx116_1⟩ := at_T24 HR0.out x16_3 p116 q116
            have hw116_1 := hx116_1
            have hw116_0 := hx116_0
            obtain rfl : ad115 = ad116 := (by injection e116)
            replace hx116_0 := (HB.out.cell (zwb w _ hx116_0)).trans hx116_0
            replace hx116_1 := (HB.out.cell (zwb w _ hx116_1)).trans hx116_1
            replace p116 := eq_true p116
            replace q116 := eq_true q116
            refine start_ (n := 13) (S := fun w' => w'.cell? (ad115.add ((x16_3).toNat * 2)) = some (.int .i64 ((rd_T24 l0 x16_3).f0)) ∧ w'.cell? ⟨(ad115.add ((x16_3).toNat * 2)).block, (ad115.add ((x16_3).toNat * 2)).off + 1, none⟩ = some (.int .i64 ((rd_T24 l0 x16_3).f1)) ∧ w'.cell? (ad115.add ((x16_3).toNat * 2)) = some (.int .i64 ((rd_T24 l0 x16_3).f0)) ∧ w'.cell? ⟨(ad115.add ((x16_3).toNat * 2)).block, (ad115.add ((x16_3).toNat * 2)).off + 1, none⟩ = some (.int .i64 ((rd_T24 l0 x16_3).f1))) (ds := []) #[false, false, false, false, false, false, false, false, false, false, false, false, false] (by kernel_rfl) rfl rfl ⟨((HB.out.cell (zwb w _ hw115_0)).trans hw115_0), ((HB.out.cell (zwb w _ hw115_1)).trans hw115_1), ((HB.out.cell (zwb w _ hw116_0)).trans hw116_0), ((HB.out.cell (zwb w _ hw116_1)).trans hw116_1)⟩ (fun hHeld => ?_); refine with_tabW isobathlaw07_SoundLouder.tab15 isobathlaw07_SoundLouder.bits15 (fun HT_ HW_ => ?_)
            generalize w37.drew = w40 at HO_11 HO_13 HO_15 HB hx115_0 hx115_1 hx116_0 hx116_1 hHeld ⊢
            refine pure_ (i := 0) (N := some 92) (v := ?_) (a' := ?_) #[true, false, false, false, false, false, false, false, false, false, false, false, false] rfl rfl (any_of HT_.out (by kernel_rfl)) (fun _ _ _ h => h) (Or.inl ⟨by rfl, ?_⟩) ?_ ?_
            rotate_left
            ·intro w'
             go_simp
             with_reducible rfl
            rotate_left
            ·simp only [Act.put, zsa, zsz, zss, i64_w, i32_w]
             rfl
            refine pure_ (i := 1) (N := some 93) (v := ?_) (a' := ?_) #[true, true, false, false, false, false, false, false, false, false, false, false, false] rfl rfl (any_of HT_.out (by kernel_rfl)) (fun _ _ _ h => h) (Or.inl ⟨by rfl, ?_⟩) ?_ ?_
            rotate_left
            ·intro w'
             go_simp
             with_reducible rfl
            rotate_left
            ·simp only [Act.put, zsa, zsz, zss, i64_w, i32_w]
             rfl
            refine pure_ (i := 2) (N := some 94) (v := ?_) (a' := ?_) #[true, true, true, false, false, false, false, false, false, false, false, false, false] rfl rfl (any_of HT_.out (by kernel_rfl)) (fun _ _ _ h => h) (Or.inl ⟨by rfl, ?_⟩) ?_ ?_
            rotate_left
            ·intro w'
             go_simp
             with_reducible rfl
            rotate_left
            ·simp only [Act.put, zsa, zsz, zss, i64_w, i32_w]
             rfl
            refine pure_ (i := 3) (N := some 95) (v := ?_) (a' := ?_) #[true, true, true, true, false, false, false, false, false, false, false, false, false] rfl rfl (any_of HT_.out (by kernel_rfl)) (fun _ _ _ h => h) (Or.inl ⟨by rfl, ?_⟩) ?_ ?_
            rotate_left
            ·intro w'
             go_simp
             with_reducible rfl
            rotate_left
            ·simp only [Act.put, zsa, zsz, zss, i64_w, i32_w]
             rfl
            refine pure_ (i := 5) (N := some 97) (v := ?_) (a' := ?_) #[true, true, true, true, false, true, false, false, false, false, false, false, false] rfl rfl (any_of HT_.out (by kernel_rfl)) (fun _ _ _ h => h) (Or.inl ⟨by rfl, ?_⟩) ?_ ?_
            rotate_left
            ·intro w'
             go_simp
             with_reducible rfl
            rotate_left
            ·simp only [Act.put, zsa, zsz, zss, i64_w, i32_w]
             rfl
            refine pure_ (i := 6) (N := some 98) (v := ?_) (a' := ?_) #[true, true, true, true, false, true, true, false, false, false, false, false, false] rfl rfl (any_of HT_.out (by kernel_rfl)) (fun _ _ _ h => h) (Or.inl ⟨by rfl, ?_⟩) ?_ ?_
            rotate_left
            ·intro w'
             go_simp
             with_reducible rfl
            rotate_left
            ·simp only [Act.put, zsa, zsz, zss, i64_w, i32_w]
             rfl
            refine pure_ (i := 7) (N := some 99) (v := ?_) (a' := ?_) #[true, true, true, true, false, true, true, true, false, false, false, false, false] rfl rfl (any_of HT_.out (by kernel_rfl)) (fun _ _ _ h => h) (Or.inl ⟨by rfl, ?_⟩) ?_ ?_
            rotate_left
            ·intro w'
             go_simp
             with_reducible rfl
            rotate_left
            ·simp only [Act.put, zsa, zsz, zss, i64_w, i32_w]
             rfl
            refine pure_ (i := 8) (N := some 100) (v := ?_) (a' := ?_) #[true, true, true, true, false, true, true, true, true, false, false, false, false] rfl rfl (any_of HT_.out (by kernel_rfl)) (fun _ _ _ h => h) (Or.inl ⟨by rfl, ?_⟩) ?_ ?_
            rotate_left
            ·intro w'
             go_simp
             with_reducible rfl
            rotate_left
            ·simp only [Act.put, zsa, zsz, zss, i64_w, i32_w]
             rfl
            refine take_ (i := 4) (N := some 96) (v := ?_) (a' := ?_) #[true, true, true, true, true, true, true, true, true, false, false, false, false] rfl rfl (take_ofW HT_.out HW_.out (by kernel_rfl)) (fun _ _ _ h => h) (Or.inl ⟨by rfl, ?_⟩) hHeld ?_ ?_
            rotate_left
            ·rintro w' ⟨s0, s1, s2, s3⟩
             go_simp
             with_reducible rfl
            rotate_left
            ·simp only [Act.put, zsa, zsz, zss, i64_w, i32_w]
             rfl
            refine take_ (i := 9) (N := some 101) (v := ?_) (a' := ?_) #[true, true, true, true, true, true, true, true, true, true, false, false, false] rfl rfl (take_ofW HT_.out HW_.out (by kernel_rfl)) (fun _ _ _ h => h) (Or.inl ⟨by rfl, ?_⟩) hHeld ?_ ?_
            rotate_left
            ·rintro w' ⟨s0, s1, s2, s3⟩
             go_simp
             with_reducible rfl
            rotate_left
            ·simp only [Act.put, zsa, zsz, zss, i64_w, i32_w]
             rfl
            refine pure_ (i := 10) (N := some 102) (v := ?_) (a' := ?_) #[true, true, true, true, true, true, true, true, true, true, true, false, false] rfl rfl (any_of HT_.out (by kernel_rfl)) (fun _ _ _ h => h) (Or.inl ⟨by rfl, ?_⟩) ?_ ?_
            rotate_left
            ·intro w'
             go_simp
             with_reducible rfl
            rotate_left
            ·simp only [Act.put, zsa, zsz, zss, i64_w, i32_w]
             rfl
            refine pure_ (i := 11) (N := some 103) (v := ?_) (a' := ?_) #[true, true, true, true, true, true, true, true, true, true, true, true, false] rfl rfl (any_of HT_.out (by kernel_rfl)) (fun _ _ _ h => h) (Or.inl ⟨by rfl, ?_⟩) ?_ ?_
            rotate_left
            ·intro w'
             go_simp
             with_reducible rfl
            rotate_left
            ·simp only [Act.put, zsa, zsz, zss, i64_w, i32_w]
             rfl
            refine pure_ (i := 12) (N := some 17) (v := ?_) (a' := ?_) #[true, true, true, true, true, true, true, true, true, true, true, true, true] rfl rfl (any_of HT_.out (by kernel_rfl)) (fun _ _ _ h => h) (Or.inl ⟨by rfl, ?_⟩) ?_ ?_
            rotate_left
            ·intro w'
             go_simp
             with_reducible rfl
            rotate_left
            ·simp only [Act.put, zsa, zsz, zss, i64_w, i32_w]
             rfl
            refine done_ (done_of HT_.out (by kernel_rfl)) ?_
            try go_wp2
            have n0_ := zam (zRd HO_11.out)
            have n1_ := zam (zRd HO_13.out)
            have n2_ := zam (zRd HO_15.out)
            have n3_ := zam (zb1 HB.out)
            clear HO_11
            clear HO_13
            clear HO_15
            clear HB
            have HO_11 := n0_
            have HO_13 := n1_
            have HO_15 := n2_
            have HB := n3_
            clear n0_ n1_ n2_ n3_
            have p117 : 0 ≤ (x16_3 : Int) := zod (by first | (with_reducible assumption) | assumption)
            have q117 : x16_3 < (l0.length : Int) := zod (by first | (with_reducible assumption) | assumption)
            obtain ⟨ad117, e117, hx117_0, hx117_1⟩ := at_T24 HR0.out x16_3 p117 q117
            have hw117_1 := hx117_1
            have hw117_0 := hx117_0
            obtain rfl : ad115 = ad117 := (by injection e117)
            replace hx117_0 := (HB.out.cell (zwb w _ hx117_0)).trans hx117_0
            replace hx117_1 := (HB.out.cell (zwb w _ hx117_1)).trans hx117_1
            replace p117 := eq_true p117
            replace q117 := eq_true q117
            have p118 : 0 ≤ (x16_3 : Int) := zod (by first | (with_reducible assumption) | assumption)
            have q118 : x16_3 < (l0.length : Int) := zod (by first | (with_reducible assumption) | assumption)
            obtain ⟨ad118, e118, hx118_0, hx118_1⟩ := at_T24 HR0.out x16_3 p118 q118
            have hw118_1 := hx118_1
            have hw118_0 := hx118_0
            obtain rfl : ad115 = ad118 := (by injection e118)
            replace hx118_0 := (HB.out.cell (zwb w _ hx118_0)).trans hx118_0
            replace hx118_1 := (HB.out.cell (zwb w _ hx118_1)).trans hx118_1
            replace p118 := eq_true p118
            replace q118 := eq_true q118
            refine start_ (n := 19) (S := fun w' => w'.cell? (ad115.add ((x16_3).toNat * 2)) = some (.int .i64 ((rd_T24 l0 x16_3).f0)) ∧ w'.cell? ⟨(ad115.add ((x16_3).toNat * 2)).block, (ad115.add ((x16_3).toNat * 2)).off + 1, none⟩ = some (.int .i64 ((rd_T24 l0 x16_3).f1)) ∧ w'.cell? (ad115.add ((x16_3).toNat * 2)) = some (.int .i64 ((rd_T24 l0 x16_3).f0)) ∧ w'.cell? ⟨(ad115.add ((x16_3).toNat * 2)).block, (ad115.add ((x16_3).toNat * 2)).off + 1, none⟩ = some (.int .i64 ((rd_T24 l0 x16_3).f1))) (ds := []) #[false, false, false, false, false, false, false, false, false, false, false, false, false, false, false, false, false, false, false] (by kernel_rfl) rfl rfl ⟨((HB.out.cell (zwb w _ hw117_0)).trans hw117_0), ((HB.out.cell (zwb w _ hw117_1)).trans hw117_1), ((HB.out.cell (zwb w _ hw118_0)).trans hw118_0), ((HB.out.cell (zwb w _ hw118_1)).trans hw118_1)⟩ (fun hHeld => ?_); refine with_tabW isobathlaw07_SoundLouder.tab16 isobathlaw07_SoundLouder.bits16 (fun HT_ HW_ => ?_)
            generalize w40.drew = w41 at HO_11 HO_13 HO_15 HB hx117_0 hx117_1 hx118_0 hx118_1 hHeld ⊢
            refine pure_ (i := 0) (N := some 104) (v := ?_) (a' := ?_) #[true, false, false, false, false, false, false, false, false, false, false, false, false, false, false, false, false, false, false] rfl rfl (any_of HT_.out (by kernel_rfl)) (fun _ _ _ h => h) (Or.inl ⟨by rfl, ?_⟩) ?_ ?_
            rotate_left
            ·intro w'
             go_simp
             with_reducible rfl
            rotate_left
            ·simp only [Act.put, zsa, zsz, zss, i64_w, i32_w]
             rfl
            refine pure_ (i := 1) (N := some 105) (v := ?_) (a' := ?_) #[true, true, false, false, false, false, false, false, false, false, false, false, false, false, false, false, false, false, false] rfl rfl (any_of HT_.out (by kernel_rfl)) (fun _ _ _ h => h) (Or.inl ⟨by rfl, ?_⟩) ?_ ?_
            rotate_left
            ·intro w'
             go_simp
             with_reducible rfl
            rotate_left
            ·simp only [Act.put, zsa, zsz, zss, i64_w, i32_w]
             rfl
            refine pure_ (i := 2) (N := some 106) (v := ?_) (a' := ?_) #[true, true, true, false, false, false, false, false, false, false, false, false, false, false, false, false, false, false, false] rfl rfl (any_of HT_.out (by kernel_rfl)) (fun _ _ _ h => h) (Or.inl ⟨by rfl, ?_⟩) ?_ ?_
            rotate_left
            ·intro w'
             go_simp
             with_reducible rfl
            rotate_left
            ·simp only [Act.put, zsa, zsz, zss, i64_w, i32_w]
             rfl
            refine pure_ (i := 3) (N := some 107) (v := ?_) (a' := ?_) #[true, true, true, true, false, false, false, false, false, false, false, false, false, false, false, false, false, false, false] rfl rfl (any_of HT_.out (by kernel_rfl)) (fun _ _ _ h => h) (Or.inl ⟨by rfl, ?_⟩) ?_ ?_
            rotate_left
            ·intro w'
             go_simp
             with_reducible rfl
            rotate_left
            ·simp only [Act.put, zsa, zsz, zss, i64_w, i32_w]
             rfl
            refine pure_ (i := 4) (N := some 108) (v := ?_) (a' := ?_) #[true, true, true, true, true, false, false, false, false, false, false, false, false, false, false, false, false, false, false] rfl rfl (any_of HT_.out (by kernel_rfl)) (fun _ _ _ h => h) (Or.inl ⟨by rfl, ?_⟩) ?_ ?_
            rotate_left
            ·intro w'
             go_simp
             with_reducible rfl
            rotate_left
            ·simp only [Act.put, zsa, zsz, zss, i64_w, i32_w]
             rfl
            refine pure_ (i := 6) (N := some 110) (v := ?_) (a' := ?_) #[true, true, true, true, true, false, true, false, false, false, false, false, false, false, false, false, false, false, false] rfl rfl (any_of HT_.out (by kernel_rfl)) (fun _ _ _ h => h) (Or.inl ⟨by rfl, ?_⟩) ?_ ?_
            rotate_left
            ·intro w'
             go_simp
             with_reducible rfl
            rotate_left
            ·simp only [Act.put, zsa, zsz, zss, i64_w, i32_w]
             rfl
            refine pure_ (i := 8) (N := some 112) (v := ?_) (a' := ?_) #[true, true, true, true, true, false, true, false, true, false, false, false, false, false, false, false, false, false, false] rfl rfl (any_of HT_.out (by kernel_rfl)) (fun _ _ _ h => h) (Or.inl ⟨by rfl, ?_⟩) ?_ ?_
            rotate_left
            ·intro w'
             go_simp
             with_reducible rfl
            rotate_left
            ·simp only [Act.put, zsa, zsz, zss, i64_w, i32_w]
             rfl
            refine pure_ (i := 9) (N := some 113) (v := ?_) (a' := ?_) #[true, true, true, true, true, false, true, false, true, true, false, false, false, false, false, false, false, false, false] rfl rfl (any_of HT_.out (by kernel_rfl)) (fun _ _ _ h => h) (Or.inl ⟨by rfl, ?_⟩) ?_ ?_
            rotate_left
            ·intro w'
             go_simp
             with_reducible rfl
            rotate_left
            ·simp only [Act.put, zsa, zsz, zss, i64_w, i32_w]
             rfl
            refine pure_ (i := 10) (N := some 114) (v := ?_) (a' := ?_) #[true, true, true, true, true, false, true, false, true, true, true, false, false, false, false, false, false, false, false] rfl rfl (any_of HT_.out (by kernel_rfl)) (fun _ _ _ h => h) (Or.inl ⟨by rfl, ?_⟩) ?_ ?_
            rotate_left
            ·intro w'
             go_simp
             with_reducible rfl
            rotate_left
            ·simp only [Act.put, zsa, zsz, zss, i64_w, i32_w]
             rfl
            refine pure_ (i := 11) (N := some 115) (v := ?_) (a' := ?_) #[true, true, true, true, true, false, true, false, true, true, true, true, false, false, false, false, false, false, false] rfl rfl (any_of HT_.out (by kernel_rfl)) (fun _ _ _ h => h) (Or.inl ⟨by rfl, ?_⟩) ?_ ?_
            rotate_left
            ·intro w'
             go_simp
             with_reducible rfl
            rotate_left
            ·simp only [Act.put, zsa, zsz, zss, i64_w, i32_w]
             rfl
            refine pure_ (i := 13) (N := some 117) (v := ?_) (a' := ?_) #[true, true, true, true, true, false, true, false, true, true, true, true, false, true, false, false, false, false, false] rfl rfl (any_of HT_.out (by kernel_rfl)) (fun _ _ _ h => h) (Or.inl ⟨by rfl, ?_⟩) ?_ ?_
            rotate_left
            ·intro w'
             go_simp
             with_reducible rfl
            rotate_left
            ·simp only [Act.put, zsa, zsz, zss, i64_w, i32_w]
             rfl
            refine take_ (i := 5) (N := some 109) (v := ?_) (a' := ?_) #[true, true, true, true, true, true, true, false, true, true, true, true, false, true, false, false, false, false, false] rfl rfl (take_ofW HT_.out HW_.out (by kernel_rfl)) (fun _ _ _ h => h) (Or.inl ⟨by rfl, ?_⟩) hHeld ?_ ?_
            rotate_left
            ·rintro w' ⟨s0, s1, s2, s3⟩
             go_simp
             with_reducible rfl
            rotate_left
            ·simp only [Act.put, zsa, zsz, zss, i64_w, i32_w]
             rfl
            refine pure_ (i := 7) (N := some 111) (v := ?_) (a' := ?_) #[true, true, true, true, true, true, true, true, true, true, true, true, false, true, false, false, false, false, false] rfl rfl (any_of HT_.out (by kernel_rfl)) (fun _ _ _ h => h) (Or.inl ⟨by rfl, ?_⟩) ?_ ?_
            rotate_left
            ·intro w'
             go_simp
             with_reducible rfl
            rotate_left
            ·simp only [Act.put, zsa, zsz, zss, i64_w, i32_w]
             rfl
            refine take_ (i := 12) (N := some 116) (v := ?_) (a' := ?_) #[true, true, true, true, true, true, true, true, true, true, true, true, true, true, false, false, false, false, false] rfl rfl (take_ofW HT_.out HW_.out (by kernel_rfl)) (fun _ _ _ h => h) (Or.inl ⟨by rfl, ?_⟩) hHeld ?_ ?_
            rotate_left
            ·rintro w' ⟨s0, s1, s2, s3⟩
             go_simp
             with_reducible rfl
            rotate_left
            ·simp only [Act.put, zsa, zsz, zss, i64_w, i32_w]
             rfl
            refine pure_ (i := 14) (N := some 118) (v := ?_) (a' := ?_) #[true, true, true, true, true, true, true, true, true, true, true, true, true, true, true, false, false, false, false] rfl rfl (any_of HT_.out (by kernel_rfl)) (fun _ _ _ h => h) (Or.inl ⟨by rfl, ?_⟩) ?_ ?_
            rotate_left
            ·intro w'
             go_simp
             with_reducible rfl
            rotate_left
            ·simp only [Act.put, zsa, zsz, zss, i64_w, i32_w]
             rfl
            refine pure_ (i := 15) (N := some 119) (v := ?_) (a' := ?_) #[true, true, true, true, true, true, true, true, true, true, true, true, true, true, true, true, false, false, false] rfl rfl (any_of HT_.out (by kernel_rfl)) (fun _ _ _ h => h) (Or.inl ⟨by rfl, ?_⟩) ?_ ?_
            rotate_left
            ·intro w'
             go_simp
             with_reducible rfl
            rotate_left
            ·simp only [Act.put, zsa, zsz, zss, i64_w, i32_w]
             rfl
            refine one_ (i := 16) (N := some 120) #[true, true, true, true, true, true, true, true, true, true, true, true, true, true, true, true, true, false, false] rfl rfl (one_of HT_.out (by kernel_rfl)) (by decide) (fun K hK => ?_)
            refine value_ (w1 := ?_) (v := ?_) (by rfl) rfl ?_ ?_
            rotate_left 2
            ·go_simp
             constructor
             ·rfl
             rfl
            refine hK.out _ _ ⟨(World.cell?_alloc_lt _ _ _ (zwb _ _ (((HB.out.cell (zwb w _ hw117_0)).trans hw117_0)))).trans (((HB.out.cell (zwb w _ hw117_0)).trans hw117_0)), (World.cell?_alloc_lt _ _ _ (zwb _ _ (((HB.out.cell (zwb w _ hw117_1)).trans hw117_1)))).trans (((HB.out.cell (zwb w _ hw117_1)).trans hw117_1)), (World.cell?_alloc_lt _ _ _ (zwb _ _ (((HB.out.cell (zwb w _ hw118_0)).trans hw118_0)))).trans (((HB.out.cell (zwb w _ hw118_0)).trans hw118_0)), (World.cell?_alloc_lt _ _ _ (zwb _ _ (((HB.out.cell (zwb w _ hw118_1)).trans hw118_1)))).trans (((HB.out.cell (zwb w _ hw118_1)).trans hw118_1))⟩ (fun hHeld => ?_)
            clear hK K
            refine norm_ (a' := ?_) ?_ ?_
            rotate_left
            ·show Act.put _ (some 120) _ = _
             simp only [Act.put, zsa, zsz, zss, i64_w, i32_w]
             rfl
            refine one_ (i := 17) (N := some 121) #[true, true, true, true, true, true, true, true, true, true, true, true, true, true, true, true, true, true, false] rfl rfl (one_of HT_.out (by kernel_rfl)) (by decide) (fun K hK => ?_)
            refine Kd.R_append_step k24 (w0 := w) w.heap.size (by rfl) (.tmp 104) (.tmp 120) 27 24 (.agg #[(.int .i64 0), (.int .i64 0)]) 16 rfl Try.underlying27 info24 rfl (by decide) (by omega) u15 x15_3 (⟨wrap64 (((rd_T24 l0 x16_3).f0) + (wrap64 (Int.tdiv (wrap64 (((rd_T24 l0 x16_3).f1) - ((rd_T24 l0 x16_3).f0))) 3))), wrap64 (((rd_T24 l0 x16_3).f1) - (wrap64 (Int.tdiv (wrap64 (((rd_T24 l0 x16_3).f1) - ((rd_T24 l0 x16_3).f0))) 3)))⟩ : S24) [.int .i64 (wrap64 (((rd_T24 l0 x16_3).f0) + (wrap64 (Int.tdiv (wrap64 (((rd_T24 l0 x16_3).f1) - ((rd_T24 l0 x16_3).f0))) 3)))), .int .i64 (wrap64 (((rd_T24 l0 x16_3).f1) - (wrap64 (Int.tdiv (wrap64 (((rd_T24 l0 x16_3).f1) - ((rd_T24 l0 x16_3).f0))) 3))))] (fun _ => True) (fun _ => False) rfl rfl ?aP (fun _ hk => hk.elim) ?aF ?aO ?aB ?aS ?aL ?_
            (case aP => exact k24_mkM _ _ _ (⟨wrap64 (((rd_T24 l0 x16_3).f0) + (wrap64 (Int.tdiv (wrap64 (((rd_T24 l0 x16_3).f1) - ((rd_T24 l0 x16_3).f0))) 3))), wrap64 (((rd_T24 l0 x16_3).f1) - (wrap64 (Int.tdiv (wrap64 (((rd_T24 l0 x16_3).f1) - ((rd_T24 l0 x16_3).f0))) 3)))⟩ : S24))
            (case aB => exact (by repeat (first | (with_reducible first | exact HB.out | apply zba | apply zbn | apply zb1) | exact HB.out)))
            (case aF => exact (fun _ _ => trivial))
            (case aO => exact (by (with_reducible repeat (first | apply zRa | apply zRn | apply zRd)); exact HO_15.out))
            (case aS => exact (zbz (by repeat (first | (with_reducible first | exact HB.out | apply zba | apply zbn | apply zb1) | exact HB.out))))
            (case aL => have := LMc36.out; omega)
            intro v120 w42 ho hb hg hat
            rw [← Ny119.out] at ho
            have n0_ := zam (Kd.R_over' (by (with_reducible repeat (first | apply zRa | apply zRn | apply zRd)); exact HO_11.out) (Kd.R_typed (by (with_reducible repeat (first | apply zRa | apply zRn | apply zRd)); exact HO_15.out)) (by decide) hg)
            have n1_ := zam (Kd.R_over' (by (with_reducible repeat (first | apply zRa | apply zRn | apply zRd)); exact HO_13.out) (Kd.R_typed (by (with_reducible repeat (first | apply zRa | apply zRn | apply zRd)); exact HO_15.out)) (by decide) hg)
            have n2_ := zam (hb)
            have n3_ := zam (ho)
            clear HO_11
            clear HO_13
            clear HB
            clear HO_15
            have HO_11 := n0_
            have HO_13 := n1_
            have HB := n2_
            have HO121 := n3_
            clear n0_ n1_ n2_ n3_
            clear ho hb hg hat
            refine hK.out _ _ ⟨((HB.out.cell (zwb w _ hw117_0)).trans hw117_0), ((HB.out.cell (zwb w _ hw117_1)).trans hw117_1), ((HB.out.cell (zwb w _ hw118_0)).trans hw118_0), ((HB.out.cell (zwb w _ hw118_1)).trans hw118_1)⟩ (fun hHeld => ?_)
            clear hK K
            refine norm_ (a' := ?_) ?_ ?_
            rotate_left
            ·show Act.put _ (some 121) _ = _
             simp only [Act.put, zsa, zsz, zss, i64_w, i32_w]
             rfl
            refine pure_ (i := 18) (N := some 15) (v := ?_) (a' := ?_) #[true, true, true, true, true, true, true, true, true, true, true, true, true, true, true, true, true, true, true] rfl rfl (any_of HT_.out (by kernel_rfl)) (fun _ _ _ h => h) (Or.inl ⟨by rfl, ?_⟩) ?_ ?_
            rotate_left
            ·intro w'
             go_simp
             with_reducible rfl
            rotate_left
            ·simp only [Act.put, zsa, zsz, zss, i64_w, i32_w]
             rfl
            refine done_ (done_of HT_.out (by kernel_rfl)) ?_
            try go_wp2
            go_roundg k3
            case measure => have := HJ11.out; have := HJ25.out; have := HK3.out; omega
            case rel => exact ⟨(y119), (wrap64 (x16_3 + 1)), (by first | rfl | (simp; done) | (simp [*]; done)), H', ⟨by have := HJ11.out; have := HJ25.out; have := HK3.out; omega⟩, ⟨by (with_reducible repeat (first | apply zRa | apply zRn | apply zRd)); exact HO_11.out⟩, ⟨by (with_reducible repeat (first | apply zRa | apply zRn | apply zRd)); exact HO_13.out⟩, ⟨by (with_reducible repeat (first | apply zRa | apply zRn | apply zRd)); exact HO121.out⟩, ⟨by repeat (first | (with_reducible first | exact HB.out | apply zba | apply zbn | apply zb1) | exact HB.out)⟩⟩
           rw [if_neg c36] at H
           exact absurd H (by simp)
          rw [if_neg c34] at H
          exact absurd H (by simp)
         rw [if_neg c33] at H
         exact absurd H (by simp)
        rw [if_neg c32] at H
        exact absurd H (by simp)
       rw [if_neg c31] at H
       have c31b0 : decide (x16_3 < (l0.length : Int)) = false := zdf c31
       clear c31
       replace H := Option.bind_eq_some_iff.mp H
       obtain ⟨⟨t122, t123⟩, A430, H⟩ := H
       replace H : (if t123 = 0 then (isobathlaw07_SoundLouder.j3 k3 l0 a3 a4 t102 t122 ((t122.length : Int) != (l0.length : Int))) else (none)) = some r := H
       have A43 := zam A430
       clear A430
       have HC44 := zam H
       clear H
       obtain ⟨Ao45, co45, eo45⟩ := Kd.R_slice HO_15.out
       subst eo45
       go_upto_region 18 with (first | ((with_reducible refine zgc (f := 29) rfl ?_); refine goesL_ (some 125) rfl rfl Try.func29 (by kernel_rfl) rfl #[.slice Ao45 x15_3.length co45, .int .i64 a1] rfl (by (try simp only [zmt, List.map_cons, List.map_nil]); first | done | rfl | (simp only [zld, zlt]; rfl)) ?_; (with_reducible refine (sound_Loud.calls k3 _ _ x15_3 a1 t122 t123 _ ?side1 ?side2 A43.out).mono ?_); (case side1 => repeat (first | exact (Kd.R_reads' HO_15.out).2.2 | (with_reducible refine Kd.C_alloc ?_ _) | (with_reducible refine Kd.C_drewN ?_ _) | (with_reducible refine Kd.C_drew ?_))); (case side2 => exact (Kd.R_reads' HO_15.out).2.1); rintro e w46 ⟨v124, rfl, ho0, hb⟩; refine ⟨_, rfl, ?_⟩; have n0_ := zam (Kd.R_elder' (by (with_reducible repeat (first | apply zRa | apply zRn | apply zRd)); exact HO_11.out) (Kd.R_base ho0) hb); have n1_ := zam (Kd.R_elder' (by (with_reducible repeat (first | apply zRa | apply zRn | apply zRd)); exact HO_13.out) (Kd.R_base ho0) hb); have n2_ := zam (Kd.R_below (by (with_reducible repeat (first | apply zRa | apply zRn | apply zRd)); exact HO_15.out) hb); have n3_ := zam (Kd.R_lower (Kd.R_new' (Kd.R_new' ho0 (Kd.R_lt (by (with_reducible repeat (first | apply zRa | apply zRn | apply zRd)); exact HO_11.out))) (Kd.R_lt (by (with_reducible repeat (first | apply zRa | apply zRn | apply zRd)); exact HO_13.out))) (zbz (by repeat (first | (with_reducible first | exact HB.out | apply zba | apply zbn | apply zb1) | exact HB.out)))); have n4_ := zam (zbt (by repeat (first | (with_reducible first | exact HB.out | apply zba | apply zbn | apply zb1) | exact HB.out)) hb); clear HO_11; clear HO_13; clear HO_15; clear HB; have HO_11 := n0_; have HO_13 := n1_; have HO_15 := n2_; have HO125 := n3_; have HB := n4_; clear n0_ n1_ n2_ n3_ n4_; (try clear hb); (try clear hb2); (try clear hk); (try clear hi); (try clear ho0)))
       (try simp only [Act.put, zsa, zsz, zss])
       go_cut [136] (fun v136 wc => ∃ (kq : Nat) (x136_43 : Bool), v136 = .bool x136_43 ∧ Aside0 (isobathlaw07_SoundLouder.j3 kq l0 a3 a4 t102 t122 x136_43 = some r) ∧ Aside0 (kq ≤ k3) ∧ Aside0 (Kd.R (Kd.int .i64) 50 wc w.heap.size (fun k_ => some k_ ≠ (v124 : Value).ownBlock) v104 t102) ∧ Aside0 (Kd.R (Kd.int .i64) 50 wc w.heap.size (fun k_ => some k_ ≠ (v104 : Value).ownBlock) v124 t122) ∧ Aside0 (Below w.heap.size w wc))
       case first =>
        have H := HC44.out
        clear HC44
        by_cases c47 : t123 = 0
        ·rw [if_pos c47] at H
         have c47b0 : (t123 == 0) = true := beq_iff_eq.mpr c47
         have c47b1 : (t123 != 0) = false := bne_eq_false_iff_eq.mpr c47
         clear c47
         (first | rw [c47b0] | (simp only [i64_w, i32_w]; rw [c47b0]) | skip)
         have H' := zam H
         clear H
         obtain ⟨Ao48, co48, eo48⟩ := Kd.R_slice HO125.out
         subst eo48
         go_wp2
         go_meet
         case rel => exact ⟨_, (((t122.length : Int) != (l0.length : Int))), (by first | rfl | (simp; done) | (simp [*]; done)), H', ⟨by have := HJ11.out; have := HJ25.out; have := HK3.out; first | omega | exact Nat.le_refl _⟩, ⟨by (with_reducible repeat (first | apply zRa | apply zRn | apply zRd)); exact Kd.R_mono HO_11.out (fun _ hk => hk.2)⟩, ⟨by (with_reducible repeat (first | apply zRa | apply zRn | apply zRd)); exact Kd.R_mono HO125.out (fun _ hk => hk.1.2)⟩, ⟨by repeat (first | (with_reducible first | exact HB.out | apply zba | apply zbn | apply zb1) | exact HB.out)⟩⟩
        rw [if_neg c47] at H
        exact absurd H (by simp)
       case rest =>
        clear HC44
        try clear c1
        try clear p1
        try clear q1
        try clear hx1
        try clear c2
        try clear p2
        try clear c3
        try clear c4
        try clear c6
        try clear c6b0
        try clear c6b1
        try clear p6
        try clear p11
        try clear q11
        try clear hx11
        try clear c14
        try clear c15
        try clear c15b0
        try clear c15b1
        try clear c16
        try clear c17
        try clear c17b0
        try clear c17b1
        try clear c20
        try clear c20b0
        try clear c23
        try clear c23b0
        try clear c27
        try clear c27b0
        try clear c27b1
        try clear c27b2
        try clear c29
        try clear c30
        try clear c31
        try clear c31b0
        try clear c32
        try clear c32b0
        try clear c33
        try clear c33b0
        try clear c34
        try clear c34b0
        try clear c35
        try clear c35b0
        try clear c36
        try clear c47
        try clear c47b0
        try clear c47b1
        try clear hx113_0
        try clear hx114_0
        try clear hx115_0
        try clear hx115_1
        try clear hx116_0
        try clear hx116_1
        try clear hx117_0
        try clear hx117_1
        try clear hx118_0
        try clear hx118_1
        try clear p113
        try clear p114
        try clear p115
        try clear p116
        try clear p117
        try clear p118
        try clear p2
        try clear p6
        try clear q113
        try clear q114
        try clear q115
        try clear q116
        try clear q117
        try clear q118
        obtain ⟨kq, x136_43, rfl, HA, HJ43, HO_11, HO_18, HB⟩ := hcut
        cases kq with
        | zero => exact absurd HA.out (by simp [isobathlaw07_SoundLouder.j3])
        | succ kj43 =>
         have H := HA.out
         clear HA
         simp only [isobathlaw07_SoundLouder.j3] at H
         by_cases c49 : x136_43 = true
         ·subst c49
          have H1 : (none) = some r := by rw [if_pos rfl] at H; exact H
          clear H
          have H := H1
          clear H1
          exact absurd H (by simp)
         replace c49 := Bool.eq_false_iff.mpr c49
         subst c49
         have H1 : (isobathlaw07_SoundLouder.l1 kj43 l0 a3 a4 t102 t122 0) = some r := by rw [if_neg (show ¬ (false = true) by decide)] at H; exact H
         clear H
         have H := H1
         clear H1
         have H' := zam H
         clear H
         go_wp2
         go_loopg [19] kj43 (fun kq v19 w' => ∃ (x19_5 : Int), v19 = .int .i64 x19_5 ∧ Aside0 (isobathlaw07_SoundLouder.l1 kq l0 a3 a4 t102 t122 x19_5 = some r) ∧ Aside0 (kq ≤ kj43) ∧ Aside0 (Kd.R (Kd.int .i64) 50 w' w.heap.size (fun k_ => some k_ ≠ (v124 : Value).ownBlock) v104 t102) ∧ Aside0 (Kd.R (Kd.int .i64) 50 w' w.heap.size (fun k_ => some k_ ≠ (v104 : Value).ownBlock) v124 t122) ∧ Aside0 (Below w.heap.size w w'))
         case atStart => exact ⟨(0), (by first | rfl | (simp; done) | (simp [*]; done)), H', ⟨Nat.le_refl _⟩, ⟨by (with_reducible repeat (first | apply zRa | apply zRn | apply zRd)); exact HO_11.out⟩, ⟨by (with_reducible repeat (first | apply zRa | apply zRn | apply zRd)); exact HO_18.out⟩, ⟨by repeat (first | (with_reducible first | exact HB.out | apply zba | apply zbn | apply zb1) | exact HB.out)⟩⟩
         case round =>
          clear H'
          try clear c1
          try clear p1
          try clear q1
          try clear hx1
          try clear c2
          try clear p2
          try clear c3
          try clear c4
          try clear c6
          try clear c6b0
          try clear c6b1
          try clear p6
          try clear p11
          try clear q11
          try clear hx11
          try clear c14
          try clear c15
          try clear c15b0
          try clear c15b1
          try clear c16
          try clear c17
          try clear c17b0
          try clear c17b1
          try clear c20
          try clear c20b0
          try clear c23
          try clear c23b0
          try clear c27
          try clear c27b0
          try clear c27b1
          try clear c27b2
          try clear c29
          try clear c30
          try clear c31
          try clear c31b0
          try clear c32
          try clear c32b0
          try clear c33
          try clear c33b0
          try clear c34
          try clear c34b0
          try clear c35
          try clear c35b0
          try clear c36
          try clear c47
          try clear c47b0
          try clear c47b1
          try clear c49
          try clear hx113_0
          try clear hx114_0
          try clear hx115_0
          try clear hx115_1
          try clear hx116_0
          try clear hx116_1
          try clear hx117_0
          try clear hx117_1
          try clear hx118_0
          try clear hx118_1
          try clear p1
          try clear p11
          try clear p113
          try clear p114
          try clear p115
          try clear p116
          try clear p117
          try clear p118
          try clear p2
          try clear p6
          try clear q1
          try clear q11
          try clear q113
          try clear q114
          try clear q115
          try clear q116
          try clear q117
          try clear q118
          obtain ⟨x19_5, rfl, HA, HK5, HO_11, HO_18, HB⟩ := hrel
          cases gk with
          | zero => exact absurd HA.out (by simp [isobathlaw07_SoundLouder.l1])
          | succ k5 =>
           have H := HA.out
           clear HA
           simp only [isobathlaw07_SoundLouder.l1] at H
           by_cases c50 : x19_5 < (l0.length : Int)
           ·rw [if_pos c50] at H
            have c50b0 : decide (x19_5 < (l0.length : Int)) = true := zdt c50
            clear c50
            by_cases c51 : 0 ≤ x19_5
            ·rw [if_pos c51] at H
             have c51b0 : decide (0 ≤ x19_5) = true := zdt c51
             clear c51
             by_cases c52 : x19_5 < (t102.length : Int)
             ·rw [if_pos c52] at H
              have c52b0 : decide (x19_5 < (t102.length : Int)) = true := zdt c52
              clear c52
              by_cases c53 : (rd t102 x19_5) = 1
              ·rw [if_pos c53] at H
               have c53b0 : ((rd t102 x19_5) == 1) = true := beq_iff_eq.mpr c53
               have c53b1 : ((rd t102 x19_5) != 1) = false := bne_eq_false_iff_eq.mpr c53
               clear c53
               have H' := zam H
               clear H
               try go_wp2
               have n0_ := zam (zRd HO_11.out)
               have n1_ := zam (zRd HO_18.out)
               have n2_ := zam (zb1 HB.out)
               clear HO_11
               clear HO_18
               clear HB
               have HO_11 := n0_
               have HO_18 := n1_
               have HB := n2_
               clear n0_ n1_ n2_
               obtain ⟨Ao55, co55, eo55⟩ := Kd.R_slice HO_11.out
               (first | subst eo55 | (injection eo55 with f1_ f2_ f3_; have f4_ := f1_.symm; have f5_ := f3_.symm; clear f1_ f2_ f3_; subst f4_; subst f5_))
               have p126 : 0 ≤ (x19_5 : Int) := zod (by first | (with_reducible assumption) | assumption)
               have q126 : x19_5 < (t102.length : Int) := zod (by first | (with_reducible assumption) | assumption)
               obtain ⟨ad126, e126, hx126_0⟩ := Kd.at_int (Kd.R_reads' HO_11.out).2.2 x19_5 p126 q126
               cases e126
               replace p126 := eq_true p126
               replace q126 := eq_true q126
               refine start_ (n := 16) (S := fun w' => w'.cell? (ad126.add (x19_5).toNat) = some (.int .i64 (rd t102 x19_5))) (ds := []) #[false, false, false, false, false, false, false, false, false, false, false, false, false, false, false, false] (by kernel_rfl) rfl rfl (hx126_0) (fun hHeld => ?_); refine with_tabW isobathlaw07_SoundLouder.tab23 isobathlaw07_SoundLouder.bits23 (fun HT_ HW_ => ?_)
               generalize wr.drew = w54 at HO_11 HO_18 HB hx126_0 hHeld ⊢
               refine pure_ (i := 0) (N := some 143) (v := ?_) (a' := ?_) #[true, false, false, false, false, false, false, false, false, false, false, false, false, false, false, false] rfl rfl (any_of HT_.out (by kernel_rfl)) (fun _ _ _ h => h) (Or.inl ⟨by rfl, ?_⟩) ?_ ?_
               rotate_left
               ·intro w'
                go_simp
                with_reducible rfl
               rotate_left
               ·simp only [Act.put, zsa, zsz, zss, i64_w, i32_w]
                rfl
               refine pure_ (i := 1) (N := some 144) (v := ?_) (a' := ?_) #[true, true, false, false, false, false, false, false, false, false, false, false, false, false, false, false] rfl rfl (any_of HT_.out (by kernel_rfl)) (fun _ _ _ h => h) (Or.inl ⟨by rfl, ?_⟩) ?_ ?_
               rotate_left
               ·intro w'
                go_simp
                with_reducible rfl
               rotate_left
               ·simp only [Act.put, zsa, zsz, zss, i64_w, i32_w]
                rfl
               refine pure_ (i := 2) (N := some 145) (v := ?_) (a' := ?_) #[true, true, true, false, false, false, false, false, false, false, false, false, false, false, false, false] rfl rfl (any_of HT_.out (by kernel_rfl)) (fun _ _ _ h => h) (Or.inl ⟨by rfl, ?_⟩) ?_ ?_
               rotate_left
               ·intro w'
                go_simp
                with_reducible rfl
               rotate_left
               ·simp only [Act.put, zsa, zsz, zss, i64_w, i32_w]
                rfl
               refine take_ (i := 3) (N := some 146) (v := ?_) (a' := ?_) #[true, true, true, true, false, false, false, false, false, false, false, false, false, false, false, false] rfl rfl (take_ofW HT_.out HW_.out (by kernel_rfl)) (fun _ _ _ h => h) (Or.inl ⟨by rfl, ?_⟩) hHeld ?_ ?_
               rotate_left
               ·intro w' s0
                go_simp
                with_reducible rfl
               rotate_left
               ·simp only [Act.put, zsa, zsz, zss, i64_w, i32_w]
                rfl
               refine pure_ (i := 4) (N := some 147) (v := ?_) (a' := ?_) #[true, true, true, true, true, false, false, false, false, false, false, false, false, false, false, false] rfl rfl (any_of HT_.out (by kernel_rfl)) (fun _ _ _ h => h) (Or.inl ⟨by rfl, ?_⟩) ?_ ?_
               rotate_left
               ·intro w'
                go_simp
                with_reducible rfl
               rotate_left
               ·simp only [Act.put, zsa, zsz, zss, i64_w, i32_w]
                rfl
               refine pure_ (i := 5) (N := some 148) (v := ?_) (a' := ?_) #[true, true, true, true, true, true, false, false, false, false, false, false, false, false, false, false] rfl rfl (any_of HT_.out (by kernel_rfl)) (fun _ _ _ h => h) (Or.inl ⟨by rfl, ?_⟩) ?_ ?_
               rotate_left
               ·intro w'
                go_simp
                with_reducible rfl
               rotate_left
               ·simp only [Act.put, zsa, zsz, zss, i64_w, i32_w]
                rfl
               refine pure_ (i := 6) (N := some 149) (v := undef) (a' := ?_) #[true, true, true, true, true, true, true, false, false, false, false, false, false, false, false, false] rfl rfl (any_of HT_.out (by kernel_rfl)) (fun _ _ _ h => h) (Or.inr ⟨by rfl, rfl⟩) ?_ ?_
               rotate_left
               ·simp only [Act.put, zsa, zsz, zss, i64_w, i32_w]
                rfl
               refine pure_ (i := 7) (N := some 150) (v := undef) (a' := ?_) #[true, true, true, true, true, true, true, true, false, false, false, false, false, false, false, false] rfl rfl (any_of HT_.out (by kernel_rfl)) (fun _ _ _ h => h) (Or.inr ⟨by rfl, rfl⟩) ?_ ?_
               rotate_left
               ·simp only [Act.put, zsa, zsz, zss, i64_w, i32_w]
                rfl
               refine pure_ (i := 8) (N := some 151) (v := undef) (a' := ?_) #[true, true, true, true, true, true, true, true, true, false, false, false, false, false, false, false] rfl rfl (any_of HT_.out (by kernel_rfl)) (fun _ _ _ h => h) (Or.inr ⟨by rfl, rfl⟩) ?_ ?_
               rotate_left
               ·simp only [Act.put, zsa, zsz, zss, i64_w, i32_w]
                rfl
               refine pure_ (i := 9) (N := some 152) (v := undef) (a' := ?_) #[true, true, true, true, true, true, true, true, true, true, false, false, false, false, false, false] rfl rfl (any_of HT_.out (by kernel_rfl)) (fun _ _ _ h => h) (Or.inr ⟨by rfl, rfl⟩) ?_ ?_
               rotate_left
               ·simp only [Act.put, zsa, zsz, zss, i64_w, i32_w]
                rfl
               refine pure_ (i := 10) (N := some 153) (v := undef) (a' := ?_) #[true, true, true, true, true, true, true, true, true, true, true, false, false, false, false, false] rfl rfl (any_of HT_.out (by kernel_rfl)) (fun _ _ _ h => h) (Or.inr ⟨by rfl, rfl⟩) ?_ ?_
               rotate_left
               ·simp only [Act.put, zsa, zsz, zss, i64_w, i32_w]
                rfl
               refine pure_ (i := 11) (N := some 154) (v := undef) (a' := ?_) #[true, true, true, true, true, true, true, true, true, true, true, true, false, false, false, false] rfl rfl (any_of HT_.out (by kernel_rfl)) (fun _ _ _ h => h) (Or.inr ⟨by rfl, rfl⟩) ?_ ?_
               rotate_left
               ·simp only [Act.put, zsa, zsz, zss, i64_w, i32_w]
                rfl
               refine pure_ (i := 12) (N := some 155) (v := undef) (a' := ?_) #[true, true, true, true, true, true, true, true, true, true, true, true, true, false, false, false] rfl rfl (any_of HT_.out (by kernel_rfl)) (fun _ _ _ h => h) (Or.inr ⟨by rfl, rfl⟩) ?_ ?_
               rotate_left
               ·simp only [Act.put, zsa, zsz, zss, i64_w, i32_w]
                rfl
               refine pure_ (i := 13) (N := some 156) (v := undef) (a' := ?_) #[true, true, true, true, true, true, true, true, true, true, true, true, true, true, false, false] rfl rfl (any_of HT_.out (by kernel_rfl)) (fun _ _ _ h => h) (Or.inr ⟨by rfl, rfl⟩) ?_ ?_
               rotate_left
               ·simp only [Act.put, zsa, zsz, zss, i64_w, i32_w]
                rfl
               refine pure_ (i := 14) (N := some 157) (v := undef) (a' := ?_) #[true, true, true, true, true, true, true, true, true, true, true, true, true, true, true, false] rfl rfl (any_of HT_.out (by kernel_rfl)) (fun _ _ _ h => h) (Or.inr ⟨by rfl, rfl⟩) ?_ ?_
               rotate_left
               ·simp only [Act.put, zsa, zsz, zss, i64_w, i32_w]
                rfl
               refine pure_ (i := 15) (N := some 158) (v := ?_) (a' := ?_) #[true, true, true, true, true, true, true, true, true, true, true, true, true, true, true, true] rfl rfl (any_of HT_.out (by kernel_rfl)) (fun _ _ _ h => h) (Or.inl ⟨by rfl, ?_⟩) ?_ ?_
               rotate_left
               ·intro w'
                go_simp
                with_reducible rfl
               rotate_left
               ·simp only [Act.put, zsa, zsz, zss, i64_w, i32_w]
                rfl
               refine done_ (done_of HT_.out (by kernel_rfl)) ?_
               try go_wp2
               go_roundg k5
               case measure => have := HJ11.out; have := HJ25.out; have := HK3.out; have := HJ43.out; have := HK5.out; omega
               case rel => exact ⟨(wrap64 (x19_5 + 1)), (by first | rfl | (simp; done) | (simp [*]; done)), H', ⟨by have := HJ11.out; have := HJ25.out; have := HK3.out; have := HJ43.out; have := HK5.out; omega⟩, ⟨by (with_reducible repeat (first | apply zRa | apply zRn | apply zRd)); exact HO_11.out⟩, ⟨by (with_reducible repeat (first | apply zRa | apply zRn | apply zRd)); exact HO_18.out⟩, ⟨by repeat (first | (with_reducible first | exact HB.out | apply zba | apply zbn | apply zb1) | exact HB.out)⟩⟩
              rw [if_neg c53] at H
              have c53b0 : ((rd t102 x19_5) == 1) = false := beq_eq_false_iff_ne.mpr c53
              have c53b1 : ((rd t102 x19_5) != 1) = true := bne_iff_ne.mpr c53
              by_cases c56 : x19_5 < (t122.length : Int)
              ·rw [if_pos c56] at H
               have c56b0 : decide (x19_5 < (t122.length : Int)) = true := zdt c56
               clear c56
               by_cases c57 : (rd t122 x19_5) = (rd t102 x19_5)
               ·rw [if_pos c57] at H
                have c57b0 : ((rd t122 x19_5) == (rd t102 x19_5)) = true := beq_iff_eq.mpr c57
                have c57b1 : ((rd t122 x19_5) != (rd t102 x19_5)) = false := bne_eq_false_iff_eq.mpr c57
                clear c57
                have H' := zam H
                clear H
                try go_wp2
                have n0_ := zam (zRd HO_11.out)
                have n1_ := zam (zRd HO_18.out)
                have n2_ := zam (zb1 HB.out)
                clear HO_11
                clear HO_18
                clear HB
                have HO_11 := n0_
                have HO_18 := n1_
                have HB := n2_
                clear n0_ n1_ n2_
                obtain ⟨Ao59, co59, eo59⟩ := Kd.R_slice HO_11.out
                (first | subst eo59 | (injection eo59 with f1_ f2_ f3_; have f4_ := f1_.symm; have f5_ := f3_.symm; clear f1_ f2_ f3_; subst f4_; subst f5_))
                have p126 : 0 ≤ (x19_5 : Int) := zod (by first | (with_reducible assumption) | assumption)
                have q126 : x19_5 < (t102.length : Int) := zod (by first | (with_reducible assumption) | assumption)
                obtain ⟨ad126, e126, hx126_0⟩ := Kd.at_int (Kd.R_reads' HO_11.out).2.2 x19_5 p126 q126
                cases e126
                replace p126 := eq_true p126
                replace q126 := eq_true q126
                obtain ⟨Ao60, co60, eo60⟩ := Kd.R_slice HO_18.out
                (first | subst eo60 | (injection eo60 with f1_ f2_ f3_; have f4_ := f1_.symm; have f5_ := f3_.symm; clear f1_ f2_ f3_; subst f4_; subst f5_))
                have p127 : 0 ≤ (x19_5 : Int) := zod (by first | (with_reducible assumption) | assumption)
                have q127 : x19_5 < (t122.length : Int) := zod (by first | (with_reducible assumption) | assumption)
                obtain ⟨ad127, e127, hx127_0⟩ := Kd.at_int (Kd.R_reads' HO_18.out).2.2 x19_5 p127 q127
                cases e127
                replace p127 := eq_true p127
                replace q127 := eq_true q127
                have p128 : 0 ≤ (x19_5 : Int) := zod (by first | (with_reducible assumption) | assumption)
                have q128 : x19_5 < (t102.length : Int) := zod (by first | (with_reducible assumption) | assumption)
                obtain ⟨ad128, e128, hx128_0⟩ := Kd.at_int (Kd.R_reads' HO_11.out).2.2 x19_5 p128 q128
                obtain rfl : ad126 = ad128 := (by injection e128)
                replace p128 := eq_true p128
                replace q128 := eq_true q128
                refine start_ (n := 16) (S := fun w' => w'.cell? (ad126.add (x19_5).toNat) = some (.int .i64 (rd t102 x19_5)) ∧ w'.cell? (ad127.add (x19_5).toNat) = some (.int .i64 (rd t122 x19_5)) ∧ w'.cell? (ad126.add (x19_5).toNat) = some (.int .i64 (rd t102 x19_5))) (ds := []) #[false, false, false, false, false, false, false, false, false, false, false, false, false, false, false, false] (by kernel_rfl) rfl rfl ⟨hx126_0, hx127_0, hx128_0⟩ (fun hHeld => ?_); refine with_tabW isobathlaw07_SoundLouder.tab23 isobathlaw07_SoundLouder.bits23 (fun HT_ HW_ => ?_)
                generalize wr.drew = w58 at HO_11 HO_18 HB hx126_0 hx127_0 hx128_0 hHeld ⊢
                refine pure_ (i := 0) (N := some 143) (v := ?_) (a' := ?_) #[true, false, false, false, false, false, false, false, false, false, false, false, false, false, false, false] rfl rfl (any_of HT_.out (by kernel_rfl)) (fun _ _ _ h => h) (Or.inl ⟨by rfl, ?_⟩) ?_ ?_
                rotate_left
                ·intro w'
                 go_simp
                 with_reducible rfl
                rotate_left
                ·simp only [Act.put, zsa, zsz, zss, i64_w, i32_w]
                 rfl
                refine pure_ (i := 1) (N := some 144) (v := ?_) (a' := ?_) #[true, true, false, false, false, false, false, false, false, false, false, false, false, false, false, false] rfl rfl (any_of HT_.out (by kernel_rfl)) (fun _ _ _ h => h) (Or.inl ⟨by rfl, ?_⟩) ?_ ?_
                rotate_left
                ·intro w'
                 go_simp
                 with_reducible rfl
                rotate_left
                ·simp only [Act.put, zsa, zsz, zss, i64_w, i32_w]
                 rfl
                refine pure_ (i := 2) (N := some 145) (v := ?_) (a' := ?_) #[true, true, true, false, false, false, false, false, false, false, false, false, false, false, false, false] rfl rfl (any_of HT_.out (by kernel_rfl)) (fun _ _ _ h => h) (Or.inl ⟨by rfl, ?_⟩) ?_ ?_
                rotate_left
                ·intro w'
                 go_simp
                 with_reducible rfl
                rotate_left
                ·simp only [Act.put, zsa, zsz, zss, i64_w, i32_w]
                 rfl
                refine take_ (i := 3) (N := some 146) (v := ?_) (a' := ?_) #[true, true, true, true, false, false, false, false, false, false, false, false, false, false, false, false] rfl rfl (take_ofW HT_.out HW_.out (by kernel_rfl)) (fun _ _ _ h => h) (Or.inl ⟨by rfl, ?_⟩) hHeld ?_ ?_
                rotate_left
                ·rintro w' ⟨s0, s1, s2⟩
                 go_simp
                 with_reducible rfl
                rotate_left
                ·simp only [Act.put, zsa, zsz, zss, i64_w, i32_w]
                 rfl
                refine pure_ (i := 4) (N := some 147) (v := ?_) (a' := ?_) #[true, true, true, true, true, false, false, false, false, false, false, false, false, false, false, false] rfl rfl (any_of HT_.out (by kernel_rfl)) (fun _ _ _ h => h) (Or.inl ⟨by rfl, ?_⟩) ?_ ?_
                rotate_left
                ·intro w'
                 go_simp
                 with_reducible rfl
                rotate_left
                ·simp only [Act.put, zsa, zsz, zss, i64_w, i32_w]
                 rfl
                refine pure_ (i := 5) (N := some 148) (v := ?_) (a' := ?_) #[true, true, true, true, true, true, false, false, false, false, false, false, false, false, false, false] rfl rfl (any_of HT_.out (by kernel_rfl)) (fun _ _ _ h => h) (Or.inl ⟨by rfl, ?_⟩) ?_ ?_
                rotate_left
                ·intro w'
                 go_simp
                 with_reducible rfl
                rotate_left
                ·simp only [Act.put, zsa, zsz, zss, i64_w, i32_w]
                 rfl
                refine pure_ (i := 6) (N := some 149) (v := ?_) (a' := ?_) #[true, true, true, true, true, true, true, false, false, false, false, false, false, false, false, false] rfl rfl (any_of HT_.out (by kernel_rfl)) (fun _ _ _ h => h) (Or.inl ⟨by rfl, ?_⟩) ?_ ?_
                rotate_left
                ·intro w'
                 go_simp
                 with_reducible rfl
                rotate_left
                ·simp only [Act.put, zsa, zsz, zss, i64_w, i32_w]
                 rfl
                refine pure_ (i := 7) (N := some 150) (v := ?_) (a' := ?_) #[true, true, true, true, true, true, true, true, false, false, false, false, false, false, false, false] rfl rfl (any_of HT_.out (by kernel_rfl)) (fun _ _ _ h => h) (Or.inl ⟨by rfl, ?_⟩) ?_ ?_
                rotate_left
                ·intro w'
                 go_simp
                 with_reducible rfl
                rotate_left
                ·simp only [Act.put, zsa, zsz, zss, i64_w, i32_w]
                 rfl
                refine pure_ (i := 8) (N := some 151) (v := ?_) (a' := ?_) #[true, true, true, true, true, true, true, true, true, false, false, false, false, false, false, false] rfl rfl (any_of HT_.out (by kernel_rfl)) (fun _ _ _ h => h) (Or.inl ⟨by rfl, ?_⟩) ?_ ?_
                rotate_left
                ·intro w'
                 go_simp
                 with_reducible rfl
                rotate_left
                ·simp only [Act.put, zsa, zsz, zss, i64_w, i32_w]
                 rfl
                refine pure_ (i := 10) (N := some 153) (v := ?_) (a' := ?_) #[true, true, true, true, true, true, true, true, true, false, true, false, false, false, false, false] rfl rfl (any_of HT_.out (by kernel_rfl)) (fun _ _ _ h => h) (Or.inl ⟨by rfl, ?_⟩) ?_ ?_
                rotate_left
                ·intro w'
                 go_simp
                 with_reducible rfl
                rotate_left
                ·simp only [Act.put, zsa, zsz, zss, i64_w, i32_w]
                 rfl
                refine pure_ (i := 11) (N := some 154) (v := ?_) (a' := ?_) #[true, true, true, true, true, true, true, true, true, false, true, true, false, false, false, false] rfl rfl (any_of HT_.out (by kernel_rfl)) (fun _ _ _ h => h) (Or.inl ⟨by rfl, ?_⟩) ?_ ?_
                rotate_left
                ·intro w'
                 go_simp
                 with_reducible rfl
                rotate_left
                ·simp only [Act.put, zsa, zsz, zss, i64_w, i32_w]
                 rfl
                refine pure_ (i := 12) (N := some 155) (v := ?_) (a' := ?_) #[true, true, true, true, true, true, true, true, true, false, true, true, true, false, false, false] rfl rfl (any_of HT_.out (by kernel_rfl)) (fun _ _ _ h => h) (Or.inl ⟨by rfl, ?_⟩) ?_ ?_
                rotate_left
                ·intro w'
                 go_simp
                 with_reducible rfl
                rotate_left
                ·simp only [Act.put, zsa, zsz, zss, i64_w, i32_w]
                 rfl
                refine take_ (i := 9) (N := some 152) (v := ?_) (a' := ?_) #[true, true, true, true, true, true, true, true, true, true, true, true, true, false, false, false] rfl rfl (take_ofW HT_.out HW_.out (by kernel_rfl)) (fun _ _ _ h => h) (Or.inl ⟨by rfl, ?_⟩) hHeld ?_ ?_
                rotate_left
                ·rintro w' ⟨s0, s1, s2⟩
                 go_simp
                 with_reducible rfl
                rotate_left
                ·simp only [Act.put, zsa, zsz, zss, i64_w, i32_w]
                 rfl
                refine take_ (i := 13) (N := some 156) (v := ?_) (a' := ?_) #[true, true, true, true, true, true, true, true, true, true, true, true, true, true, false, false] rfl rfl (take_ofW HT_.out HW_.out (by kernel_rfl)) (fun _ _ _ h => h) (Or.inl ⟨by rfl, ?_⟩) hHeld ?_ ?_
                rotate_left
                ·rintro w' ⟨s0, s1, s2⟩
                 go_simp
                 with_reducible rfl
                rotate_left
                ·simp only [Act.put, zsa, zsz, zss, i64_w, i32_w]
                 rfl
                refine pure_ (i := 14) (N := some 157) (v := ?_) (a' := ?_) #[true, true, true, true, true, true, true, true, true, true, true, true, true, true, true, false] rfl rfl (any_of HT_.out (by kernel_rfl)) (fun _ _ _ h => h) (Or.inl ⟨by rfl, ?_⟩) ?_ ?_
                rotate_left
                ·intro w'
                 go_simp
                 with_reducible rfl
                rotate_left
                ·simp only [Act.put, zsa, zsz, zss, i64_w, i32_w]
                 rfl
                refine pure_ (i := 15) (N := some 158) (v := ?_) (a' := ?_) #[true, true, true, true, true, true, true, true, true, true, true, true, true, true, true, true] rfl rfl (any_of HT_.out (by kernel_rfl)) (fun _ _ _ h => h) (Or.inl ⟨by rfl, ?_⟩) ?_ ?_
                rotate_left
                ·intro w'
                 go_simp
                 with_reducible rfl
                rotate_left
                ·simp only [Act.put, zsa, zsz, zss, i64_w, i32_w]
                 rfl
                refine done_ (done_of HT_.out (by kernel_rfl)) ?_
                try go_wp2
                go_roundg k5
                case measure => have := HJ11.out; have := HJ25.out; have := HK3.out; have := HJ43.out; have := HK5.out; omega
                case rel => exact ⟨(wrap64 (x19_5 + 1)), (by first | rfl | (simp; done) | (simp [*]; done)), H', ⟨by have := HJ11.out; have := HJ25.out; have := HK3.out; have := HJ43.out; have := HK5.out; omega⟩, ⟨by (with_reducible repeat (first | apply zRa | apply zRn | apply zRd)); exact HO_11.out⟩, ⟨by (with_reducible repeat (first | apply zRa | apply zRn | apply zRd)); exact HO_18.out⟩, ⟨by repeat (first | (with_reducible first | exact HB.out | apply zba | apply zbn | apply zb1) | exact HB.out)⟩⟩
               rw [if_neg c57] at H
               exact absurd H (by simp)
              rw [if_neg c56] at H
              exact absurd H (by simp)
             rw [if_neg c52] at H
             exact absurd H (by simp)
            rw [if_neg c51] at H
            exact absurd H (by simp)
           rw [if_neg c50] at H
           have c50b0 : decide (x19_5 < (l0.length : Int)) = false := zdf c50
           clear c50
           replace H := Option.bind_eq_some_iff.mp H
           obtain ⟨⟨t129, t130, t131⟩, A610, H⟩ := H
           replace H : ((sound_Count.f k5 t102 (mn 256 (wrap64 ((wrap64 (1 + (Int.tmod (wrap64 (a3)) 200))) + (wrap64 (a4)))))).bind fun bt133 => ((sound_Count.f k5 t122 (wrap64 (1 + (Int.tmod (wrap64 (a3)) 200)))).bind fun bt137 => (if t131 = 0 then (if bt133.2.2 = 0 then (if bt137.2.2 = 0 then (if bt133.1 ≤ t129 then (if bt133.2.1 ≤ t130 then (if t129 ≤ bt137.1 then (if bt137.2.1 ≤ t130 then ((isobathlaw07_Works.f k5).bind fun t141 => (some t141)) else (none)) else (none)) else (none)) else (none)) else (none)) else (none)) else (none)))) = some r := H
           have A61 := zam A610
           clear A610
           obtain ⟨ji62, hji62⟩ : ∃ j_ : Int, (mn 256 (wrap64 ((wrap64 (1 + (Int.tmod (wrap64 (a3)) 200))) + (wrap64 (a4))))) = j_ := ⟨_, rfl⟩
           replace H : ((sound_Count.f k5 t102 (ji62)).bind fun bt133 => ((sound_Count.f k5 t122 (wrap64 (1 + (Int.tmod (wrap64 (a3)) 200)))).bind fun bt137 => (if t131 = 0 then (if bt133.2.2 = 0 then (if bt137.2.2 = 0 then (if bt133.1 ≤ t129 then (if bt133.2.1 ≤ t130 then (if t129 ≤ bt137.1 then (if bt137.2.1 ≤ t130 then ((isobathlaw07_Works.f k5).bind fun t141 => (some t141)) else (none)) else (none)) else (none)) else (none)) else (none)) else (none)) else (none)))) = some r := by first | (rw [hji62] at H; exact H) | (simp only [hji62] at H ⊢; exact H)
           (try rw [hji62] at A61)
           have hji62_ : (if (wrap64 ((wrap64 (1 + (Int.tmod (wrap64 (a3)) 200))) + (wrap64 (a4)))) < 256 then (wrap64 ((wrap64 (1 + (Int.tmod (wrap64 (a3)) 200))) + (wrap64 (a4)))) else 256) = ji62 := hji62
           replace H := Option.bind_eq_some_iff.mp H
           obtain ⟨⟨t133, t134, t135⟩, A630, H⟩ := H
           replace H : ((sound_Count.f k5 t122 (wrap64 (1 + (Int.tmod (wrap64 (a3)) 200)))).bind fun bt137 => (if t131 = 0 then (if t135 = 0 then (if bt137.2.2 = 0 then (if t133 ≤ t129 then (if t134 ≤ t130 then (if t129 ≤ bt137.1 then (if bt137.2.1 ≤ t130 then ((isobathlaw07_Works.f k5).bind fun t141 => (some t141)) else (none)) else (none)) else (none)) else (none)) else (none)) else (none)) else (none))) = some r := H
           have A63 := zam A630
           clear A630
           replace H := Option.bind_eq_some_iff.mp H
           obtain ⟨⟨t137, t138, t139⟩, A640, H⟩ := H
           replace H : (if t131 = 0 then (if t135 = 0 then (if t139 = 0 then (if t133 ≤ t129 then (if t134 ≤ t130 then (if t129 ≤ t137 then (if t138 ≤ t130 then ((isobathlaw07_Works.f k5).bind fun t141 => (some t141)) else (none)) else (none)) else (none)) else (none)) else (none)) else (none)) else (none)) = some r := H
           have A64 := zam A640
           clear A640
           by_cases c65 : t131 = 0
           ·rw [if_pos c65] at H
            have c65b0 : (t131 == 0) = true := beq_iff_eq.mpr c65
            have c65b1 : (t131 != 0) = false := bne_eq_false_iff_eq.mpr c65
            clear c65
            by_cases c66 : t135 = 0
            ·rw [if_pos c66] at H
             have c66b0 : (t135 == 0) = true := beq_iff_eq.mpr c66
             have c66b1 : (t135 != 0) = false := bne_eq_false_iff_eq.mpr c66
             clear c66
             by_cases c67 : t139 = 0
             ·rw [if_pos c67] at H
              have c67b0 : (t139 == 0) = true := beq_iff_eq.mpr c67
              have c67b1 : (t139 != 0) = false := bne_eq_false_iff_eq.mpr c67
              clear c67
              by_cases c68 : t133 ≤ t129
              ·rw [if_pos c68] at H
               have c68b0 : decide (t133 ≤ t129) = true := zdt c68
               clear c68
               by_cases c69 : t134 ≤ t130
               ·rw [if_pos c69] at H
                have c69b0 : decide (t134 ≤ t130) = true := zdt c69
                clear c69
                by_cases c70 : t129 ≤ t137
                ·rw [if_pos c70] at H
                 have c70b0 : decide (t129 ≤ t137) = true := zdt c70
                 clear c70
                 by_cases c71 : t138 ≤ t130
                 ·rw [if_pos c71] at H
                  have c71b0 : decide (t138 ≤ t130) = true := zdt c71
                  clear c71
                  replace H := Option.bind_eq_some_iff.mp H
                  obtain ⟨t141, A720, H⟩ := H
                  replace H : (some t141) = some r := H
                  have A72 := zam A720
                  clear A720
                  obtain rfl := zsi H
                  obtain ⟨Ao73, co73, eo73⟩ := Kd.R_slice HO_11.out
                  subst eo73
                  go_wp2_with (first | ((with_reducible refine zgc (f := 30) rfl ?_); refine goesL_ (some 166) rfl rfl Try.func30 (by kernel_rfl) rfl #[.slice Ao73 t102.length co73, .int .i64 (wrap64 (1 + (Int.tmod (wrap64 (a3)) 200)))] rfl (by (try simp only [zmt, List.map_cons, List.map_nil]); first | done | rfl | (simp only [zld, zlt]; rfl)) ?_; (with_reducible refine (sound_Count.calls k5 _ _ t102 (wrap64 (1 + (Int.tmod (wrap64 (a3)) 200))) t129 t130 t131 _ ?side1 ?side2 A61.out).mono ?_); (case side1 => repeat (first | exact (Kd.R_reads' HO_11.out).2.2 | (with_reducible refine Kd.C_alloc ?_ _) | (with_reducible refine Kd.C_drewN ?_ _) | (with_reducible refine Kd.C_drew ?_))); (case side2 => exact (Kd.R_reads' HO_11.out).2.1); rintro e w74 ⟨rfl, hb⟩; refine ⟨_, rfl, ?_⟩; have n0_ := zam (Kd.R_below (by (with_reducible repeat (first | apply zRa | apply zRn | apply zRd)); exact HO_11.out) hb); have n1_ := zam (Kd.R_below (by (with_reducible repeat (first | apply zRa | apply zRn | apply zRd)); exact HO_18.out) hb); have n2_ := zam (zbt (by repeat (first | (with_reducible first | exact HB.out | apply zba | apply zbn | apply zb1) | exact HB.out)) hb); clear HO_11; clear HO_18; clear HB; have HO_11 := n0_; have HO_18 := n1_; have HB := n2_; clear n0_ n1_ n2_; (try clear hb); (try clear hb2); (try clear hk); (try clear hi)) | ((with_reducible refine zgd (N := 21) rfl ?_); (try (refine gate_guard (by rfl) ?_; dsimp only)); refine box_event ?hg (N := 21) ?hd (cs := #[.int .i64 0, .int .i64 0]) (t := 24) ?hr ?_; (case hd => rfl); (case hg => rfl); (case hr => first | (go_simp; done) | (go_simp; rfl)); intro gb132 hg w75 hbox hb; have n0_ := zam (Kd.R_below (by (with_reducible repeat (first | apply zRa | apply zRn | apply zRd)); exact HO_11.out) hb); have n1_ := zam (Kd.R_below (by (with_reducible repeat (first | apply zRa | apply zRn | apply zRd)); exact HO_18.out) hb); have n2_ := zam (zbt (by repeat (first | (with_reducible first | exact HB.out | apply zba | apply zbn | apply zb1) | exact HB.out)) hb); have n3_ := zam (hbox); have n4_ := zam ((by rw [hg]; exact (zbz (by repeat (first | (with_reducible first | exact HB.out | apply zba | apply zbn | apply zb1) | exact HB.out))) : w.heap.size ≤ gb132)); have n5_ := zam ((by rw [hg]; exact (zbz (by repeat (first | (with_reducible first | exact HB.out | apply zba | apply zbn | apply zb1) | exact HB.out))) : w.heap.size ≤ gb132)); clear HO_11; clear HO_18; clear HB; have HO_11 := n0_; have HO_18 := n1_; have HB := n2_; have BK132 := n3_; have GW132 := n4_; have GE132 := n5_; clear n0_ n1_ n2_ n3_ n4_ n5_; clear hb hbox hg; have hcz76_0 : w75.cell? ⟨gb132, 0, none⟩ = some (.int .i64 0) := (zkc BK132.out 0).trans rfl; have hcz76_1 : w75.cell? ⟨gb132, 1, none⟩ = some (.int .i64 0) := (zkc BK132.out 1).trans rfl; have hfz76_0 := zkz BK132.out 0; have hfz76_1 := zkz BK132.out 1) | ((with_reducible refine zgc (f := 30) rfl ?_); refine goesL_ (some 176) rfl rfl Try.func30 (by kernel_rfl) rfl #[.slice Ao73 t102.length co73, .int .i64 ji62] rfl (by (try simp only [zmt, List.map_cons, List.map_nil]); first | done | (simp only [hji62]; rfl) | rfl | (simp only [zld, zlt]; rfl)) ?_; (with_reducible refine (sound_Count.calls k5 _ _ t102 ji62 t133 t134 t135 _ ?side1 ?side2 A63.out).mono ?_); (case side1 => refine (Kd.R_reads' (e := 50) (base := w.heap.size) (ok := fun k_ => some k_ ≠ (v124 : Value).ownBlock) (n := t102.length) (c := co73) ?_).2.2; exact (by (with_reducible repeat (first | apply zRa | apply zRn | apply zRd)); exact (Kd.R_mono (Kd.R_far (p := ⟨gb132, 1, none⟩) (Kd.R_far (p := ⟨gb132, 0, none⟩) (Kd.R_types HO_11.out BK132.out (by decide)) (fun _ hk => hk.2) (.int .i64 t129)) (fun _ hk => hk.2) (.int .i64 t130)) (fun _ h_ => h_.1)))); (case side2 => exact (Kd.R_reads' HO_11.out).2.1); rintro e w77 ⟨rfl, hb⟩; refine ⟨_, rfl, ?_⟩; have n0_ := zam (Kd.R_below (by (with_reducible repeat (first | apply zRa | apply zRn | apply zRd)); exact (Kd.R_mono (Kd.R_far (p := ⟨gb132, 1, none⟩) (Kd.R_far (p := ⟨gb132, 0, none⟩) (Kd.R_types HO_11.out BK132.out (by decide)) (fun _ hk => hk.2) (.int .i64 t129)) (fun _ hk => hk.2) (.int .i64 t130)) (fun _ h_ => h_.1))) hb); have n1_ := zam (Kd.R_below (by (with_reducible repeat (first | apply zRa | apply zRn | apply zRd)); exact (Kd.R_mono (Kd.R_far (p := ⟨gb132, 1, none⟩) (Kd.R_far (p := ⟨gb132, 0, none⟩) (Kd.R_types HO_18.out BK132.out (by decide)) (fun _ hk => hk.2) (.int .i64 t129)) (fun _ hk => hk.2) (.int .i64 t130)) (fun _ h_ => h_.1))) hb); have n2_ := zam (zkb (g := gb132) (o := .cells #[.int .i64 t129, .int .i64 t130] 24 (0, 0)) (by (with_reducible repeat (first | refine zkn ?_ _ | refine zkd ?_ | refine zka ?_ _)); refine blk_put (cs := #[.int .i64 t129, .int .i64 0]) ?_ 1 _ rfl; (with_reducible repeat (first | refine zkn ?_ _ | refine zkd ?_ | refine zka ?_ _)); refine blk_put (cs := #[.int .i64 0, .int .i64 0]) ?_ 0 _ rfl; (with_reducible repeat (first | refine zkn ?_ _ | refine zkd ?_ | refine zka ?_ _)); exact BK132.out) hb); have n3_ := zam (zbt (by repeat (first | (with_reducible first | exact HB.out | apply zba | apply zbn | apply zb1 | refine zbs ?_ GE132.out) | exact HB.out)) hb); clear HO_11; clear HO_18; clear BK132; clear HB; have HO_11 := n0_; have HO_18 := n1_; have BK132 := n2_; have HB := n3_; clear n0_ n1_ n2_ n3_; (try clear hb); (try clear hb2); (try clear hk); (try clear hi)) | ((with_reducible refine zgd (N := 22) rfl ?_); (try (refine gate_guard (by rfl) ?_; dsimp only)); refine box_event ?hg (N := 22) ?hd (cs := #[.int .i64 0, .int .i64 0]) (t := 24) ?hr ?_; (case hd => rfl); (case hg => rfl); (case hr => first | (go_simp; done) | (go_simp; rfl)); intro gb136 hg w78 hbox hb; have n0_ := zam (Kd.R_below (by (with_reducible repeat (first | apply zRa | apply zRn | apply zRd)); exact HO_11.out) hb); have n1_ := zam (Kd.R_below (by (with_reducible repeat (first | apply zRa | apply zRn | apply zRd)); exact HO_18.out) hb); have n2_ := zam (zkb (g := gb132) (o := .cells #[.int .i64 t129, .int .i64 t130] 24 (0, 0)) (by (with_reducible repeat (first | refine zkn ?_ _ | refine zkd ?_ | refine zka ?_ _)); exact BK132.out) hb); have n3_ := zam (zbt (by repeat (first | (with_reducible first | exact HB.out | apply zba | apply zbn | apply zb1 | refine zbs ?_ GE132.out) | exact HB.out)) hb); have n4_ := zam (hbox); have n5_ := zam ((by rw [hg]; exact (zbz (by repeat (first | (with_reducible first | exact HB.out | apply zba | apply zbn | apply zb1 | refine zbs ?_ GE132.out) | exact HB.out))) : w.heap.size ≤ gb136)); have n6_ := zam ((by rw [hg]; exact (zbz (by repeat (first | (with_reducible first | exact HB.out | apply zba | apply zbn | apply zb1 | refine zbs ?_ GE132.out) | exact HB.out))) : w.heap.size ≤ gb136)); have n7_ := zam ((by rw [hg]; exact Nat.ne_of_lt (blk_lt (g := gb132) (o := .cells #[.int .i64 t129, .int .i64 t130] 24 (0, 0)) (by (with_reducible repeat (first | refine zkn ?_ _ | refine zkd ?_ | refine zka ?_ _)); exact BK132.out)) : gb132 ≠ gb136)); have n8_ := zam ((by rw [hg]; exact Nat.ne_of_gt (blk_lt (g := gb132) (o := .cells #[.int .i64 t129, .int .i64 t130] 24 (0, 0)) (by (with_reducible repeat (first | refine zkn ?_ _ | refine zkd ?_ | refine zka ?_ _)); exact BK132.out)) : gb136 ≠ gb132)); clear HO_11; clear HO_18; clear BK132; clear HB; have HO_11 := n0_; have HO_18 := n1_; have BK132 := n2_; have HB := n3_; have BK136 := n4_; have GW136 := n5_; have GE136 := n6_; have NB132_136 := n7_; have NB136_132 := n8_; clear n0_ n1_ n2_ n3_ n4_ n5_ n6_ n7_ n8_; clear hb hbox hg; have hnb79 := NB136_132.out; have hnc79 := NB132_136.out; have hcz80_0 : w78.cell? ⟨gb136, 0, none⟩ = some (.int .i64 0) := (zkc BK136.out 0).trans rfl; have hcz80_1 : w78.cell? ⟨gb136, 1, none⟩ = some (.int .i64 0) := (zkc BK136.out 1).trans rfl; have hfz80_0 := zkz BK136.out 0; have hfz80_1 := zkz BK136.out 1; obtain ⟨Ao81, co81, eo81⟩ := Kd.R_slice HO_18.out; subst eo81) | ((with_reducible refine zgc (f := 30) rfl ?_); refine goesL_ (some 182) rfl rfl Try.func30 (by kernel_rfl) rfl #[.slice Ao81 t122.length co81, .int .i64 (wrap64 (1 + (Int.tmod (wrap64 (a3)) 200)))] rfl (by (try simp only [zmt, List.map_cons, List.map_nil]); first | done | rfl | (simp only [zld, zlt]; rfl)) ?_; (with_reducible refine (sound_Count.calls k5 _ _ t122 (wrap64 (1 + (Int.tmod (wrap64 (a3)) 200))) t137 t138 t139 _ ?side1 ?side2 A64.out).mono ?_); (case side1 => refine (Kd.R_reads' (e := 50) (base := w.heap.size) (ok := fun k_ => some k_ ≠ (.slice Ao73 t102.length co73 : Value).ownBlock) (n := t122.length) (c := co81) ?_).2.2; exact (by (with_reducible repeat (first | apply zRa | apply zRn | apply zRd)); exact (Kd.R_mono (Kd.R_far (p := ⟨gb136, 1, none⟩) (Kd.R_far (p := ⟨gb136, 0, none⟩) (Kd.R_types HO_18.out BK136.out (by decide)) (fun _ hk => hk.2) (.int .i64 t133)) (fun _ hk => hk.2) (.int .i64 t134)) (fun _ h_ => h_.1)))); (case side2 => exact (Kd.R_reads' HO_18.out).2.1); rintro e w82 ⟨rfl, hb⟩; refine ⟨_, rfl, ?_⟩; have n0_ := zam (Kd.R_below (by (with_reducible repeat (first | apply zRa | apply zRn | apply zRd)); exact (Kd.R_mono (Kd.R_far (p := ⟨gb136, 1, none⟩) (Kd.R_far (p := ⟨gb136, 0, none⟩) (Kd.R_types HO_11.out BK136.out (by decide)) (fun _ hk => hk.2) (.int .i64 t133)) (fun _ hk => hk.2) (.int .i64 t134)) (fun _ h_ => h_.1))) hb); have n1_ := zam (Kd.R_below (by (with_reducible repeat (first | apply zRa | apply zRn | apply zRd)); exact (Kd.R_mono (Kd.R_far (p := ⟨gb136, 1, none⟩) (Kd.R_far (p := ⟨gb136, 0, none⟩) (Kd.R_types HO_18.out BK136.out (by decide)) (fun _ hk => hk.2) (.int .i64 t133)) (fun _ hk => hk.2) (.int .i64 t134)) (fun _ h_ => h_.1))) hb); have n2_ := zam (zkb (g := gb132) (o := .cells #[.int .i64 t129, .int .i64 t130] 24 (0, 0)) (by (with_reducible repeat (first | refine zkn ?_ _ | refine zkd ?_ | refine zka ?_ _)); refine zkf ?_ NB132_136.out _; (with_reducible repeat (first | refine zkn ?_ _ | refine zkd ?_ | refine zka ?_ _)); refine zkf ?_ NB132_136.out _; (with_reducible repeat (first | refine zkn ?_ _ | refine zkd ?_ | refine zka ?_ _)); exact BK132.out) hb); have n3_ := zam (zkb (g := gb136) (o := .cells #[.int .i64 t133, .int .i64 t134] 24 (0, 0)) (by (with_reducible repeat (first | refine zkn ?_ _ | refine zkd ?_ | refine zka ?_ _)); refine blk_put (cs := #[.int .i64 t133, .int .i64 0]) ?_ 1 _ rfl; (with_reducible repeat (first | refine zkn ?_ _ | refine zkd ?_ | refine zka ?_ _)); refine blk_put (cs := #[.int .i64 0, .int .i64 0]) ?_ 0 _ rfl; (with_reducible repeat (first | refine zkn ?_ _ | refine zkd ?_ | refine zka ?_ _)); exact BK136.out) hb); have n4_ := zam (zbt (by repeat (first | (with_reducible first | exact HB.out | apply zba | apply zbn | apply zb1 | refine zbs ?_ GE132.out | refine zbs ?_ GE136.out) | exact HB.out)) hb); clear HO_11; clear HO_18; clear BK132; clear BK136; clear HB; have HO_11 := n0_; have HO_18 := n1_; have BK132 := n2_; have BK136 := n3_; have HB := n4_; clear n0_ n1_ n2_ n3_ n4_; (try clear hb); (try clear hb2); (try clear hk); (try clear hi)) | ((with_reducible refine zgd (N := 23) rfl ?_); (try (refine gate_guard (by rfl) ?_; dsimp only)); refine box_event ?hg (N := 23) ?hd (cs := #[.int .i64 0, .int .i64 0]) (t := 24) ?hr ?_; (case hd => rfl); (case hg => rfl); (case hr => first | (go_simp; done) | (go_simp; rfl)); intro gb140 hg w83 hbox hb; have n0_ := zam (Kd.R_below (by (with_reducible repeat (first | apply zRa | apply zRn | apply zRd)); exact HO_11.out) hb); have n1_ := zam (Kd.R_below (by (with_reducible repeat (first | apply zRa | apply zRn | apply zRd)); exact HO_18.out) hb); have n2_ := zam (zkb (g := gb132) (o := .cells #[.int .i64 t129, .int .i64 t130] 24 (0, 0)) (by (with_reducible repeat (first | refine zkn ?_ _ | refine zkd ?_ | refine zka ?_ _)); exact BK132.out) hb); have n3_ := zam (zkb (g := gb136) (o := .cells #[.int .i64 t133, .int .i64 t134] 24 (0, 0)) (by (with_reducible repeat (first | refine zkn ?_ _ | refine zkd ?_ | refine zka ?_ _)); exact BK136.out) hb); have n4_ := zam (zbt (by repeat (first | (with_reducible first | exact HB.out | apply zba | apply zbn | apply zb1 | refine zbs ?_ GE132.out | refine zbs ?_ GE136.out) | exact HB.out)) hb); have n5_ := zam (hbox); have n6_ := zam ((by rw [hg]; exact (zbz (by repeat (first | (with_reducible first | exact HB.out | apply zba | apply zbn | apply zb1 | refine zbs ?_ GE132.out | refine zbs ?_ GE136.out) | exact HB.out))) : w.heap.size ≤ gb140)); have n7_ := zam ((by rw [hg]; exact (zbz (by repeat (first | (with_reducible first | exact HB.out | apply zba | apply zbn | apply zb1 | refine zbs ?_ GE132.out | refine zbs ?_ GE136.out) | exact HB.out))) : w.heap.size ≤ gb140)); have n8_ := zam ((by rw [hg]; exact Nat.ne_of_lt (blk_lt (g := gb132) (o := .cells #[.int .i64 t129, .int .i64 t130] 24 (0, 0)) (by (with_reducible repeat (first | refine zkn ?_ _ | refine zkd ?_ | refine zka ?_ _)); exact BK132.out)) : gb132 ≠ gb140)); have n9_ := zam ((by rw [hg]; exact Nat.ne_of_gt (blk_lt (g := gb132) (o := .cells #[.int .i64 t129, .int .i64 t130] 24 (0, 0)) (by (with_reducible repeat (first | refine zkn ?_ _ | refine zkd ?_ | refine zka ?_ _)); exact BK132.out)) : gb140 ≠ gb132)); have n10_ := zam ((by rw [hg]; exact Nat.ne_of_lt (blk_lt (g := gb136) (o := .cells #[.int .i64 t133, .int .i64 t134] 24 (0, 0)) (by (with_reducible repeat (first | refine zkn ?_ _ | refine zkd ?_ | refine zka ?_ _)); exact BK136.out)) : gb136 ≠ gb140)); have n11_ := zam ((by rw [hg]; exact Nat.ne_of_gt (blk_lt (g := gb136) (o := .cells #[.int .i64 t133, .int .i64 t134] 24 (0, 0)) (by (with_reducible repeat (first | refine zkn ?_ _ | refine zkd ?_ | refine zka ?_ _)); exact BK136.out)) : gb140 ≠ gb136)); clear HO_11; clear HO_18; clear BK132; clear BK136; clear HB; have HO_11 := n0_; have HO_18 := n1_; have BK132 := n2_; have BK136 := n3_; have HB := n4_; have BK140 := n5_; have GW140 := n6_; have GE140 := n7_; have NB132_140 := n8_; have NB140_132 := n9_; have NB136_140 := n10_; have NB140_136 := n11_; clear n0_ n1_ n2_ n3_ n4_ n5_ n6_ n7_ n8_ n9_ n10_ n11_; clear hb hbox hg; have hnb84 := NB140_132.out; have hnc84 := NB132_140.out; have hnb85 := NB140_136.out; have hnc85 := NB136_140.out; have hcz86_0 : w83.cell? ⟨gb140, 0, none⟩ = some (.int .i64 0) := (zkc BK140.out 0).trans rfl; have hcz86_1 : w83.cell? ⟨gb140, 1, none⟩ = some (.int .i64 0) := (zkc BK140.out 1).trans rfl; have hfz86_0 := zkz BK140.out 0; have hfz86_1 := zkz BK140.out 1; have hcz87_0 : w83.cell? ⟨gb136, 0, none⟩ = some (.int .i64 t133) := (zkc BK136.out 0).trans rfl; have hcz87_1 : w83.cell? ⟨gb136, 1, none⟩ = some (.int .i64 t134) := (zkc BK136.out 1).trans rfl; have hfz87_0 := zkz BK136.out 0; have hfz87_1 := zkz BK136.out 1; have hcz88_0 : w83.cell? ⟨gb132, 0, none⟩ = some (.int .i64 t129) := (zkc BK132.out 0).trans rfl; have hcz88_1 : w83.cell? ⟨gb132, 1, none⟩ = some (.int .i64 t130) := (zkc BK132.out 1).trans rfl; have hfz88_0 := zkz BK132.out 0; have hfz88_1 := zkz BK132.out 1) | (go_at_call 14; (with_reducible refine (isobathlaw07_Works.calls k5  t141 _ A72.out).mono ?_); rintro e w89 ⟨rfl, hb⟩; have n0_ := zam (Kd.R_below (by (with_reducible repeat (first | apply zRa | apply zRn | apply zRd)); exact (Kd.R_mono (Kd.R_far (p := ⟨gb140, 1, none⟩) (Kd.R_far (p := ⟨gb140, 0, none⟩) (Kd.R_types HO_11.out BK140.out (by decide)) (fun _ hk => hk.2) (.int .i64 t137)) (fun _ hk => hk.2) (.int .i64 t138)) (fun _ h_ => h_.1))) hb); have n1_ := zam (Kd.R_below (by (with_reducible repeat (first | apply zRa | apply zRn | apply zRd)); exact (Kd.R_mono (Kd.R_far (p := ⟨gb140, 1, none⟩) (Kd.R_far (p := ⟨gb140, 0, none⟩) (Kd.R_types HO_18.out BK140.out (by decide)) (fun _ hk => hk.2) (.int .i64 t137)) (fun _ hk => hk.2) (.int .i64 t138)) (fun _ h_ => h_.1))) hb); have n2_ := zam (zkb (g := gb132) (o := .cells #[.int .i64 t129, .int .i64 t130] 24 (0, 0)) (by (with_reducible repeat (first | refine zkn ?_ _ | refine zkd ?_ | refine zka ?_ _)); refine zkf ?_ NB132_140.out _; (with_reducible repeat (first | refine zkn ?_ _ | refine zkd ?_ | refine zka ?_ _)); refine zkf ?_ NB132_140.out _; (with_reducible repeat (first | refine zkn ?_ _ | refine zkd ?_ | refine zka ?_ _)); exact BK132.out) hb); have n3_ := zam (zkb (g := gb136) (o := .cells #[.int .i64 t133, .int .i64 t134] 24 (0, 0)) (by (with_reducible repeat (first | refine zkn ?_ _ | refine zkd ?_ | refine zka ?_ _)); refine zkf ?_ NB136_140.out _; (with_reducible repeat (first | refine zkn ?_ _ | refine zkd ?_ | refine zka ?_ _)); refine zkf ?_ NB136_140.out _; (with_reducible repeat (first | refine zkn ?_ _ | refine zkd ?_ | refine zka ?_ _)); exact BK136.out) hb); have n4_ := zam (zkb (g := gb140) (o := .cells #[.int .i64 t137, .int .i64 t138] 24 (0, 0)) (by (with_reducible repeat (first | refine zkn ?_ _ | refine zkd ?_ | refine zka ?_ _)); refine blk_put (cs := #[.int .i64 t137, .int .i64 0]) ?_ 1 _ rfl; (with_reducible repeat (first | refine zkn ?_ _ | refine zkd ?_ | refine zka ?_ _)); refine blk_put (cs := #[.int .i64 0, .int .i64 0]) ?_ 0 _ rfl; (with_reducible repeat (first | refine zkn ?_ _ | refine zkd ?_ | refine zka ?_ _)); exact BK140.out) hb); have n5_ := zam (zbt (by repeat (first | (with_reducible first | exact HB.out | apply zba | apply zbn | apply zb1 | refine zbs ?_ GE132.out | refine zbs ?_ GE136.out | refine zbs ?_ GE140.out) | exact HB.out)) hb); clear HO_11; clear HO_18; clear BK132; clear BK136; clear BK140; clear HB; have HO_11 := n0_; have HO_18 := n1_; have BK132 := n2_; have BK136 := n3_; have BK140 := n4_; have HB := n5_; clear n0_ n1_ n2_ n3_ n4_ n5_; (try clear hb); (try clear hb2); (try clear hk); (try clear hi)))
                  go_ret
                  exact ⟨by first | rfl | (simp [errW_none, errW_some] <;> rfl) | (simp only [← hji10, ← hji62]; first | rfl | (simp [errW_none, errW_some] <;> rfl)) | (simp [*, errW_none, errW_some] <;> rfl), by repeat (first | (with_reducible first | exact HB.out | apply zba | apply zbn | apply zb1 | refine zbs ?_ GE132.out | refine zbs ?_ GE136.out | refine zbs ?_ GE140.out) | exact HB.out)⟩
                 rw [if_neg c71] at H
                 exact absurd H (by simp)
                rw [if_neg c70] at H
                exact absurd H (by simp)
               rw [if_neg c69] at H
               exact absurd H (by simp)
              rw [if_neg c68] at H
              exact absurd H (by simp)
             rw [if_neg c67] at H
             exact absurd H (by simp)
            rw [if_neg c66] at H
            exact absurd H (by simp)
           rw [if_neg c65] at H
           exact absurd H (by simp)
end Go.Proofs.Ytaheamdoldiojaa.P
namespace Go.Proofs.Ytaheamdoldiojaa.P
open Go.RowKit Go.Proofs.YtaheamdoldiojaaW.PrintWords Go.Proofs.YtaheamdoldiojaaW.PrintLast Go.Proofs.YtaheamdoldiojaaW.PrintMore
namespace soundLouder
open Go.ChangeShapes Go.WideShapes Go.ChangeAt
set_option linter.unusedVariables false
set_option linter.unusedSimpArgs false
def B24 (x : S24) : Prop := (fun n : Int => (Lit.int .i64 n).wf = true) x.f0 ∧ (fun n : Int => (Lit.int .i64 n).wf = true) x.f1
theorem opens24 : Opens Try.prog 24 k24 B24 := Opens.struct (fs := _) Try.underlying24 (fun x : S24 => (x.f0, x.f1)) (fun t => ⟨t.1, t.2⟩) (fun _ => rfl) (OpensF.cons rfl (by kernel_rfl) (Opens.int Try.underlying2) (OpensF.last rfl (by kernel_rfl) (Opens.int Try.underlying2)))
def Pure : Prop := ∀ (x0 : (List S24)) (x1 : Int) (x2 : Int) (x3 : Int) (x4 : Int), (fun xs : List S24 => xs.length ≤ 9223372036854775807 ∧ ∀ x ∈ xs, B24 x) x0 → (fun n : Int => (Lit.int .i64 n).wf = true) x1 → (fun n : Int => (Lit.int .u16 n).wf = true) x2 → (fun n : Int => (Lit.int .u8 n).wf = true) x3 → (fun n : Int => (Lit.int .u8 n).wf = true) x4 → ∃ k, isobathlaw07_SoundLouder.f k x0 x1 x2 x3 x4 = some true
theorem own : ownKnob Try.prog.godebug = none := by kernel_rfl
theorem laidOut : laidOutB Try.prog = true := by kernel_rfl
set_option maxRecDepth 100000 in
theorem lifted (hP : Pure) (os : Os) (started : os.Started) (H : Type) (enc : TypeId × Value → H) :
  ReturnsInHanded {} Try.checked os 6 .any (Rows.soundLouderSpec.pre6 enc Try.prog Try.f6 Rows.soundLouderRow.domain false) (Rows.soundLouderSpec.post enc Try.prog Try.f6 false true false false) := by
 refine returnsInHanded_of_change_sized (C := Try.checked) own started (by kernel_rfl) Try.func6
  (ChangeSpec.witness6 (enc := enc) (C := Try.checked) false ⟨#[], #[.slice none 0 0, .int .i64 0, .int .u16 0, .int .u8 0, .int .u8 0], []⟩ 8 (by kernel_rfl) (by kernel_rfl) (by kernel_rfl) (by kernel_rfl)) ?_
 intro W base args ds gs before hval0 hW hcnd hsz0 _
 have hval : ∀ (j : Nat) t v, Try.f6.params[j]? = some t → args[j]? = some v → Value.okWide Try.prog W .any base t v := hval0
 have hW' := hW
 obtain ⟨p, q, hA0, hV, rfl, hfz, hnd⟩ := hW
 have hA : DataW.TrodAll enc Try.prog W 0 (fun _ => true) true Try.f6.params.toList args.toList ds p := hA0
 rw [Try.params6] at hA hval
 obtain ⟨v0, vs0, d0, ds0, p0, q0, hargs, rfl, rfl, h0, r0⟩ := trodAll_cons hA
 obtain ⟨v1, vs1, d1, ds1, p1, q1, rfl, rfl, rfl, h1, r1⟩ := trodAll_cons r0
 obtain ⟨v2, vs2, d2, ds2, p2, q2, rfl, rfl, rfl, h2, r2⟩ := trodAll_cons r1
 obtain ⟨v3, vs3, d3, ds3, p3, q3, rfl, rfl, rfl, h3, r3⟩ := trodAll_cons r2
 obtain ⟨v4, vs4, d4, ds4, p4, q4, rfl, rfl, rfl, h4, r4⟩ := trodAll_cons r3
 obtain ⟨rfl, rfl, rfl⟩ := trodAll_nil r4
 obtain rfl : args = #[v0, v1, v2, v3, v4] := by cases args; simp_all
 obtain ⟨rfl, rfl⟩ := trodVars_none hV
 have k0 := h0
 have lt0 : ∀ x ∈ p0, x.block < W.heap.size := by obtain ⟨m, hm⟩ := k0; exact DataW.trod_lt m _ _ _ hm
 obtain ⟨m0, hm0⟩ := h0
 obtain ⟨x0, hk0, w0⟩ := Opens.run (Opens.slice Try.underlying27 (by kernel_rfl) opens24) hm0
 obtain ⟨a0, len0, cap0, rfl⟩ := okWide_slice Try.underlying27 (hval 0 27 v0 rfl rfl)
 obtain ⟨A0, c0, hcs0, hc0, hr0⟩ := hk0
 simp [Value.cells] at hcs0
 obtain ⟨rfl, rfl, rfl⟩ := hcs0
 obtain ⟨x1, rfl, rfl, rfl, w1⟩ := open_int Try.underlying2 (hval 1 2 v1 rfl rfl) h1
 obtain ⟨x2, rfl, rfl, rfl, w2⟩ := open_int Try.underlying48 (hval 2 48 v2 rfl rfl) h2
 obtain ⟨x3, rfl, rfl, rfl, w3⟩ := open_int Try.underlying5 (hval 3 5 v3 rfl rfl) h3
 obtain ⟨x4, rfl, rfl, rfl, w4⟩ := open_int Try.underlying5 (hval 4 5 v4 rfl rfl) h4
 clear hA0 hval0 hsz0
 obtain ⟨k, hf⟩ := hP x0 x1 x2 x3 x4 w0 w1 w2 w3 w4
 refine (isobathlaw07_SoundLouder.calls (k := k) (A0 := a0) (c0 := cap0) (l0 := x0) (a1 := x1) (a2 := x2) (a3 := x3) (a4 := x4) (r := true) (w := W) (hr0 := hr0) (hc0 := hc0) (h := hf)).mono fun e W' ⟨he, hd⟩ => ?_
 have bel : Below W.heap.size W W' := by first | exact hd | (obtain ⟨m, rfl⟩ := hd; exact zbn (Below.refl _ _) m)
 subst he
 exact ⟨_, rfl, _, _, _, [], _, [], hW', trodAll_mk1 (shut_bool Try.underlying4 _), (trodAll_cons_mk (Below.trod laidOut (by kernel_rfl) (zod (by kernel_rfl)) k0 bel lt0) (trodAll_cons_mk (shut_int Try.underlying2 w1) (trodAll_cons_mk (shut_int Try.underlying48 w2) (trodAll_cons_mk (shut_int Try.underlying5 w3) (trodAll_cons_mk (shut_int Try.underlying5 w4) trodAll_mk0))))), rfl, bel.frame _, fun h => by cases h⟩
theorem over (hP : Pure) : Rows.soundLouderRow.holds Try.pinned (OpenSpec.ofChange Rows.soundLouderSpec) :=
 OpenClaim.holds_of_wide 6 Try.f6 rfl rfl rfl rfl rfl rfl rfl ⟨rfl, rfl, rfl, rfl, rfl⟩ rfl rfl rfl rfl rfl (by kernel_rfl) Try.func6 (by kernel_rfl)
  (zod (by kernel_rfl)) (by unfold Func.isWrapper; first | (rw [if_pos (by decide +kernel)]; kernel_rfl) | (rw [if_neg (by decide +kernel)]; exact ⟨rfl, rfl⟩))
  (fun os started H enc _ => lifted hP os started H enc)
theorem proved (hP : Pure) : Rows.SoundLouderSaid := over hP
end soundLouder
end Go.Proofs.Ytaheamdoldiojaa.P
namespace Go.Proofs.Ytaheamdoldiojaa.P
open Go.RowKit Go.Proofs.YtaheamdoldiojaaW.PrintWords Go.Proofs.YtaheamdoldiojaaW.PrintLast Go.Proofs.YtaheamdoldiojaaW.PrintMore
attribute [local go_sem] max2_int min2_int max_two min_two max_three min_three max_four min_four   -- for this text's walks alone
set_option linter.unusedVariables false
set_option linter.unusedSimpArgs false
theorem Sp.cnt_longer (n1 n2 : Int) (h1 : 1 ≤ n1) (h : n1 ≤ n2) : ∀ (b : List Bool) (r : Int), Sp.cnt n2 r b ≤ Sp.cnt n1 r b + if n1 ≤ r ∧ r < n2 then 1 else 0
 | [], r => by
  simp only [Sp.cnt]
  split <;> omega
 | true :: b, r => by
  have ih := Sp.cnt_longer n1 n2 h1 h b (r + 1)
  rw [Sp.cnt, Sp.cnt]
  generalize Sp.cnt n2 (r + 1) b = x at *
  generalize Sp.cnt n1 (r + 1) b = y at *
  repeat' split at ih
  all_goals repeat' split
  all_goals omega
 | false :: b, r => by
  have ih := Sp.cnt_longer n1 n2 h1 h b 0
  rw [if_neg (by omega)] at ih
  rw [Sp.cnt, Sp.cnt]
  split <;> omega
theorem Sp.ext_longer (n1 n2 : Nat) (h1 : 1 ≤ n1) (h : n1 ≤ n2) (l : List Int) : Sp.ext n2 false l 0 ≤ Sp.ext n1 false l 0 ∧ Sp.ext n2 true l 0 ≤ Sp.ext n1 true l 0 := by
 obtain ⟨b, hb, e⟩ := Sp.cnt_reached n1 false l
 obtain ⟨c, hc, e2⟩ := Sp.cnt_reached n2 true l
 have a1 := (Sp.cnt_between n2 l b hb).1
 have a2 := (Sp.cnt_between n1 l c hc).2
 have a3 := Sp.cnt_longer n1 n2 (by omega) (by omega) b 0
 have a4 := Sp.cnt_longer n1 n2 (by omega) (by omega) c 0
 rw [if_neg (by omega)] at a3 a4
 omega
theorem Sp.ext_finer (n : Nat) (a c : List Int) (hl : c.length = a.length) (h : ∀ i, i < a.length → a.getD i 0 = 1 ∨ c.getD i 0 = a.getD i 0) : Sp.ext n false a 0 ≤ Sp.ext n false c 0 ∧ Sp.ext n true c 0 ≤ Sp.ext n true a 0 := by
 have F : ∀ b, Bst.Fit c c.length b → Bst.Fit a a.length b := fun b hb => ⟨by rw [hb.1, hl], fun j hj => by
  have h2 := hb.2 j (by omega)
  rcases h j hj with e | e
  ·rw [e]
   unfold Bst.may
   split <;> omega
  rw [← e]
  exact h2⟩
 obtain ⟨b, hb, e⟩ := Sp.cnt_reached n false c
 obtain ⟨b2, hb2, e2⟩ := Sp.cnt_reached n true c
 have a1 := (Sp.cnt_between n a b (F b hb)).1
 have a2 := (Sp.cnt_between n a b2 (F b2 hb2)).2
 omega
theorem Sp.loud1_mono {h h' : Int} (hh : h' ≤ h) (s : S24) (hs : s.f0 ≤ s.f1) : Sp.loud1 h s ≤ Sp.loud1 h' s := by
 unfold Sp.loud1
 repeat' split
 all_goals omega
theorem Sp.loud1_ok (h : Int) (s : S24) : 0 ≤ Sp.loud1 h s ∧ Sp.loud1 h s ≤ 2 := by
 unfold Sp.loud1
 repeat' split
 all_goals omega
def Sp.nar (s : S24) : S24 := ⟨s.f0 + (s.f1 - s.f0) / 3, s.f1 - (s.f1 - s.f0) / 3⟩
theorem Sp.nar_v (s : S24) (h : Bo.v s.f0 s.f1) : Bo.v (Sp.nar s).f0 (Sp.nar s).f1 := by
 unfold Bo.v at *
 unfold Sp.nar
 dsimp only
 omega
theorem Sp.nar_loud (h : Int) (s : S24) (hs : s.f0 ≤ s.f1) : Sp.loud1 h s = 1 ∨ Sp.loud1 h (Sp.nar s) = Sp.loud1 h s := by
 unfold Sp.loud1 Sp.nar
 dsimp only
 repeat' split
 all_goals omega
theorem Sp.nar_w (s : S24) (h : Bo.v s.f0 s.f1) : (⟨wrap64 (s.f0 + (wrap64 (Int.tdiv (wrap64 (s.f1 - s.f0)) 3))), wrap64 (s.f1 - (wrap64 (Int.tdiv (wrap64 (s.f1 - s.f0)) 3)))⟩ : S24) = Sp.nar s := by
 obtain ⟨h1, h2, h3⟩ := h
 unfold Sp.nar
 rw [wrap_id (n := s.f1 - s.f0) (by omega) (by omega), tdiv_pos (by omega), wrap_id (n := (s.f1 - s.f0) / 3) (by omega) (by omega), wrap_id (by omega) (by omega), wrap_id (by omega) (by omega)]
theorem Sp.map_getD {α : Type} (f : α → Int) (l : List α) (i : Nat) (h : i < l.length) : (l.map f).getD i 0 = f l[i] := by simp [List.getD, h]
theorem Sp.ans_map {α : Type} (f : α → Int) (hf : ∀ s, 0 ≤ f s ∧ f s ≤ 2) (l : List α) (hl : l.length ≤ 256) (n : Int) (h1 : 1 ≤ n) (h2 : n ≤ 256) : Sp.ans (l.map f) n = 0 := by
 unfold Sp.ans
 rw [if_neg (by simp; omega), if_pos ?_, if_neg (by omega)]
 refine List.all_eq_true.2 fun x hx => ?_
 obtain ⟨s, _, rfl⟩ := List.mem_map.1 hx
 have := hf s
 simp [Sp.aOk, this.1, this.2]
theorem Sp.louder_l1 (l : List S24) (h x3 x4 : Int) (hl : l.length ≤ 256) (hv : ∀ s ∈ l, Bo.v s.f0 s.f1) (h3 : 0 ≤ x3) (h3' : x3 ≤ 255) (h4 : 0 ≤ x4) (h4' : x4 ≤ 255) (K : Nat) (hK : 300 ≤ K) : ∀ (d i : Nat), i + d = l.length → isobathlaw07_SoundLouder.l1 (K + d + 1) l x3 x4 (l.map (Sp.loud1 h)) ((l.map Sp.nar).map (Sp.loud1 h)) (i : Int) = some true
 | 0, i, hi => by
  rw [show K + 0 + 1 = K + 1 by omega, isobathlaw07_SoundLouder.l1, if_neg (by omega)]
  have e1 : wrap64 x3 = x3 := wrap_id (by omega) (by omega)
  have e2 : wrap64 x4 = x4 := wrap_id (by omega) (by omega)
  have e3 : Int.tmod x3 200 = x3 % 200 := Int.tmod_eq_emod_of_nonneg h3
  have e4 : wrap64 (1 + x3 % 200) = 1 + x3 % 200 := wrap_id (by omega) (by omega)
  rw [e1, e2, e3, e4, wrap_id (n := 1 + x3 % 200 + x4) (by omega) (by omega), Bo.mnE]
  obtain ⟨n1, hn1⟩ : ∃ n1 : Nat, 1 + x3 % 200 = (n1 : Int) := ⟨(1 + x3 % 200).toNat, by omega⟩
  obtain ⟨n2, hn2⟩ : ∃ n2 : Nat, min 256 (1 + x3 % 200 + x4) = (n2 : Int) := ⟨(min 256 (1 + x3 % 200 + x4)).toNat, by omega⟩
  rw [hn2, hn1]
  have A1 : Sp.ans (l.map (Sp.loud1 h)) (n1 : Int) = 0 := Sp.ans_map _ (Sp.loud1_ok h) l hl _ (by omega) (by omega)
  have A2 : Sp.ans (l.map (Sp.loud1 h)) (n2 : Int) = 0 := Sp.ans_map _ (Sp.loud1_ok h) l hl _ (by omega) (by omega)
  have A3 : Sp.ans ((l.map Sp.nar).map (Sp.loud1 h)) (n1 : Int) = 0 := Sp.ans_map _ (Sp.loud1_ok h) _ (by simpa using hl) _ (by omega) (by omega)
  have C : ∀ (a : List Int) (n : Nat), Sp.ans a (n : Int) = 0 → Sp.count a (n : Int) = (Sp.ext n false a 0, Sp.ext n true a 0, 0) := fun a n ha => by
   unfold Sp.count
   rw [if_pos ha, Int.toNat_natCast]
  have L := Sp.ext_longer n1 n2 (by omega) (by omega) (l.map (Sp.loud1 h))
  have F := Sp.ext_finer n1 (l.map (Sp.loud1 h)) ((l.map Sp.nar).map (Sp.loud1 h)) (by simp) (fun i hi => by
   have hi' : i < l.length := by simpa using hi
   rw [Sp.map_getD _ l i hi', List.map_map, Sp.map_getD _ l i hi']
   exact Sp.nar_loud h l[i] (hv _ (List.getElem_mem hi')).1)
  rw [Sp.count_b _ _ (by omega), Sp.count_b _ _ (by omega), Sp.count_b _ _ (by omega), C _ _ A1, C _ _ A2, C _ _ A3]
  simp only [Option.bind_some, if_true]
  rw [if_pos L.1, if_pos L.2, if_pos F.1, if_pos F.2, Sp.works (by omega)]
  rfl
 | d + 1, i, hi => by
  have hlt : i < l.length := by omega
  have ih := Sp.louder_l1 l h x3 x4 hl hv h3 h3' h4 h4' K hK d (i + 1) (by omega)
  have r1 : rd (l.map (Sp.loud1 h)) (i : Int) = Sp.loud1 h l[i] := by rw [rd_nat (by simpa using hlt)]; simp
  have r2 : rd ((l.map Sp.nar).map (Sp.loud1 h)) (i : Int) = Sp.loud1 h (Sp.nar l[i]) := by rw [rd_nat (by simpa using hlt)]; simp
  rw [show K + (d + 1) + 1 = (K + d + 1) + 1 by omega, isobathlaw07_SoundLouder.l1, if_pos (by omega), if_pos (by omega), if_pos (by simp; omega), r1, r2, wrap_succ hlt (by omega), ih]
  rcases Sp.nar_loud h l[i] (hv _ (List.getElem_mem hlt)).1 with e | e
  ·rw [if_pos e]
  by_cases e1 : Sp.loud1 h l[i] = 1
  ·rw [if_pos e1]
  rw [if_neg e1, if_pos (by simp; omega), if_pos e]
theorem Sp.louder_l0 (l : List S24) (h h' x3 x4 : Int) (hh : h' ≤ h) (hr : -1073741824 ≤ h ∧ h ≤ 1073741824) (hl : l.length ≤ 256) (hv : ∀ s ∈ l, Bo.v s.f0 s.f1) (h3 : 0 ≤ x3) (h3' : x3 ≤ 255) (h4 : 0 ≤ x4) (h4' : x4 ≤ 255) (K : Nat) (hK : 300 ≤ K) : ∀ (d i : Nat), i + d = l.length → isobathlaw07_SoundLouder.l0 (K + l.length + 2 + d + 1) l h x3 x4 (l.map (Sp.loud1 h)) (l.map (Sp.loud1 h')) ((l.take i).map Sp.nar) (i : Int) = some true
 | 0, i, hi => by
  rw [show K + l.length + 2 + 0 + 1 = (K + l.length + 2) + 1 by omega, isobathlaw07_SoundLouder.l0, if_neg (by omega), List.take_of_length_le (by omega), Sp.loud_b _ _ (by omega), Option.bind_some]
  have ht : Sp.track (l.map Sp.nar) = 0 := by
   unfold Sp.track
   rw [if_neg (by simp; omega), if_pos]
   refine List.all_eq_true.2 fun x hx => ?_
   obtain ⟨s, hs, rfl⟩ := List.mem_map.1 hx
   simp [Sp.v, Sp.nar_v s (hv s hs)]
  have hL : Sp.loud (l.map Sp.nar) h = ((l.map Sp.nar).map (Sp.loud1 h), 0) := by
   unfold Sp.loud
   rw [if_pos ht, if_pos hr]
  rw [hL]
  simp only [if_true]
  have hb : ((((l.map Sp.nar).map (Sp.loud1 h)).length : Int) != (l.length : Int)) = false := by simp
  rw [hb, show K + l.length + 2 = (K + l.length + 1) + 1 by omega, isobathlaw07_SoundLouder.j3, if_neg (by decide)]
  exact Sp.louder_l1 l h x3 x4 hl hv h3 h3' h4 h4' K hK l.length 0 (by omega)
 | d + 1, i, hi => by
  have hlt : i < l.length := by omega
  have ih := Sp.louder_l0 l h h' x3 x4 hh hr hl hv h3 h3' h4 h4' K hK d (i + 1) (by omega)
  have hvi := hv _ (List.getElem_mem hlt)
  have r1 : rd (l.map (Sp.loud1 h)) (i : Int) = Sp.loud1 h l[i] := by rw [rd_nat (by simpa using hlt)]; simp
  have r2 : rd (l.map (Sp.loud1 h')) (i : Int) = Sp.loud1 h' l[i] := by rw [rd_nat (by simpa using hlt)]; simp
  have hm := Sp.loud1_mono hh l[i] hvi.1
  rw [take_snoc hlt, List.map_append] at ih
  rw [show K + l.length + 2 + (d + 1) + 1 = (K + l.length + 2 + d + 1) + 1 by omega, isobathlaw07_SoundLouder.l0, if_pos (by omega), if_pos (by omega), if_pos (by simp; omega), if_pos (by simp; omega), r1, r2, if_neg (by omega), if_pos (by simp; omega), Sp.rdT l i hlt, Sp.nar_w _ hvi, wrap_succ hlt (by omega)]
  exact ih
theorem Sp.louder (l : List S24) (h x2 x3 x4 : Int) (hw1 : -9223372036854775808 ≤ h) (hw2 : h ≤ 9223372036854775807) (h2 : 0 ≤ x2) (h2' : x2 ≤ 65535) (h3 : 0 ≤ x3) (h3' : x3 ≤ 255) (h4 : 0 ≤ x4) (h4' : x4 ≤ 255) : ∃ k, isobathlaw07_SoundLouder.f k l h x2 x3 x4 = some true := by
 refine ⟨300 + l.length + 2 + l.length + 1 + 1 + 1, ?_⟩
 obtain ⟨K, hK⟩ : ∃ K, 300 + l.length + 2 + l.length + 1 + 1 = K := ⟨_, rfl⟩
 rw [hK]
 have hK3 : 300 ≤ K := by omega
 have hW := Sp.works (k := K) (by omega)
 have hW1 := Sp.works (k := K + 1) (by omega)
 unfold isobathlaw07_SoundLouder.f
 by_cases h1 : (l.length : Int) > 256
 ·rw [if_pos h1, hW1]
  rfl
 rw [if_neg h1, Sp.loud_b l _ (by omega), Sp.loud_b l _ (by omega), Option.bind_some, Option.bind_some]
 by_cases ht : Sp.track l = 0
 ·by_cases hr : -1073741824 ≤ h ∧ h ≤ 1073741824
  ·have e1 : wrap64 (h - wrap64 x2) = h - x2 := by
    rw [wrap_id (n := x2) (by omega) (by omega), wrap_id (by omega) (by omega)]
   obtain ⟨t1, t2⟩ := Sp.track_ok ht
   have g1 : Sp.loud l h = (l.map (Sp.loud1 h), 0) := by
    unfold Sp.loud
    rw [if_pos ht, if_pos hr]
   have g2 : Sp.loud l (max (-1073741824) (h - x2)) = (l.map (Sp.loud1 (max (-1073741824) (h - x2))), 0) := by
    unfold Sp.loud
    rw [if_pos ht, if_pos (by omega)]
   rw [e1, Bo.mxE, g1, g2]
   simp only [if_true]
   rw [show ((0 : Int) != 0) = false from rfl, isobathlaw07_SoundLouder.j0, if_neg (by decide), if_pos (by simp)]
   have hb : (((l.map (Sp.loud1 (max (-1073741824) (h - x2)))).length : Int) != (l.length : Int)) = false := by simp
   rw [hb, ← hK, isobathlaw07_SoundLouder.j1, if_neg (by decide)]
   exact Sp.louder_l0 l h _ x3 x4 (by omega) hr t1 t2 h3 h3' h4 h4' 300 (by omega) l.length 0 (by omega)
  have g1 : Sp.loud l h = ([], 3) := by
   unfold Sp.loud
   rw [if_pos ht, if_neg hr]
  rw [g1]
  simp only [show ¬ ((3 : Int) = 0) by decide, if_false]
  rw [isobathlaw07_SoundLouder.j0, if_pos rfl, hW]
  simp only [Option.bind_some]
  split
  ·rfl
  split
  ·rfl
  rw [if_pos (by omega)]
 have g1 : ∀ x, Sp.loud l x = ([], Sp.track l) := fun x => by
  unfold Sp.loud
  rw [if_neg ht]
 rw [g1, g1]
 simp only
 rw [if_neg ht, isobathlaw07_SoundLouder.j0, if_pos rfl, if_pos rfl, hW]
 rfl
theorem soundLouder_holds : Rows.SoundLouderSaid := soundLouder.proved fun l h x2 x3 x4 _ w1 w2 w3 w4 => Sp.louder l h x2 x3 x4 (Sp.i64 w1).1 (Sp.i64 w1).2 (Sp.u16 w2).1 (Sp.u16 w2).2 (Sp.u8 w3).1 (Sp.u8 w3).2 (Sp.u8 w4).1 (Sp.u8 w4).2
#print axioms soundLouder_holds
end Go.Proofs.Ytaheamdoldiojaa.P
